/- A region that draws its order, with quiet operations (one value in every world of a class) and writers that stand in one order: one walk in the text's order serves every order. Plain theorems over any program. -/
import Derived.Test.YtaakpcmflladaaaDoorHv
import Derived.Orders
import Derived.Deep.Quiet
set_option linter.all false
namespace Go.Proofs.YtaakpcmflladaaaDoor
namespace Hv
open Go

variable {P : Program} {ops : Array Oper} {C : World → Prop} {ws : Nat → Bool}
/-- A normal end alone. -/
def OnlyN (K : Act → World → Prop) : Exit → Act → World → Prop
  | .normal, a, w => K a w
  | _, _, _ => False
theorem onlyN {K : Act → World → Prop} {a : Act} {w : World} (h : K a w) : OnlyN K .normal a w := h
theorem OnlyN.lets {K : Act → World → Prop} : ¬ LetsOut (OnlyN K) := fun ⟨_, _, h⟩ => h

def YieldQ (P : Program) (C : World → Prop) (o : Oper) (v : Value) (a : Act) : Prop :=
  ∀ w, C w → (execOp a.eval o).run P w = .ok (.value v) w ∨ ((execOp a.eval o).run P w = .ok .skip w ∧ v = undef)
def YieldG (P : Program) (ops : Array Oper) (C : World → Prop) (o : Oper) (v : Value) (a : Act) : Prop :=
  (Region.wanted o (yielded ops a.tmps) = true ∧ YieldQ P C o v a) ∨ (Region.wanted o (yielded ops a.tmps) = false ∧ v = undef)
theorem YieldG.unique {o : Oper} {v v' : Value} {a : Act} {w : World} (hC : C w) (h : YieldG P ops C o v a) (h' : YieldG P ops C o v' a) : v = v' := by
  rcases h with ⟨h1, h2⟩ | ⟨h1, h2⟩ <;> rcases h' with ⟨h3, h4⟩ | ⟨h3, h4⟩
  · rcases h2 w hC with h5 | ⟨h5, rfl⟩ <;> rcases h4 w hC with h6 | ⟨h6, rfl⟩ <;> rw [h5] at h6 <;> injection h6 with h6 _ <;> first | (injection h6) | rfl
  · rw [h1] at h3; cases h3
  · rw [h1] at h3; cases h3
  · rw [h2, h4]
theorem YieldG.put {oi ok : Oper} {v u : Value} {a : Act} (hs : ∀ cs b, oi.op ≠ .select cs b) (h : ∀ d, ok.dst = some d → d ∉ oi.looksAt ops) : YieldG P ops C oi v (a.put ok.dst u) ↔ YieldG P ops C oi v a := by
  unfold YieldG YieldQ
  rw [execOp_put oi hs a ok.dst u h, wanted_put oi a ok.dst u h]

/-- The writer's step: it ends normally, in a world of the class. -/
def wpW (P : Program) (ops : Array Oper) (o : Oper) (K : Act → World → Prop) (a : Act) (w : World) : Prop :=
  if Region.wanted o (yielded ops a.tmps) then o.wp P a w (fun a' w' => a'.defers = a.defers ∧ K a' w') (fun _ _ _ => False) else K (a.put o.dst undef) w
def wpMix (P : Program) (ops : Array Oper) (C : World → Prop) (ws : Nat → Bool) (Q : Act → World → Prop) : List Nat → Act → World → Prop
  | [], a, w => Q a w
  | k :: l, a, w => match ops[k]? with
    | none => False
    | some o => if ws k then wpW P ops o (fun a' w' => C w' ∧ wpMix P ops C ws Q l a' w') a w else ∃ v, YieldG P ops C o v a ∧ wpMix P ops C ws Q l (a.put o.dst v) w
theorem Act.put_def (a : Act) (d : Option Tmp) (v : Value) : (a.put d v).defers = a.defers := by cases d <;> rfl
theorem cons_ne {α : Type} (x : α) (l : List α) : x :: l ≠ l := fun h => by have := congrArg List.length h; simp at this
/-- What a step leads to: some value in its place. -/
theorem wp_out {o : Oper} {a : Act} {w : World} {K : Act → World → Prop} (h : o.wp P a w (fun a' w' => a'.defers = a.defers ∧ K a' w') (fun _ _ _ => False)) : ∃ v w', K (a.put o.dst v) w' := by
  unfold Oper.wp at h
  generalize hr : (execOp a.eval o).run P w = r at h
  cases r with
  | halt x w' => cases x <;> exact h.elim
  | ok n w' =>
    cases n with
    | value v => exact ⟨v, w', h.2⟩
    | skip => exact ⟨undef, w', h.2⟩
    | defer d => exact absurd h.1 (by rw [Act.put_def]; exact cons_ne _ _)
    | enter f args =>
      obtain ⟨e, w'', fr, hR, _⟩ := (show Calls P f args w' _ from h) []
      cases e with
      | returned v => exact ⟨v, w'', hR.2⟩
      | panicked c => exact hR.elim
      | outgrown => obtain ⟨_, _, h⟩ := hR; exact h.elim
    | row r args =>
      obtain ⟨v, w'', hR, _⟩ := (show Go.Rows P r args w' _ from h) default []
      exact ⟨v, w'', hR.2⟩
    | _ => exact h.elim
/-- A writer's step with another operation's value laid beside it. -/
theorem wp_beside {o : Oper} {a : Act} {w : World} {K K' : Act → World → Prop} {d : Option Tmp} {u : Value} (hs : ∀ cs b, o.op ≠ .select cs b) (h1 : ∀ x, d = some x → x ∉ o.looksAt ops)
    (hK : ∀ v w', K (a.put o.dst v) w' → K' ((a.put d u).put o.dst v) w')
    (h : o.wp P a w (fun a' w' => a'.defers = a.defers ∧ K a' w') (fun _ _ _ => False)) : o.wp P (a.put d u) w (fun a' w' => a'.defers = (a.put d u).defers ∧ K' a' w') (fun _ _ _ => False) := by
  unfold Oper.wp at *
  rw [execOp_put o hs a d u h1]
  generalize (execOp a.eval o).run P w = r at *
  have hd : ∀ v, ((a.put d u).put o.dst v).defers = (a.put d u).defers := fun v => Act.put_def _ _ _
  cases r with
  | halt x w' => cases x <;> exact h.elim
  | ok n w' =>
    cases n with
    | value v => exact ⟨hd v, hK v w' h.2⟩
    | skip => exact ⟨hd _, hK _ w' h.2⟩
    | defer d' => exact absurd h.1 (by rw [Act.put_def]; exact cons_ne _ _)
    | enter f args =>
      refine (show Calls P f args w' _ from h).mono ?_
      intro e w'' hR
      cases e with
      | returned v => exact ⟨hd v, hK v w'' hR.2⟩
      | panicked c => exact hR.elim
      | outgrown => obtain ⟨_, _, h⟩ := hR; exact h.elim
    | row r args => exact (show Go.Rows P r args w' _ from h).mono fun v w'' hR => ⟨hd v, hK v w'' hR.2⟩
    | _ => exact h.elim
theorem wpW_beside {o : Oper} {a : Act} {w : World} {K K' : Act → World → Prop} {d : Option Tmp} {u : Value} (hs : ∀ cs b, o.op ≠ .select cs b) (h1 : ∀ x, d = some x → x ∉ o.looksAt ops)
    (hK : ∀ v w', K (a.put o.dst v) w' → K' ((a.put d u).put o.dst v) w') (h : wpW P ops o K a w) : wpW P ops o K' (a.put d u) w := by
  unfold wpW at *
  rw [wanted_put o a d u h1]
  split
  · rename_i hw; rw [if_pos hw] at h; exact wp_beside hs h1 hK h
  · rename_i hw; rw [if_neg hw] at h; exact hK _ _ h
theorem wpW_out {o : Oper} {a : Act} {w : World} {K : Act → World → Prop} (h : wpW P ops o K a w) : ∃ v w', K (a.put o.dst v) w' := by
  unfold wpW at h
  split at h
  · exact wp_out h
  · exact ⟨undef, w, h⟩

/-- i may come ahead of whatever stands before it in l. -/
def FreeIn (ops : Array Oper) (ws : Nat → Bool) (i : Nat) (l : List Nat) : Prop :=
  ∀ k ∈ l, k < i → ∀ ok oi, ops[k]? = some ok → ops[i]? = some oi → ok.apart ops oi = true ∧ ¬ (ws k = true ∧ ws i = true)
variable {Q : Act → World → Prop}
theorem mix_yield (hsel : ∀ (j : Nat) (o : Oper) cs b, ops[j]? = some o → o.op ≠ .select cs b) {i : Nat} {oi : Oper} (hi : ops[i]? = some oi) (hq : ws i = false) :
    ∀ (l : List Nat), l.Pairwise (· < ·) → i ∈ l → FreeIn ops ws i l → ∀ a w, C w → wpMix P ops C ws Q l a w → ∃ v, YieldG P ops C oi v a
  | [], _, hm, _, _, _, _, _ => by cases hm
  | k :: l, hp, hm, hf, a, w, hC, h => by
    rw [List.pairwise_cons] at hp
    unfold wpMix at h
    by_cases hki : k = i
    · subst hki
      simp only [hi, hq] at h
      exact ⟨h.choose, h.choose_spec.1⟩
    · have hil : i ∈ l := by rcases List.mem_cons.1 hm with e | e; exact absurd e.symm hki; exact e
      have hlt : k < i := hp.1 i hil
      split at h
      · exact h.elim
      · rename_i ok hok
        obtain ⟨hap, _⟩ := hf k (by simp) hlt ok oi hok hi
        obtain ⟨h1, h2, h3⟩ := Oper.apart_spec hap
        split at h
        · obtain ⟨v, w', hC', h'⟩ := wpW_out h
          obtain ⟨u, hu⟩ := mix_yield hsel hi hq l hp.2 hil (fun j hj => hf j (List.mem_cons_of_mem _ hj)) _ w' hC' h'
          exact ⟨u, (YieldG.put (hsel i oi · · hi) h1).1 hu⟩
        · obtain ⟨v, _, h'⟩ := h
          obtain ⟨u, hu⟩ := mix_yield hsel hi hq l hp.2 hil (fun j hj => hf j (List.mem_cons_of_mem _ hj)) _ w hC h'
          exact ⟨u, (YieldG.put (hsel i oi · · hi) h1).1 hu⟩
theorem filter_ne_head {k : Nat} {l : List Nat} (hp : ∀ j ∈ l, k < j) : (k :: l).filter (· != k) = l := by
  rw [List.filter_cons]
  simp only [bne_self_eq_false, Bool.false_eq_true, if_false]
  exact List.filter_eq_self.2 fun j hj => by have := hp j hj; simp; omega
theorem filter_ne_tail {k i : Nat} {l : List Nat} (h : k ≠ i) : (k :: l).filter (· != i) = k :: l.filter (· != i) := by
  rw [List.filter_cons, if_pos (by simpa using h)]
theorem mix_quiet (hsel : ∀ (j : Nat) (o : Oper) cs b, ops[j]? = some o → o.op ≠ .select cs b) {i : Nat} {oi : Oper} (hi : ops[i]? = some oi) (hq : ws i = false) {v : Value} :
    ∀ (l : List Nat), l.Pairwise (· < ·) → i ∈ l → FreeIn ops ws i l → ∀ a w, C w → YieldG P ops C oi v a → wpMix P ops C ws Q l a w → wpMix P ops C ws Q (l.filter (· != i)) (a.put oi.dst v) w
  | [], _, hm, _, _, _, _, _, _ => by cases hm
  | k :: l, hp, hm, hf, a, w, hC, hy, h => by
    rw [List.pairwise_cons] at hp
    by_cases hki : k = i
    · subst hki
      rw [filter_ne_head hp.1]
      unfold wpMix at h
      simp only [hi, hq] at h
      obtain ⟨v', hy', h'⟩ := h
      rw [hy.unique hC hy']; exact h'
    · have hil : i ∈ l := by rcases List.mem_cons.1 hm with e | e; exact absurd e.symm hki; exact e
      have hlt : k < i := hp.1 i hil
      rw [filter_ne_tail hki]
      unfold wpMix at h ⊢
      cases hok : ops[k]? with
      | none => simp only [hok] at h
      | some ok =>
        simp only [hok] at h ⊢
        obtain ⟨hap, _⟩ := hf k (by simp) hlt ok oi hok hi
        obtain ⟨h1, h2, h3⟩ := Oper.apart_spec hap
        have hf' : FreeIn ops ws i l := fun j hj => hf j (List.mem_cons_of_mem _ hj)
        cases hwk : ws k with
        | true =>
          simp only [hwk, if_true] at h ⊢
          refine wpW_beside (hsel k ok · · hok) h3 (fun u w' hK => ⟨hK.1, ?_⟩) h
          have := mix_quiet hsel hi hq l hp.2 hil hf' _ w' hK.1 ((YieldG.put (hsel i oi · · hi) h1).2 hy) hK.2
          rw [Act.put_comm a u v h2] at this
          exact this
        | false =>
          simp only [hwk, Bool.false_eq_true, if_false] at h ⊢
          obtain ⟨u, hu, h'⟩ := h
          refine ⟨u, (YieldG.put (hsel k ok · · hok) h3).2 hu, ?_⟩
          have := mix_quiet hsel hi hq l hp.2 hil hf' _ w hC ((YieldG.put (hsel i oi · · hi) h1).2 hy) h'
          rw [Act.put_comm a u v h2] at this
          exact this
theorem mix_writer (hsel : ∀ (j : Nat) (o : Oper) cs b, ops[j]? = some o → o.op ≠ .select cs b) {i : Nat} {oi : Oper} (hi : ops[i]? = some oi) (hq : ws i = true) :
    ∀ (l : List Nat), l.Pairwise (· < ·) → i ∈ l → FreeIn ops ws i l → ∀ a w, C w → wpMix P ops C ws Q l a w → wpW P ops oi (fun a' w' => C w' ∧ wpMix P ops C ws Q (l.filter (· != i)) a' w') a w
  | [], _, hm, _, _, _, _, _ => by cases hm
  | k :: l, hp, hm, hf, a, w, hC, h => by
    rw [List.pairwise_cons] at hp
    by_cases hki : k = i
    · subst hki
      rw [filter_ne_head hp.1]
      unfold wpMix at h
      simpa only [hi, hq, if_true] using h
    · have hil : i ∈ l := by rcases List.mem_cons.1 hm with e | e; exact absurd e.symm hki; exact e
      have hlt : k < i := hp.1 i hil
      rw [filter_ne_tail hki]
      unfold wpMix at h
      cases hok : ops[k]? with
      | none => simp only [hok] at h
      | some ok =>
        simp only [hok] at h
        obtain ⟨hap, hww⟩ := hf k (by simp) hlt ok oi hok hi
        obtain ⟨h1, h2, h3⟩ := Oper.apart_spec hap
        have hf' : FreeIn ops ws i l := fun j hj => hf j (List.mem_cons_of_mem _ hj)
        have hwk : ws k = false := by
          cases hwk : ws k with
          | false => rfl
          | true => exact absurd ⟨hwk, hq⟩ hww
        simp only [hwk, Bool.false_eq_true, if_false] at h
        obtain ⟨u, hu, h'⟩ := h
        have ih := mix_writer hsel hi hq l hp.2 hil hf' _ w hC h'
        -- the writer at a.put k, brought back to a
        have back : ∀ v w', (C w' ∧ wpMix P ops C ws Q (l.filter (· != i)) ((a.put ok.dst u).put oi.dst v) w') → C w' ∧ wpMix P ops C ws Q (k :: l.filter (· != i)) (a.put oi.dst v) w' := by
          intro v w' ⟨hC', hK⟩
          refine ⟨hC', ?_⟩
          unfold wpMix
          simp only [hok, hwk, Bool.false_eq_true, if_false]
          refine ⟨u, (YieldG.put (hsel k ok · · hok) h3).2 hu, ?_⟩
          rw [← Act.put_comm a u v h2]; exact hK
        unfold wpW at ih ⊢
        rw [wanted_put oi a ok.dst u h1] at ih
        split
        · rename_i hw
          rw [if_pos hw] at ih
          unfold Oper.wp at *
          rw [execOp_put oi (hsel i oi · · hi) a ok.dst u h1] at ih
          generalize (execOp a.eval oi).run P w = r at *
          have hd : ∀ v, (a.put oi.dst v).defers = a.defers := fun v => Act.put_def _ _ _
          cases r with
          | halt x w' => cases x <;> exact ih.elim
          | ok n w' =>
            cases n with
            | value v => exact ⟨hd v, back v w' ih.2⟩
            | skip => exact ⟨hd _, back _ w' ih.2⟩
            | defer d' => exact absurd ih.1 (by rw [Act.put_def, Act.put_def]; exact cons_ne _ _)
            | enter f args =>
              refine (show Calls P f args w' _ from ih).mono ?_
              intro e w'' hR
              cases e with
              | returned v => exact ⟨hd v, back v w'' hR.2⟩
              | panicked c => exact hR.elim
              | outgrown => obtain ⟨_, _, h⟩ := hR; exact h.elim
            | row r args => exact (show Go.Rows P r args w' _ from ih).mono fun v w'' hR => ⟨hd v, back v w'' hR.2⟩
            | _ => exact ih.elim
        · rename_i hw
          rw [if_neg hw] at ih
          exact back _ _ ih

/-! ### Which operation waits for which -/
def waits (ops : Array Oper) : Nat → Nat → Nat → Bool
  | 0, _, _ => false
  | f + 1, j, k => match ops[j]? with
    | none => false
    | some o => o.after.any fun e => Region.binds .any e && (e.on == k || waits ops f e.on k)
def mixB (ops : Array Oper) (ws : Nat → Bool) (m : Nat) : Bool :=
  Region.noSelect ops && decide (m ≤ ops.size) && (List.range ops.size).all fun j =>
    (((ops[j]?).map fun o => o.after.all fun e => !Region.binds .any e || decide (e.on < j)).getD true) &&
    (List.range j).all fun k => waits ops ops.size j k || (decide (j < m) && ((ops[k]?).bind fun ok => (ops[j]?).map fun oj => ok.apart ops oj).getD true && !(ws k && ws j))
theorem waits_listed {listed : Array Bool} (dc : ∀ j o, ops[j]? = some o → listed.getD j true = true → ∀ e ∈ o.after, Region.binds .any e = true → listed.getD e.on false = true) (hsz : listed.size = ops.size) :
    ∀ f j k, listed.getD j false = true → waits ops f j k = true → listed.getD k false = true
  | 0, _, _, _, h => by simp [waits] at h
  | f + 1, j, k, hj, h => by
    unfold waits at h
    split at h
    · cases h
    · rename_i o ho
      obtain ⟨e, he, hb⟩ := Array.any_eq_true'.1 h
      simp only [Bool.and_eq_true, Bool.or_eq_true, beq_iff_eq] at hb
      have hl := dc j o ho (by
        have hjs : j < listed.size := by rw [hsz]; exact (Array.getElem?_eq_some_iff.1 ho).1
        simp [hjs] at hj ⊢; exact hj) e he hb.1
      rcases hb.2 with rfl | hb2
      · exact hl
      · exact waits_listed dc hsz f e.on k hl hb2
def rem (m : Nat) (listed : Array Bool) : List Nat := (List.range m).filter fun j => !listed.getD j true
theorem rem_set {listed : Array Bool} {m i : Nat} (hsz : m ≤ listed.size) : rem m (listed.setIfInBounds i true) = (rem m listed).filter (· != i) := by
  unfold rem
  rw [List.filter_filter]
  refine List.filter_congr fun j hj => ?_
  by_cases h : i = j
  · subst h
    have : i < listed.size := by have := List.mem_range.1 hj; omega
    simp [this]
  · rw [getD_set_ne true h]
    have : (j != i) = true := by simp; omega
    rw [this, Bool.true_and]
theorem rem_pair {m : Nat} {listed : Array Bool} : (rem m listed).Pairwise (· < ·) := List.Pairwise.filter _ (List.pairwise_lt_range)
theorem wpOp_of_W {i : Nat} {o : Oper} {K : Act → World → Prop} {K' : Act → World → Prop} {a : Act} {w : World} (hi : ops[i]? = some o) (hK : ∀ a w, K a w → K' a w) (h : wpW P ops o K a w) : wpOp P ops (OnlyN Q) i K' a w := by
  unfold wpOp
  simp only [hi]
  unfold wpW at h
  split
  · rename_i hw
    rw [if_pos hw] at h
    left
    unfold Oper.wp at *
    generalize (execOp a.eval o).run P w = r at *
    cases r with
    | halt x w' => cases x <;> exact h.elim
    | ok n w' =>
      cases n with
      | value v => exact hK _ _ h.2
      | skip => exact hK _ _ h.2
      | defer d' => exact absurd h.1 (by rw [Act.put_def]; exact cons_ne _ _)
      | enter f args =>
        refine (show Calls P f args w' _ from h).mono ?_
        intro e w'' hR
        cases e with
        | returned v => exact hK _ _ hR.2
        | panicked c => exact hR.elim
        | outgrown => obtain ⟨_, _, h⟩ := hR; exact h.elim
      | row r args => exact (show Go.Rows P r args w' _ from h).mono fun v w'' hR => hK _ _ hR.2
      | _ => exact h.elim
  · rename_i hw; rw [if_neg hw] at h; exact hK _ _ h
theorem wpOp_of_Y {i : Nat} {o : Oper} {K : Act → World → Prop} {v : Value} {a : Act} {w : World} (hi : ops[i]? = some o) (hC : C w) (hy : YieldG P ops C o v a) (h : K (a.put o.dst v) w) : wpOp P ops (OnlyN Q) i K a w := by
  unfold wpOp
  simp only [hi]
  rcases hy with ⟨hw, hy⟩ | ⟨hw, rfl⟩
  · rw [if_pos hw]
    left
    unfold Oper.wp
    rcases hy w hC with e | ⟨e, rfl⟩ <;> rw [e] <;> exact h
  · rw [if_neg (by rw [hw]; simp)]; exact h
theorem listed_both {listed : Array Bool} {j : Nat} (hj : j < listed.size) (b c : Bool) : listed.getD j b = listed.getD j c := by simp [hj]
theorem mix_any {m : Nat} (hB : mixB ops ws m = true) : ∀ (fuel : Nat) (listed : Array Bool) (a : Act) (w : World), listed.size = ops.size → fuel = (rem ops.size listed).length →
    (∀ j o, ops[j]? = some o → listed.getD j true = true → ∀ e ∈ o.after, Region.binds .any e = true → listed.getD e.on false = true) →
    ((rem m listed ≠ [] ∧ C w ∧ wpMix P ops C ws (wpOps P ops (OnlyN Q) (List.range' m (ops.size - m))) (rem m listed) a w) ∨ (rem m listed = [] ∧ wpOps P ops (OnlyN Q) (rem ops.size listed) a w)) → wpAny P .any ops (OnlyN Q) fuel listed a w := by
  simp only [mixB, Bool.and_eq_true, List.all_eq_true, List.mem_range, decide_eq_true_eq] at hB
  obtain ⟨⟨hns, hmn⟩, hB⟩ := hB
  have hsel := Region.noSelect_spec hns
  -- what waits for what is not there yet may not come up
  have hwait : ∀ (listed : Array Bool), listed.size = ops.size → (∀ j o, ops[j]? = some o → listed.getD j true = true → ∀ e ∈ o.after, Region.binds .any e = true → listed.getD e.on false = true) →
      ∀ i ∈ Region.ready .any ops listed, ∀ k, k < ops.size → listed.getD k true = false → waits ops ops.size i k = true → False := by
    intro listed hsz dc i hi k hk hun h1
    obtain ⟨_, oi, hoi, hall⟩ := mem_ready.1 hi
    have hkl : listed.getD k false = true := by
      cases hf : ops.size with
      | zero => omega
      | succ f =>
        rw [hf] at h1
        unfold waits at h1
        simp only [hoi] at h1
        obtain ⟨e, he, hb⟩ := Array.any_eq_true'.1 h1
        simp only [Bool.and_eq_true, Bool.or_eq_true, beq_iff_eq] at hb
        have hl := hall e he hb.1
        rcases hb.2 with rfl | hb2
        · exact hl
        · exact waits_listed dc hsz f e.on k hl hb2
    rw [listed_both (by omega) false true, hun] at hkl; cases hkl
  have hfirst : ∀ (listed : Array Bool), listed.size = ops.size → ∀ k l, rem ops.size listed = k :: l → k ∈ Region.ready .any ops listed := by
    intro listed hsz k l hrem
    have hk : k ∈ rem ops.size listed := by rw [hrem]; simp
    obtain ⟨hk1, hk2⟩ := List.mem_filter.1 hk
    have hks := List.mem_range.1 hk1
    refine mem_ready.2 ⟨by simpa using hk2, ops[k], by simp [hks], fun e he hb => ?_⟩
    have h1 := (hB k hks).1
    simp only [Array.getElem?_eq_getElem hks, Option.map_some, Option.getD_some, Array.all_eq_true'] at h1
    have h2 := h1 e he
    simp only [hb, Bool.not_true, Bool.false_or, decide_eq_true_eq] at h2
    have hes : e.on < listed.size := by omega
    cases hl : listed.getD e.on true with
    | true => rw [listed_both hes false true]; exact hl
    | false =>
      have hm : e.on ∈ rem ops.size listed := List.mem_filter.2 ⟨List.mem_range.2 (by omega), by simp only [hl]; rfl⟩
      have hp := @rem_pair ops.size listed
      rw [hrem] at hm hp
      rw [List.pairwise_cons] at hp
      rcases List.mem_cons.1 hm with e1 | e1
      · omega
      · have := hp.1 _ e1; omega
  intro fuel
  induction fuel with
  | zero =>
    intro listed a w hsz hfu dc h
    have he : rem ops.size listed = [] := List.eq_nil_of_length_eq_zero hfu.symm
    have hem : rem m listed = [] := by
      rw [List.eq_nil_iff_forall_not_mem] at he ⊢
      intro j hj
      obtain ⟨h1, h2⟩ := List.mem_filter.1 hj
      exact he j (List.mem_filter.2 ⟨List.mem_range.2 (by have := List.mem_range.1 h1; omega), h2⟩)
    refine ⟨?_, ?_⟩
    · rw [List.eq_nil_iff_forall_not_mem]
      intro j hj
      obtain ⟨hun, o, ho, _⟩ := mem_ready.1 hj
      have : j ∈ rem ops.size listed := List.mem_filter.2 ⟨List.mem_range.2 (Array.getElem?_eq_some_iff.1 ho).1, by simp only [hun]; rfl⟩
      rw [he] at this; cases this
    · rcases h with h | h
      · exact absurd hem h.1
      · have := h.2; rw [he] at this; exact this
  | succ fuel ih =>
    intro listed a w hsz hfu dc h
    refine ⟨fun hr => ?_, fun i hi => ?_⟩
    · exfalso
      cases hrem : rem ops.size listed with
      | nil => rw [hrem] at hfu; simp at hfu
      | cons k l => have := hfirst listed hsz k l hrem; rw [hr] at this; cases this
    · obtain ⟨hun, oi, hoi, hall⟩ := mem_ready.1 hi
      have his : i < ops.size := (Array.getElem?_eq_some_iff.1 hoi).1
      have himN : i ∈ rem ops.size listed := List.mem_filter.2 ⟨List.mem_range.2 his, by simp only [hun]; rfl⟩
      have hfu' : fuel = (rem ops.size (listed.setIfInBounds i true)).length := by
        rw [rem_set (by omega)]
        have hnd : (rem ops.size listed).Nodup := (@rem_pair ops.size listed).imp (fun h => Nat.ne_of_lt h)
        have := (List.Nodup.erase_eq_filter hnd i)
        rw [← this, List.length_erase_of_mem himN]; omega
      have dc' : ∀ j o, ops[j]? = some o → (listed.setIfInBounds i true).getD j true = true → ∀ e ∈ o.after, Region.binds .any e = true → (listed.setIfInBounds i true).getD e.on false = true := by
        intro j o ho hj e he hb
        by_cases hij : i = j
        · subst hij
          rw [hoi] at ho; injection ho with ho; subst ho
          exact getD_set_true (hall e he hb)
        · rw [getD_set_ne true hij] at hj
          exact getD_set_true (dc j o ho hj e he hb)
      have hsz' : (listed.setIfInBounds i true).size = ops.size := by simpa using hsz
      rcases h with ⟨hne, hC, h⟩ | ⟨hem, h⟩
      · -- within the part that may come in any order
        have him1 : i < m := by
          rcases Nat.lt_or_ge i m with h' | h'
          · exact h'
          · exfalso
            cases hrm : rem m listed with
            | nil => exact hne hrm
            | cons k l =>
              have hk : k ∈ rem m listed := by rw [hrm]; simp
              obtain ⟨hk1, hk2⟩ := List.mem_filter.1 hk
              have hkm := List.mem_range.1 hk1
              have h2 := (hB i his).2 k (by omega)
              simp only [Bool.or_eq_true, Bool.and_eq_true, decide_eq_true_eq] at h2
              rcases h2 with h2 | h2
              · exact hwait listed hsz dc i hi k (by omega) (by simpa using hk2) h2
              · omega
        have him : i ∈ rem m listed := List.mem_filter.2 ⟨List.mem_range.2 him1, by simp only [hun]; rfl⟩
        have hfree : FreeIn ops ws i (rem m listed) := by
          intro k hk hlt ok oi' hok hoi'
          have h1 := (hB i his).2 k hlt
          simp only [Bool.or_eq_true] at h1
          rcases h1 with h1 | h1
          · exact (hwait listed hsz dc i hi k (by omega) (by simpa using (List.mem_filter.1 hk).2) h1).elim
          · simp only [hok, hoi', Option.bind_some, Option.map_some, Option.getD_some, Bool.and_eq_true, Bool.not_eq_true', Bool.and_eq_false_iff] at h1
            exact ⟨h1.1.2, fun ⟨x, y⟩ => by rcases h1.2 with z | z <;> simp_all⟩
        have hgo : ∀ a' w', C w' → wpMix P ops C ws (wpOps P ops (OnlyN Q) (List.range' m (ops.size - m))) ((rem m listed).filter (· != i)) a' w' → wpAny P .any ops (OnlyN Q) fuel (listed.setIfInBounds i true) a' w' := by
          intro a' w' hC' hK
          refine ih _ a' w' hsz' hfu' dc' ?_
          rw [rem_set (m := m) (by omega)]
          by_cases he : (rem m listed).filter (· != i) = []
          · refine .inr ⟨he, ?_⟩
            rw [he] at hK
            have : rem ops.size (listed.setIfInBounds i true) = List.range' m (ops.size - m) := by
              have hlm : rem m (listed.setIfInBounds i true) = [] := by rw [rem_set (m := m) (by omega)]; exact he
              have hsp : List.range ops.size = List.range m ++ List.range' m (ops.size - m) := by
                have h9 := @List.range'_append_1 0 m (ops.size - m)
                rw [Nat.zero_add] at h9
                rw [List.range_eq_range', List.range_eq_range', h9]; congr 1; omega
              unfold rem at hlm ⊢
              rw [hsp, List.filter_append, hlm, List.nil_append]
              refine List.filter_eq_self.2 fun j hj => ?_
              obtain ⟨x, hx, rfl⟩ := List.mem_range'.1 hj
              simp only [Nat.one_mul, Bool.not_eq_true']
              -- m + x is not there yet: it waits for i
              rw [getD_set_ne true (by omega)]
              cases hl : listed.getD (m + x) true with
              | false => rfl
              | true =>
                exfalso
                have h2 := (hB (m + x) (by omega)).2 i (by omega)
                simp only [Bool.or_eq_true, Bool.and_eq_true, decide_eq_true_eq] at h2
                rcases h2 with h2 | h2
                · have := waits_listed dc hsz _ (m + x) i (by rw [listed_both (by omega) false true]; exact hl) h2
                  rw [listed_both (by omega) false true, hun] at this; cases this
                · omega
            rw [this]; exact hK
          · exact .inl ⟨he, hC', hK⟩
        cases hwi : ws i with
        | true => exact wpOp_of_W hoi (fun a' w' hK => hgo a' w' hK.1 hK.2) (mix_writer hsel hoi hwi _ rem_pair him hfree a w hC h)
        | false =>
          obtain ⟨v, hv⟩ := mix_yield hsel hoi hwi _ rem_pair him hfree a w hC h
          exact wpOp_of_Y hoi hC hv (hgo _ w hC (mix_quiet hsel hoi hwi _ rem_pair him hfree a w hC hv h))
      · -- the tail, in its one order
        cases hrem : rem ops.size listed with
        | nil => rw [hrem] at himN; cases himN
        | cons k l =>
          have hki : k = i := by
            rcases Nat.lt_trichotomy k i with hlt | he | hgt
            · exfalso
              have hk : k ∈ rem ops.size listed := by rw [hrem]; simp
              obtain ⟨hk1, hk2⟩ := List.mem_filter.1 hk
              have him2 : m ≤ i := by
                rcases Nat.lt_or_ge i m with h' | h'
                · have : i ∈ rem m listed := List.mem_filter.2 ⟨List.mem_range.2 h', by simp only [hun]; rfl⟩
                  rw [hem] at this; cases this
                · exact h'
              have h2 := (hB i his).2 k hlt
              simp only [Bool.or_eq_true, Bool.and_eq_true, decide_eq_true_eq] at h2
              rcases h2 with h2 | h2
              · exact hwait listed hsz dc i hi k (List.mem_range.1 hk1) (by simpa using hk2) h2
              · omega
            · exact he
            · have hp := @rem_pair ops.size listed
              rw [hrem] at himN hp
              rw [List.pairwise_cons] at hp
              rcases List.mem_cons.1 himN with e1 | e1
              · exact e1.symm
              · have := hp.1 _ e1; omega
          subst hki
          rw [hrem, wpOps_cons] at h
          refine wpOp_mono (fun a' w' hK => ih _ a' w' hsz' hfu' dc' (.inr ⟨?_, ?_⟩)) h
          · rw [rem_set (m := m) (by omega), hem]; rfl
          · rw [rem_set (m := ops.size) (by omega), hrem]
            have hp := @rem_pair ops.size listed
            rw [hrem, List.pairwise_cons] at hp
            rw [filter_ne_head hp.1]; exact hK
/-- **ONE WALK SERVES EVERY ORDER.** The first m operations: quiet ones and writers (wl); those behind them stand in one order. -/
theorem wp_region_mix {id : Nat} {a : Act} {w : World} {R : Exit → Act → World → Prop} (C : World → Prop) (wl : List Nat) (m : Nat) (hm : P.follows .mixedOrders = true) (hB : mixB ops (fun k => wl.contains k) m = true) (hm0 : 0 < m) (hC : C w.drew)
    (h : wpMix P ops C (fun k => wl.contains k) (wpList P ops (OnlyN (R .normal)) (ops.toList.drop m)) (List.range m) a w.drew) : (Code.region id ops true).wp P R a w := by
  have hmn : m ≤ ops.size := by
    simp only [mixB, Bool.and_eq_true, decide_eq_true_eq] at hB
    exact hB.1.2
  have key : (Code.region id ops true).wp P (OnlyN (R .normal)) a w := by
    refine wp_region_any hm ?_
    have hr : ∀ n, n ≤ ops.size → rem n (Array.replicate ops.size false) = List.range n := by
      intro n hn
      unfold rem
      exact List.filter_eq_self.2 fun j hj => by have := List.mem_range.1 hj; have h2 : j < ops.size := by omega
                                                 simp [h2]
    refine mix_any (C := C) (ws := fun k => wl.contains k) hB ops.size _ a _ (by simp) (by rw [hr _ (Nat.le_refl _)]; simp) ?_ (.inl ⟨by rw [hr m hmn]; intro e; have := congrArg List.length e; simp at this; omega, hC, ?_⟩)
    · intro j o ho hj
      have := (Array.getElem?_eq_some_iff.1 ho).1
      simp [this] at hj
    · rw [hr m hmn]
      have : wpOps P ops (OnlyN (R .normal)) (List.range' m (ops.size - m)) = wpList P ops (OnlyN (R .normal)) (ops.toList.drop m) := by
        have := wpOps_eq_wpList (P := P) (ops := ops) (Q := OnlyN (R .normal)) (ops.toList.drop m) m (fun j => by rw [List.getElem?_drop, Array.getElem?_toList])
        rw [← this]; simp
      rw [this]; exact h
  exact wp_mono key fun e a w q => by cases e <;> first | exact q | exact q.elim

/-! ### The walk's steps -/
variable {a : Act} {w : World} {l : List Nat} {k : Nat} {o : Oper}
theorem mix_nil (h : Q a w) : wpMix P ops C ws Q [] a w := h
theorem mix_skip (ho' : ops.toList[k]? = some o) (hw : ws k = false) (hg : Region.wanted o (yielded ops a.tmps) = false) (h : wpMix P ops C ws Q l (a.put o.dst undef) w) : wpMix P ops C ws Q (k :: l) a w := by
  have ho := ho'; rw [Array.getElem?_toList] at ho; unfold wpMix; simp only [ho, hw]; exact ⟨undef, .inr ⟨hg, rfl⟩, h⟩
theorem mix_q (ho' : ops.toList[k]? = some o) (hw : ws k = false) (hg : Region.wanted o (yielded ops a.tmps) = true) {v : Value} (hr : ∀ W, C W → (execOp a.eval o).run P W = .ok (.value v) W) (h : wpMix P ops C ws Q l (a.put o.dst v) w) : wpMix P ops C ws Q (k :: l) a w := by
  have ho := ho'; rw [Array.getElem?_toList] at ho; unfold wpMix; simp only [ho, hw]; exact ⟨v, .inl ⟨hg, fun W hW => .inl (hr W hW)⟩, h⟩
theorem mix_e (ho' : ops.toList[k]? = some o) (hw : ws k = false) (hg : Region.wanted o (yielded ops a.tmps) = true) (hr : ∃ v, (∀ W, C W → (execOp a.eval o).run P W = .ok (.value v) W) ∧ wpMix P ops C ws Q l (a.put o.dst v) w) : wpMix P ops C ws Q (k :: l) a w :=
  let ⟨_, h1, h2⟩ := hr
  mix_q ho' hw hg h1 h2
theorem mix_qs (ho' : ops.toList[k]? = some o) (hw : ws k = false) (hg : Region.wanted o (yielded ops a.tmps) = true) (hr : ∀ W, C W → (execOp a.eval o).run P W = .ok .skip W) (h : wpMix P ops C ws Q l (a.put o.dst undef) w) : wpMix P ops C ws Q (k :: l) a w := by
  have ho := ho'; rw [Array.getElem?_toList] at ho; unfold wpMix; simp only [ho, hw]; exact ⟨undef, .inl ⟨hg, fun W hW => .inr ⟨hr W hW, rfl⟩⟩, h⟩
theorem mix_w (ho' : ops.toList[k]? = some o) (hw : ws k = true) (hg : o.guard = none) (h : wpList P ops (OnlyN fun a' w' => a'.defers = a.defers ∧ C w' ∧ wpMix P ops C ws Q l a' w') [o] a w) : wpMix P ops C ws Q (k :: l) a w := by
  have ho := ho'; rw [Array.getElem?_toList] at ho; unfold wpMix; simp only [ho, hw, if_true]
  unfold wpW
  have hwn : Region.wanted o (yielded ops a.tmps) = true := by simp [Region.wanted, hg]
  rw [if_pos hwn]
  unfold wpList at h
  rw [if_pos hwn] at h
  rcases h with h | ⟨_, h⟩
  · unfold Oper.wp at *
    generalize (execOp a.eval o).run P w = r at *
    cases r with
    | halt x w' => cases x <;> exact h
    | ok n w' =>
      cases n with
      | enter f args =>
        refine (show Calls P f args w' _ from h).mono ?_
        intro e w'' hR
        cases e with
        | returned v => exact hR
        | panicked c => exact hR.elim
        | outgrown => obtain ⟨_, _, h⟩ := hR; exact h.elim
      | _ => exact h
  · exact absurd h OnlyN.lets
end Hv
end Go.Proofs.YtaakpcmflladaaaDoor
