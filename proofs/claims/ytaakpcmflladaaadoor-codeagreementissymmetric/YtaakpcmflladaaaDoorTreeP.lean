/- Frames of codes, in plain Lean: places of codes, what is above a code, levels. -/
import Derived.Test.YtaakpcmflladaaaDoorCode2
set_option linter.all false
namespace Go.Proofs.YtaakpcmflladaaaDoor
open Go.RowKit Hv Go.Proofs
def inL (l : List Node) (c : Int) : Bool := l.any fun n => decide (n.code = c)
theorem inL_iff {l : List Node} {c : Int} : inL l c = true ↔ ∃ n ∈ l, n.code = c := by simp [inL, List.any_eq_true]
theorem inL_at {l : List Node} {c : Int} (h : inL l c = true) : ∃ i, ∃ hi : i < l.length, l[i].code = c := by
  obtain ⟨n, hn, e⟩ := inL_iff.1 h
  obtain ⟨i, hi, rfl⟩ := List.getElem_of_mem hn
  exact ⟨i, hi, e⟩
/-- Codes that rise. -/
def Rise (l : List Node) : Prop := ∀ i j (hi : i < l.length) (hj : j < l.length), i < j → l[i].code < l[j].code
theorem Rise.inj {l : List Node} (r : Rise l) {i j : Nat} (hi : i < l.length) (hj : j < l.length) (h : l[i].code = l[j].code) : i = j := by
  rcases Nat.lt_trichotomy i j with h1 | h1 | h1
  · have := r i j hi hj h1; omega
  · exact h1
  · have := r j i hj hi h1; omega
structure Good (l : List Node) : Prop where
  ne : l.length ≠ 0
  le : l.length ≤ 600
  rise : Rise l
  range : ∀ n ∈ l, 1 ≤ n.code ∧ n.code ≤ 999
  title : ∀ n ∈ l, n.title.size ≤ 60 ∧ titleB n.title.data.toList = true
theorem nodeF_zero {l : List Node} {i : Nat} (hi : i < l.length) (h : nodeF l i = 0) : (1 ≤ l[i].code ∧ l[i].code ≤ 999) ∧ (∀ h0 : 0 < i, l[i-1].code < l[i].code) ∧ l[i].title.size ≤ 60 ∧ titleB l[i].title.data.toList = true := by
  obtain ⟨ob, hob⟩ : ∃ ob, ob = outC l[i].code 1 999 := ⟨_, rfl⟩
  obtain ⟨b, hb⟩ : ∃ b, b = decide (0 < i ∧ l[i].code ≤ (match l[i-1]? with | some p => p.code | none => 0)) := ⟨_, rfl⟩
  obtain ⟨tb, htb⟩ : ∃ tb, tb = titleB l[i].title.data.toList := ⟨_, rfl⟩
  have e := nodeF_eq hi rfl hb hob htb
  rw [h] at e
  cases ob
  rotate_left
  · simp at e
  cases b
  rotate_left
  · simp at e
  by_cases h60 : 60 < l[i].title.size
  · simp [h60] at e
  cases tb
  · simp [h60] at e
  refine ⟨?_, fun h0 => ?_, by omega, htb.symm⟩
  · unfold outC at hob
    have := of_decide_eq_false hob.symm
    omega
  · have h2 := of_decide_eq_false hb.symm
    rw [List.getElem?_eq_getElem (by omega : i - 1 < l.length)] at h2
    have h3 : ¬ (l[i].code ≤ l[i-1].code) := fun hh => h2 ⟨h0, hh⟩
    omega
theorem good_of {l : List Node} (h : nodesF l = 0) : Good l := by
  unfold nodesF at h
  split at h
  · cases h
  split at h
  · cases h
  rename_i h1 h2
  have hz := fun i (hi : i < l.length) => nodeF_zero hi (Pl.firstG_none h i (Nat.zero_le _) (by omega))
  have hr : Rise l := by
    intro i j hi hj hij
    induction j with
    | zero => omega
    | succ j ih =>
      have h3 := (hz (j + 1) hj).2.1 (by omega)
      simp only [Nat.add_sub_cancel] at h3
      by_cases e : i = j
      · subst e; exact h3
      · have := ih (by omega) (by omega); omega
  refine ⟨h1, by omega, hr, fun n hn => ?_, fun n hn => ?_⟩
  · obtain ⟨i, hi, rfl⟩ := List.getElem_of_mem hn
    exact (hz i hi).1
  · obtain ⟨i, hi, rfl⟩ := List.getElem_of_mem hn
    exact (hz i hi).2.2
/-- The parent of a code. -/
def parL (l : List Node) (c : Int) : Int := match l.find? (fun n => decide (n.code = c)) with | some n => n.parent | none => 0
theorem parL_at {l : List Node} (r : Rise l) {i : Nat} (hi : i < l.length) : parL l l[i].code = l[i].parent := by
  unfold parL
  cases h : l.find? (fun n => decide (n.code = l[i].code)) with
  | none =>
    rw [List.find?_eq_none] at h
    have := h l[i] (List.getElem_mem hi)
    simp at this
  | some n =>
    have h1 := List.find?_some h
    obtain ⟨j, hj, rfl⟩ := List.getElem_of_mem (List.mem_of_find?_eq_some h)
    simp at h1
    have := r.inj hj hi h1
    subst this; rfl
/-- How many steps it takes from a code up to 0. -/
def upF (l : List Node) : Nat → Int → Option Nat
  | 0, c => if c = 0 then some 0 else none
  | f + 1, c => if c = 0 then some 0 else (upF l f (parL l c)).map (· + 1)
theorem upF_zero (l : List Node) (f : Nat) : upF l f 0 = some 0 := by cases f <;> rfl
theorem upF_step {l : List Node} {f : Nat} {c : Int} (h : c ≠ 0) : upF l (f + 1) c = (upF l f (parL l c)).map (· + 1) := by rw [upF, if_neg h]
theorem upF_out {l : List Node} {c : Int} (h : c ≠ 0) : upF l 0 c = none := by rw [upF, if_neg h]
theorem upF_le {l : List Node} : ∀ {f : Nat} {c : Int} {s : Nat}, upF l f c = some s → s ≤ f
  | 0, c, s, h => by
    rw [upF] at h
    split at h
    · injection h with h; omega
    · cases h
  | f + 1, c, s, h => by
    rw [upF] at h
    split at h
    · injection h with h; omega
    · obtain ⟨t, ht, rfl⟩ := Option.map_eq_some_iff.1 h
      have := upF_le ht; omega
def nmF (l : List Node) (i : Nat) : Int := match l[i]? with | none => 0 | some n => if n.parent ≠ 0 ∧ inL l n.parent = false then 5 else 0
def lpF (l : List Node) (i : Nat) : Int := match l[i]? with | none => 0 | some n => if upF l l.length n.code = none then 18 else 0
def lev (l : List Node) (c : Int) : Nat := (upF l l.length c).getD 0
def lvF (l : List Node) (i : Nat) : Int := match l[i]? with | none => 0 | some n => if 8 < lev l n.code then 2 else 0
/-- The error of a frame. -/
def treeF (l : List Node) : Int :=
  if nodesF l ≠ 0 then nodesF l else if Pl.firstG (nmF l) l.length 0 ≠ 0 then 5 else if Pl.firstG (lpF l) l.length 0 ≠ 0 then 18 else if Pl.firstG (lvF l) l.length 0 ≠ 0 then 2 else 0
def ParOk (l : List Node) : Prop := ∀ n ∈ l, n.parent = 0 ∨ inL l n.parent = true
theorem parOk_of {l : List Node} (h : ∀ i < l.length, nmF l i = 0) : ParOk l := by
  intro n hn
  obtain ⟨i, hi, rfl⟩ := List.getElem_of_mem hn
  have := h i hi
  unfold nmF at this
  rw [List.getElem?_eq_getElem hi] at this
  simp only at this
  split at this
  · cases this
  · rename_i h1
    by_cases h2 : l[i].parent = 0
    · exact .inl h2
    · refine .inr ?_
      cases h3 : inL l l[i].parent
      · exact absurd ⟨h2, h3⟩ h1
      · rfl
theorem ParOk.next {l : List Node} (p : ParOk l) {c : Int} (hc : inL l c = true) (r : Rise l) : parL l c = 0 ∨ inL l (parL l c) = true := by
  obtain ⟨i, hi, rfl⟩ := inL_at hc
  rw [parL_at r hi]
  exact p _ (List.getElem_mem hi)
/-- The map from codes to places. -/
def atL (l : List Node) : List (Int × Value) := l.zipIdx.map fun p => (p.1.code, .int .i64 (p.2 : Int))
theorem atL_keys (l : List Node) : (atL l).map (·.1) = l.map (·.code) := by
  unfold atL
  rw [List.map_map]
  have : ((fun x : Int × Value => x.1) ∘ fun p : Node × Nat => (p.1.code, Value.int .i64 (p.2 : Int))) = (fun n : Node => n.code) ∘ Prod.fst := rfl
  rw [this, ← List.map_map, List.zipIdx_map_fst]
theorem atL_snoc (l : List Node) (n : Node) : atL (l ++ [n]) = atL l ++ [(n.code, .int .i64 (l.length : Int))] := by
  unfold atL
  rw [List.zipIdx_append]; simp
theorem atL_lk {l : List Node} (r : Rise l) {i : Nat} (hi : i < l.length) : lk (atL l) l[i].code = some (.int .i64 (i : Int)) := by
  refine lk_of_mem ?_ ?_
  · rw [atL_keys]
    unfold List.Nodup
    rw [List.pairwise_map, List.pairwise_iff_getElem]
    intro i j hi hj hij e
    have := r i j hi hj hij; omega
  · unfold atL
    refine List.mem_map.2 ⟨(l[i], i), ?_, rfl⟩
    rw [List.mem_zipIdx_iff_getElem?]
    simp [hi]
theorem atL_none {l : List Node} {c : Int} (h : inL l c = false) : lk (atL l) c = none := by
  refine lk_none.2 fun p hp e => ?_
  have : c ∈ (atL l).map (·.1) := List.mem_map.2 ⟨p, hp, e⟩
  rw [atL_keys] at this
  obtain ⟨n, hn, e2⟩ := List.mem_map.1 this
  have := inL_iff.2 ⟨n, hn, e2⟩
  rw [h] at this; cases this
theorem atL_some {l : List Node} (r : Rise l) {c : Int} (h : inL l c = true) : ∃ i, ∃ hi : i < l.length, l[i].code = c ∧ lk (atL l) c = some (.int .i64 (i : Int)) := by
  obtain ⟨i, hi, rfl⟩ := inL_at h
  exact ⟨i, hi, rfl, atL_lk r hi⟩
/-- The map from codes to levels. -/
def levM (l : List Node) (k : Nat) : List (Int × Value) := (0, .int .i64 0) :: (l.take k).map fun n => (n.code, .int .i64 (lev l n.code : Int))
end Go.Proofs.YtaakpcmflladaaaDoor
