/- Maps of a call's own (or that are read): a block that holds entries in their order. -/
import Derived.Test.YtaakpcmflladaaaDoorHv
import Derived.Maps.Own
import Derived.Maps.OwnOps
import Derived.Maps.OwnSet
set_option linter.all false
set_option linter.unusedSectionVars false
namespace Go.Proofs.YtaakpcmflladaaaDoor
namespace Hv
open Go.RowKit Go.Maps

structure KeyT (P : Program) (k : TypeId) (κ : Type) where
  ek : κ → Value
  ok : κ → Prop
  keyed : Keyed P k
  is : ∀ x, ok x → ∃ l, keyOf P k (ek x) = some l
  inj : ∀ x y, ek x = ek y → x = y
variable {P : Program} {k e t : TypeId} {κ : Type} [DecidableEq κ] {K : KeyT P k κ} {w w' : World} {b : Nat} {m : List (κ × Value)}
theorem wf_i64 {x : Int} (h : inRange .i64 x) : (Lit.int .i64 x).wf = true := by
  have e1 : IntKind.i64.min = -9223372036854775808 := by decide
  have e2 : IntKind.i64.max = 9223372036854775807 := by decide
  obtain ⟨h1, h2⟩ := h
  simp only [Lit.wf, Bool.and_eq_true, decide_eq_true_eq]
  omega
theorem range_wf {x : Int} (h : (Lit.int .i64 x).wf = true) : inRange .i64 x := by
  have e1 : IntKind.i64.min = -9223372036854775808 := by decide
  have e2 : IntKind.i64.max = 9223372036854775807 := by decide
  simp only [Lit.wf, Bool.and_eq_true, decide_eq_true_eq] at h
  exact ⟨by omega, by omega⟩
def keyI (hk : P.underlying k = some (.int .i64)) : KeyT P k Int where
  ek := fun x => .int .i64 x
  ok := inRange .i64
  keyed := int_keyed hk
  is := fun x h => ⟨_, keyOf_int_mk hk (wf_i64 h)⟩
  inj := fun x y h => by injection h
def keyS (hk : P.underlying k = some .string) : KeyT P k ByteArray where
  ek := fun x => .string x
  ok := fun x => x.size ≤ 9223372036854775807
  keyed := string_keyed hk
  is := fun x h => ⟨_, WideMaps.keyOf_string_mk hk (by unfold maxLen; exact h)⟩
  inj := fun x y h => by injection h
/-- Block b is a map with the entries m. -/
def MapIs (K : KeyT P k κ) (w : World) (b : Nat) (m : List (κ × Value)) : Prop :=
  ∃ es clock, w.heap[b]? = some (.map es clock) ∧ es.toList.map (fun x => (x.key, x.val)) = m.map (fun p => (K.ek p.1, p.2)) ∧ (m.map (·.1)).Nodup ∧ (∀ p ∈ m, K.ok p.1) ∧
    (∀ x ∈ es.toList, x.born < clock) ∧ (es.toList.map (·.born)).Nodup
def lk (m : List (κ × Value)) (x : κ) : Option Value := (m.find? (fun p => decide (p.1 = x))).map (·.2)
def mput (m : List (κ × Value)) (x : κ) (v : Value) : List (κ × Value) := if m.any (fun p => decide (p.1 = x)) then m.map (fun p => if p.1 = x then (x, v) else p) else m ++ [(x, v)]
theorem MapIs.lt (h : MapIs K w b m) : b < w.heap.size := by
  obtain ⟨es, c, hb, _⟩ := h
  exact (Array.getElem?_eq_some_iff.1 hb).1
theorem MapIs.block (h : MapIs K w b m) (hb : w'.heap[b]? = w.heap[b]?) : MapIs K w' b m := by
  obtain ⟨es, c, h1, r⟩ := h
  exact ⟨es, c, hb.trans h1, r⟩
theorem MapIs.alloc (h : MapIs K w b m) (o : Obj) : MapIs K (w.alloc o) b m := h.block (Below.heap_alloc w o b h.lt)
theorem MapIs.drew (h : MapIs K w b m) : MapIs K w.drew b m := h.block rfl
theorem MapIs.drewN (h : MapIs K w b m) (n : Nat) : MapIs K (w.drewN n) b m := h.block rfl
theorem MapIs.below (h : MapIs K w b m) (hb : Below w.heap.size w w') : MapIs K w' b m := h.block (hb.block b h.lt)
theorem MapIs.grown (h : MapIs K w b m) {row : Option Nat} (hg : w.grownBy w' row) (hr : row ≠ some b) : MapIs K w' b m := h.block (hg.block b h.lt (fun e => hr e.symm))
theorem MapIs.setCell (h : MapIs K w b m) (p : Addr) (u : Value) : MapIs K (w.setCell p u) b m := by
  by_cases e : b = p.block
  · obtain ⟨es, c, hb, r⟩ := h
    refine ⟨es, c, ?_, r⟩
    simp only [World.setCell, Array.getElem?_modify]
    rw [← e, if_pos rfl, hb]; rfl
  · exact h.block (Below.heap_setCell w p u b e)
theorem MapIs.new (K : KeyT P k κ) (w : World) : MapIs K (w.alloc (.map #[] 0)) w.heap.size [] :=
  ⟨#[], 0, by show (w.heap.push _)[w.heap.size]? = _; simp, rfl, by simp, by simp, by simp, by simp⟩
theorem MapIs.nodup (h : MapIs K w b m) : (m.map (·.1)).Nodup := by obtain ⟨_, _, _, _, h, _⟩ := h; exact h
theorem MapIs.oks (h : MapIs K w b m) : ∀ p ∈ m, K.ok p.1 := by obtain ⟨_, _, _, _, _, h, _⟩ := h; exact h

theorem lk_none {x : κ} : lk m x = none ↔ ∀ p ∈ m, p.1 ≠ x := by
  unfold lk
  rw [Option.map_eq_none_iff, List.find?_eq_none]
  simp
theorem lk_some_mem {x : κ} {v : Value} (h : lk m x = some v) : (x, v) ∈ m := by
  unfold lk at h
  obtain ⟨p, hp, rfl⟩ := Option.map_eq_some_iff.1 h
  have h1 := List.find?_some hp
  have h2 := List.mem_of_find?_eq_some hp
  simp only [decide_eq_true_eq] at h1
  subst h1; exact h2
theorem lk_of_mem (hn : (m.map (·.1)).Nodup) {x : κ} {v : Value} (h : (x, v) ∈ m) : lk m x = some v := by
  induction m with
  | nil => cases h
  | cons p m ih =>
    rw [List.map_cons, List.nodup_cons] at hn
    unfold lk
    rw [List.find?_cons]
    rcases List.mem_cons.1 h with h | h
    · subst h; simp
    · have : p.1 ≠ x := by rintro rfl; exact hn.1 (List.mem_map.2 ⟨_, h, rfl⟩)
      simp only [decide_eq_false this]
      exact ih hn.2 h
theorem mput_keys_old {x : κ} {v : Value} (h : ∃ p ∈ m, p.1 = x) : (mput m x v).map (·.1) = m.map (·.1) := by
  have : m.any (fun p => decide (p.1 = x)) = true := by simpa [List.any_eq_true] using h
  unfold mput; rw [if_pos this, List.map_map]
  refine List.map_congr_left fun p _ => ?_
  simp only [Function.comp]; split
  · rename_i e; exact e.symm
  · rfl
theorem mput_new {x : κ} {v : Value} (h : ∀ p ∈ m, p.1 ≠ x) : mput m x v = m ++ [(x, v)] := by
  have : m.any (fun p => decide (p.1 = x)) = false := by simpa [List.any_eq_false] using h
  unfold mput; rw [if_neg (by rw [this]; simp)]
theorem mem_mput {x : κ} {v : Value} {p : κ × Value} (h : p ∈ mput m x v) : p = (x, v) ∨ (p ∈ m ∧ p.1 ≠ x) := by
  unfold mput at h
  split at h
  · obtain ⟨q, hq, rfl⟩ := List.mem_map.1 h
    split
    · exact .inl rfl
    · rename_i hne; exact .inr ⟨hq, hne⟩
  · rename_i hne
    rcases List.mem_append.1 h with h | h
    · refine .inr ⟨h, fun e => hne ?_⟩
      rw [List.any_eq_true]; exact ⟨p, h, by simp [e]⟩
    · exact .inl (List.mem_singleton.1 h)
theorem mem_mput_self (x : κ) (v : Value) : (x, v) ∈ mput m x v := by
  unfold mput
  split
  · rename_i h
    obtain ⟨p, hp, e⟩ := List.any_eq_true.1 h
    exact List.mem_map.2 ⟨p, hp, by simp at e; simp [e]⟩
  · simp
theorem mem_mput_other {x : κ} {v : Value} {p : κ × Value} (h : p ∈ m) (hne : p.1 ≠ x) : p ∈ mput m x v := by
  unfold mput
  split
  · exact List.mem_map.2 ⟨p, h, by rw [if_neg hne]⟩
  · exact List.mem_append_left _ h

theorem MapIs.find (h : MapIs K w b m) {x : κ} (hx : K.ok x) : ∃ es clock, w.heap[b]? = some (.map es clock) ∧
    ((lk m x = none ∧ (Instr.findKey k (K.ek x) es.toList).run P w = .ok none w ∧ ∀ y ∈ es.toList, y.key ≠ K.ek x) ∨
     (∃ v j ent, lk m x = some v ∧ (Instr.findKey k (K.ek x) es.toList).run P w = .ok (some (j, v)) w ∧ es[j]? = some ent ∧ ent.key = K.ek x ∧ ent.val = v)) := by
  obtain ⟨es, c, hb, hm, hn, hok, _, _⟩ := h
  refine ⟨es, c, hb, ?_⟩
  obtain ⟨l, hl⟩ := K.is x hx
  have hkeys : ∀ y ∈ es.toList, ∃ l, keyOf P k y.key = some l := by
    intro y hy
    have : (y.key, y.val) ∈ m.map (fun p => (K.ek p.1, p.2)) := by rw [← hm]; exact List.mem_map.2 ⟨y, hy, rfl⟩
    obtain ⟨p, hp, e⟩ := List.mem_map.1 this
    injection e with e1 e2
    rw [← e1]; exact K.is _ (hok p hp)
  rcases K.keyed.find w hl es.toList hkeys with ⟨h1, h2⟩ | ⟨j, y, h1, h2, h3⟩
  · refine .inl ⟨lk_none.2 fun p hp e => ?_, h1, h2⟩
    have : (K.ek p.1, p.2) ∈ es.toList.map (fun x => (x.key, x.val)) := by rw [hm]; exact List.mem_map.2 ⟨p, hp, rfl⟩
    obtain ⟨y, hy, e2⟩ := List.mem_map.1 this
    injection e2 with e3 _
    exact h2 y hy (by rw [e3, e])
  · have hy : y ∈ es.toList := List.mem_of_getElem? h2
    have : (y.key, y.val) ∈ m.map (fun p => (K.ek p.1, p.2)) := by rw [← hm]; exact List.mem_map.2 ⟨y, hy, rfl⟩
    obtain ⟨p, hp, e⟩ := List.mem_map.1 this
    injection e with e1 e2
    have : p.1 = x := K.inj _ _ (e1.trans h3)
    subst this
    refine .inr ⟨y.val, j, y, ?_, h1, by simpa using h2, h3, rfl⟩
    rw [← e2]; exact lk_of_mem hn hp
/-- 'm[x]', with or without ok. -/
theorem run_look (h : MapIs K w b m) (ht : P.underlying t = some (.map k e)) {z : Value} (hz : (zeroValue e).run P w = .ok z w) {x : κ} (hx : K.ok x) (c : Bool) :
    (Instr.lookup t (.map (some b)) (K.ek x) c).run P w = .ok (if c then .tuple #[(lk m x).getD z, .bool (lk m x).isSome] else (lk m x).getD z) w := by
  obtain ⟨l, hl⟩ := K.is x hx
  obtain ⟨es, cl, hb, ⟨e1, h1, _⟩ | ⟨v, j, y, e1, h1, _⟩⟩ := h.find hx
  · simp [Instr.lookup, run_underlying ht, MapKept.run_getObj_map hb, K.keyed.check w _ hl, h1, hz, Result.andThen, e1]
  · simp [Instr.lookup, run_underlying ht, MapKept.run_getObj_map hb, K.keyed.check w _ hl, h1, Result.andThen, e1]
theorem modify_map {x : κ} {v : Value} {y : MapEntry} : ∀ (l : List MapEntry) (m : List (κ × Value)) (j : Nat), l.map (fun x => (x.key, x.val)) = m.map (fun p => (K.ek p.1, p.2)) → (m.map (·.1)).Nodup → l[j]? = some y → y.key = K.ek x →
    (l.modify j fun en => { en with key := K.ek x, val := v }).map (fun x => (x.key, x.val)) = (m.map (fun p => if p.1 = x then (x, v) else p)).map (fun p => (K.ek p.1, p.2))
  | [], _, j, _, _, h, _ => by simp at h
  | a :: l, [], j, he, _, _, _ => by simp at he
  | a :: l, p :: m, 0, he, hn, h, hy => by
    simp only [List.getElem?_cons_zero, Option.some.injEq] at h
    subst h
    rw [List.map_cons, List.map_cons, List.cons.injEq] at he
    rw [List.map_cons, List.nodup_cons] at hn
    have h1 := he.1
    injection h1 with h1 h2
    have hp : p.1 = x := K.inj _ _ (by rw [← h1, hy])
    have hm : m.map (fun p => if p.1 = x then (x, v) else p) = m := by
      refine (List.map_congr_left fun q hq => ?_).trans (List.map_id m)
      rw [if_neg]; rfl
      intro e
      exact hn.1 (List.mem_map.2 ⟨q, hq, by rw [e, hp]⟩)
    simp only [List.modify_zero_cons, List.map_cons, hp, if_true, hm]
    rw [he.2]
  | a :: l, p :: m, j + 1, he, hn, h, hy => by
    rw [List.map_cons, List.map_cons, List.cons.injEq] at he
    rw [List.map_cons, List.nodup_cons] at hn
    have hl : l[j]? = some y := by simpa using h
    have hp : p.1 ≠ x := by
      intro e
      have h3 : (y.key, y.val) ∈ l.map (fun x => (x.key, x.val)) := List.mem_map.2 ⟨y, List.mem_of_getElem? hl, rfl⟩
      rw [he.2] at h3
      obtain ⟨q, hq, h4⟩ := List.mem_map.1 h3
      injection h4 with h4 _
      have : q.1 = x := K.inj _ _ (h4.trans hy)
      exact hn.1 (List.mem_map.2 ⟨q, hq, by rw [this, e]⟩)
    simp only [List.modify_succ_cons, List.map_cons, if_neg hp]
    rw [he.1, modify_map l m j he.2 hn.2 hl hy]
open Go.ChangeMaps
/-- 'm[x] = v'. -/
theorem run_put (h : MapIs K w b m) (ht : P.underlying t = some (.map k e)) {x : κ} (hx : K.ok x) (v : Value) :
    ∃ w', (Instr.mapUpdate t (.map (some b)) (K.ek x) v).run P w = .ok () w' ∧ MapIs K w' b (mput m x v) ∧ w.grownBy w' (some b) ∧ w'.heap.size = w.heap.size := by
  obtain ⟨l, hl⟩ := K.is x hx
  obtain ⟨es0, cl, hb0, hm, hn, hok, hborn, hbn⟩ := h
  obtain ⟨es, c0, hb, hcase⟩ := (show MapIs K w b m from ⟨es0, cl, hb0, hm, hn, hok, hborn, hbn⟩).find hx
  rw [hb0] at hb
  injection hb with hb
  injection hb with hb1 hb2
  subst hb1
  subst hb2
  have hgb : ∀ o, w.grownBy (setBlock w b o) (some b) := fun o => ⟨rfl, rfl, rfl, by simp [setBlock], fun i _ hi => heap_setBlock_other hb0 _ (fun e => hi (by rw [e]))⟩
  rcases hcase with ⟨e1, h1, h2⟩ | ⟨v0, j, y, e1, h1, h2, h3, h4⟩
  · refine ⟨setBlock w b (.map (es0.push ⟨K.ek x, v, cl⟩) (cl + 1)), by simp [Instr.mapUpdate, run_underlying ht, MapKept.run_getObj_map hb0, K.keyed.check w _ hl, h1, MapKept.run_setObj_map _ hb0, Result.andThen, setBlock], ⟨_, _, heap_setBlock_same hb0 _, ?_, ?_, ?_, ?_, ?_⟩, hgb _, by simp [setBlock]⟩
    · rw [mput_new (lk_none.1 e1)]; simp [hm]
    · rw [mput_new (lk_none.1 e1), List.map_append, List.nodup_append]
      refine ⟨hn, by simp, ?_⟩
      intro a ha b' hb'
      simp only [List.map_cons, List.map_nil, List.mem_singleton] at hb'
      subst hb'
      obtain ⟨p, hp, rfl⟩ := List.mem_map.1 ha
      exact lk_none.1 e1 p hp
    · intro p hp
      rcases mem_mput hp with rfl | ⟨hp, _⟩
      · exact hx
      · exact hok p hp
    · intro y hy
      simp only [Array.toList_push, List.mem_append, List.mem_singleton] at hy
      rcases hy with hy | rfl
      · have := hborn y hy; omega
      · show cl < cl + 1; omega
    · rw [Array.toList_push, List.map_append, List.nodup_append]
      refine ⟨hbn, by simp, ?_⟩
      intro a ha b' hb'
      simp only [List.map_cons, List.map_nil, List.mem_singleton] at hb'
      subst hb'
      obtain ⟨y, hy, rfl⟩ := List.mem_map.1 ha
      have := hborn y hy
      show y.born ≠ _
      omega
  · have hjl : j < es0.size := (Array.getElem?_eq_some_iff.1 h2).1
    have hkey : ∀ en : MapEntry, en.key = K.ek x → { en with key := K.ek x, val := v } = { en with val := v } := fun en h => by cases en; simp at h; simp [h]
    refine ⟨setBlock w b (.map (es0.modify j fun en => { en with key := K.ek x, val := v }) cl), ?_, ⟨_, _, heap_setBlock_same hb0 _, ?_, ?_, ?_, ?_, ?_⟩, hgb _, by simp [setBlock]⟩
    · have hst := K.keyed.stays w hl
      simp [Instr.mapUpdate, run_underlying ht, MapKept.run_getObj_map hb0, K.keyed.check w _ hl, h1, h2, h3, hst, MapKept.run_setObj_map _ hb0, Result.andThen, setBlock]
    · have hex : m.any (fun p => decide (p.1 = x)) = true := by
        rw [List.any_eq_true]; exact ⟨_, lk_some_mem e1, by simp⟩
      rw [Array.toList_modify]
      unfold mput
      rw [if_pos hex]
      exact modify_map es0.toList m j hm hn (by simpa using h2) h3
    · rw [mput_keys_old ⟨_, lk_some_mem e1, rfl⟩]; exact hn
    · intro p hp
      rcases mem_mput hp with rfl | ⟨hp, _⟩
      · exact hx
      · exact hok p hp
    · intro y' hy'
      rw [Array.toList_modify] at hy'
      obtain ⟨i, hi, rfl⟩ := List.getElem_of_mem hy'
      rw [List.getElem_modify]
      have := hborn _ (List.getElem_mem (by simpa using hi))
      split <;> exact this
    · have : (es0.modify j fun en => { en with key := K.ek x, val := v }).toList.map (·.born) = es0.toList.map (·.born) := by
        refine List.ext_getElem (by simp) fun i h1 h2 => ?_
        simp only [List.getElem_map, Array.toList_modify, List.getElem_modify]
        split <;> rfl
      rw [this]; exact hbn
/-- The laws for the walk. -/
theorem wpList_look {ops : Array Oper} {rest : List Oper} {o : Oper} {a : Act} {Q : Exit → Act → World → Prop} {mo xo : Operand} {z : Value} {x : κ} (h : MapIs K w b m) (ht : P.underlying t = some (.map k e)) (hz : (zeroValue e).run P w = .ok z w)
    (hok : K.ok x) (hg : o.guard = none) (hop : o.op = .lookup t mo xo false) (hm : a.eval mo = .map (some b)) (hx : a.eval xo = K.ek x)
    (hk : wpList P ops Q rest (a.put o.dst ((lk m x).getD z)) w) : wpList P ops Q (o :: rest) a w := by
  refine wpList_plain hg fun K' hK' => ?_
  have hr := run_look h ht hz hok false
  unfold Oper.wp
  simp [execOp, hop, hm, hx, hr, Result.andThen]
  exact hK' _ _ hk
theorem wpList_lookOk {ops : Array Oper} {rest : List Oper} {o : Oper} {a : Act} {Q : Exit → Act → World → Prop} {mo xo : Operand} {z : Value} {x : κ} (h : MapIs K w b m) (ht : P.underlying t = some (.map k e)) (hz : (zeroValue e).run P w = .ok z w)
    (hok : K.ok x) (hg : o.guard = none) (hop : o.op = .lookup t mo xo true) (hm : a.eval mo = .map (some b)) (hx : a.eval xo = K.ek x)
    (hk : wpList P ops Q rest (a.put o.dst (.tuple #[(lk m x).getD z, .bool (lk m x).isSome])) w) : wpList P ops Q (o :: rest) a w := by
  refine wpList_plain hg fun K' hK' => ?_
  have hr := run_look h ht hz hok true
  unfold Oper.wp
  simp [execOp, hop, hm, hx, hr, Result.andThen]
  exact hK' _ _ hk
theorem wpList_put {ops : Array Oper} {rest : List Oper} {o : Oper} {a : Act} {Q : Exit → Act → World → Prop} {mo xo vo : Operand} {x : κ} {v : Value} (h : MapIs K w b m) (ht : P.underlying t = some (.map k e))
    (hok : K.ok x) (hg : o.guard = none) (hop : o.op = .mapUpdate t mo xo vo) (hm : a.eval mo = .map (some b)) (hx : a.eval xo = K.ek x) (hv : a.eval vo = v)
    (hk : ∀ w', MapIs K w' b (mput m x v) → w.grownBy w' (some b) → w'.heap.size = w.heap.size → wpList P ops Q rest (a.put o.dst undef) w') : wpList P ops Q (o :: rest) a w := by
  refine wpList_plain hg fun K' hK' => ?_
  obtain ⟨w', hr, h1, h2, h3⟩ := run_put h ht hok v
  unfold Oper.wp
  simp [execOp, hop, hm, hx, hv, hr, Result.andThen]
  exact hK' _ _ (hk w' h1 h2 h3)
theorem MapIs.len {es : Array MapEntry} {c : Nat} (h : MapIs K w b m) (hb : w.heap[b]? = some (.map es c)) : es.size = m.length := by
  obtain ⟨es', c', hb', hm, _⟩ := h
  rw [hb] at hb'
  injection hb' with hb'
  injection hb' with e1 _
  subst e1
  have := congrArg List.length hm
  simpa using this
theorem run_mlen (h : MapIs K w b m) (ht : P.underlying t = some (.map k e)) (ty : TypeId) : (Builtin.len_ #[t] ty #[.map (some b)]).run P w = .ok (.int .i64 (m.length : Int)) w := by
  obtain ⟨es, c, hb, _⟩ := id h
  have hl := h.len hb
  simp [Builtin.len_, run_underlying ht, MapKept.run_getObj_map hb, Result.andThen, hl, goInt]
theorem wpList_mlen {ops : Array Oper} {rest : List Oper} {o : Oper} {a : Act} {Q : Exit → Act → World → Prop} {mo : Operand} (h : MapIs K w b m) (ht : P.underlying t = some (.map k e))
    (hg : o.guard = none) (hop : o.op = .call { callee := .builtin .len, args := #[mo], argTypes := #[t] }) (hm : a.eval mo = .map (some b))
    (hk : wpList P ops Q rest (a.put o.dst (.int .i64 (m.length : Int))) w) : wpList P ops Q (o :: rest) a w := by
  refine wpList_plain hg fun K' hK' => ?_
  obtain ⟨es, c, hb, _⟩ := id h
  have hl := h.len hb
  have hr : (Builtin.len_ #[t] o.type #[.map (some b)]).run P w = .ok (.int .i64 (m.length : Int)) w := by
    simp [Builtin.len_, run_underlying ht, MapKept.run_getObj_map hb, Result.andThen, hl, goInt]
  unfold Oper.wp
  simp [execOp, hop, resolve, invoke, builtin, hm, hr, Result.andThen]
  exact hK' _ _ hk
end Hv
end Go.Proofs.YtaakpcmflladaaaDoor
