/- A row of the call's own is sorted, and compacted, in place by the library. -/
import Derived.Test.YthodbodifkeknaaDoorLay
import Derived.Test.YthodbodifkeknaaDoorIter
set_option linter.all false
namespace Go.Proofs.YthodbodifkeknaaDoor
namespace Pl
variable {α : Type} [Inhabited α] [DecidableEq α]
open Go.Lib
/-- Compact of a list that rises: its elements, each once, rising. -/
theorem compact_upto {le : α → α → Bool} (t : Tot le) {zs : List α} (hs : zs.Pairwise (fun a b => le a b = true)) : ∀ (m : Nat), m ≤ zs.length →
    (compactUpTo zs.toArray m).Pairwise (fun a b => le a b = true) ∧ (compactUpTo zs.toArray m).Nodup ∧ ∀ x, x ∈ compactUpTo zs.toArray m ↔ x ∈ zs.take m
  | 0, _ => by simp [compactUpTo]
  | m + 1, h => by
    obtain ⟨h1, h2, h3⟩ := compact_upto t hs m (by omega)
    have hm : m < zs.length := by omega
    have hz : zs.toArray[m]! = zs[m] := by rw [getElem!_pos _ m (by simpa using hm)]; simp
    have htk : zs.take (m + 1) = zs.take m ++ [zs[m]] := by simp
    have hle : ∀ (i j : Nat) (hi : i < zs.length) (hj : j < zs.length), i < j → le zs[i] zs[j] = true := fun i j hi hj hij => List.pairwise_iff_getElem.1 hs i j hi hj hij
    have hpre : ∀ x ∈ zs.take m, le x zs[m] = true := by
      intro x hx
      obtain ⟨i, hi, rfl⟩ := List.getElem_of_mem hx
      rw [List.length_take] at hi
      rw [List.getElem_take]
      exact hle i m (by omega) hm (by omega)
    rw [compactUpTo_succ, hz, htk]
    by_cases hk : keeps zs.toArray m = true
    · rw [if_pos hk]
      have hnew : zs[m] ∉ zs.take m := by
        intro hx
        obtain ⟨i, hi, e⟩ := List.getElem_of_mem hx
        rw [List.length_take] at hi
        rw [List.getElem_take] at e
        have hm0 : 0 < m := by omega
        have hz1 : zs.toArray[m - 1]! = zs[m - 1] := by rw [getElem!_pos _ (m - 1) (by simp; omega)]; simp
        have hne : zs[m] ≠ zs[m - 1] := by
          simp only [keeps, hz, hz1, decide_eq_true_eq] at hk
          rcases hk with hk | hk
          · omega
          · exact hk
        have ha : le zs[m - 1] zs[m] = true := hle (m - 1) m (by omega) hm (by omega)
        have hb : le zs[m] zs[m - 1] = true := by
          rw [← e]
          by_cases h5 : i = m - 1
          · subst h5
            have := t.total zs[m - 1] zs[m - 1]
            simpa using this
          · exact hle i (m - 1) (by omega) (by omega) (by omega)
        exact hne (t.anti _ _ hb ha)
      refine ⟨?_, ?_, fun x => by rw [List.mem_append, List.mem_append, h3]⟩
      · rw [List.pairwise_append]
        exact ⟨h1, by simp, fun a ha b hb => by rw [List.mem_singleton.1 hb]; exact hpre a ((h3 a).1 ha)⟩
      · rw [List.nodup_append]
        refine ⟨h2, by simp, fun a ha b hb => ?_⟩
        rw [List.mem_singleton.1 hb]
        rintro rfl
        exact hnew ((h3 _).1 ha)
    · rw [if_neg hk, List.append_nil]
      have hm0 : 0 < m := by
        rcases Nat.eq_zero_or_pos m with h0 | h0
        · subst h0; simp [keeps] at hk
        · exact h0
      have hz1 : zs.toArray[m - 1]! = zs[m - 1] := by rw [getElem!_pos _ (m - 1) (by simp; omega)]; simp
      have heq : zs[m] = zs[m - 1] := by
        simp only [keeps, hz, hz1, decide_eq_true_eq] at hk
        by_cases h6 : zs[m] = zs[m - 1]
        · exact h6
        · exact absurd (.inr h6) hk
      refine ⟨h1, h2, fun x => ?_⟩
      rw [h3, List.mem_append, List.mem_singleton]
      constructor
      · exact .inl
      · rintro (hx | rfl)
        · exact hx
        · rw [heq, List.mem_iff_getElem]
          exact ⟨m - 1, by rw [List.length_take]; omega, by rw [List.getElem_take]⟩
/-- sort, then compact: the elements, each once, sorted. -/
theorem compact_sort {le : α → α → Bool} (t : Tot le) (l : List α) : compact (l.mergeSort le) = (ded l).mergeSort le := by
  have hs := List.pairwise_mergeSort t.trans t.total l
  obtain ⟨h1, h2, h3⟩ := compact_upto t hs (l.mergeSort le).length (Nat.le_refl _)
  refine sort_of_sorted t ((List.perm_ext_iff_of_nodup h2 (ded_nodup l)).2 fun x => ?_) h1
  rw [h3, List.take_length, mem_ded, (List.mergeSort_perm _ _).mem_iff]
end Pl
namespace Hv
open Go.RowKit Go.Maps Go.Sort Go.Shelf Go.Proofs
variable {α β : Type} [Inhabited α] {t : Ty β} {w : World} {h : View} {base : Nat} {e : TypeId} {v : Value} {xs ys : List β}
/-- A kind whose elements are one cell each, read off the element. -/
structure OneC (t : Ty β) (f : β → Value) : Prop where
  sz : t.sz = 1
  k : ∀ h x cs, t.K h x cs → cs = [f x]
theorem oneI : OneC tI (Value.int .i64) := ⟨rfl, fun h x cs k => k.1⟩
theorem oneStr : OneC tStr Value.string := ⟨rfl, fun h x cs k => k.1⟩
theorem rows_enc {f : β → Value} (o : OneC t f) {cs : List Value} (r : Rows t h xs cs) : cs = xs.map f := by
  induction r with
  | nil => rfl
  | cons k _ ih => rw [o.k _ _ _ k, ih]; rfl
theorem rows_mem {cs : List Value} (r : Rows t h xs cs) : ∀ x ∈ xs, ∃ ds, t.K h x ds := by
  intro x hx
  obtain ⟨i, hi, rfl⟩ := List.getElem_of_mem hx
  obtain ⟨ds, k, _⟩ := r.at_ i hi
  exact ⟨ds, k⟩
theorem holds_row (enc : α → Value) {g : Nat} {cur : Array Value} {ss : List α} (hb : w.heap[g]? = some (.cells cur e (0, 0))) (ht : cur.toList.take ss.length = ss.map enc) : Holds enc w g 0 ss.toArray := by
  intro j hj
  have hj' : j < ss.length := by simpa using hj
  refine ⟨?_, by simp [World.frozen?, hb]⟩
  have h1 : (cur.toList.take ss.length)[j]? = (ss.map enc)[j]? := by rw [ht]
  rw [List.getElem?_take_of_lt hj'] at h1
  simp only [World.cell?, hb, Nat.zero_add]
  simp only [Option.isSome_none, Bool.false_eq_true, if_false]
  rw [← Array.getElem?_toList, h1]
  simp [hj']
theorem heap_row (enc : α → Value) {g n : Nat} {os : Array Obj} {cur : Array Value} {fr : Nat × Nat} (d : Array α) (hb : w.heap[g]? = some (.cells cur e fr)) :
    (grow (putRow enc (Go.Sort.ahead w n) g 0 d) os).heap[g]? = some (.cells (putCells enc 0 d cur) e fr) := by
  have hg : g < w.heap.size := (Array.getElem?_eq_some_iff.1 hb).1
  rw [heap_grow_old _ _ (by simpa using hg)]
  simp [putRow, mapBlock, Go.Sort.ahead, Array.getElem?_modify, hb, onCells]
theorem grown_row (enc : α → Value) {g n : Nat} {os : Array Obj} (d : Array α) : w.grownBy (grow (putRow enc (Go.Sort.ahead w n) g 0 d) os) (some g) := by
  refine ⟨rfl, rfl, rfl, by simp, fun k hk hne => ?_⟩
  rw [heap_grow_old _ _ (by simpa using hk)]
  have : g ≠ k := fun e => hne (by rw [e])
  simp [putRow, mapBlock, Go.Sort.ahead, Array.getElem?_modify, this]
theorem take_put (enc : α → Value) (cur : Array Value) (ts : List α) (m : Nat) (hm : m ≤ ts.length) (h : ts.length ≤ cur.size) : (putCells enc 0 ts.toArray cur).toList.take m = (ts.take m).map enc := by
  apply List.ext_getElem?
  intro j
  by_cases hj : j < m
  · rw [List.getElem?_take_of_lt hj, Array.getElem?_toList]
    simp [putCells, hj, show j < cur.size by omega, show j < ts.length by omega]
  · rw [List.getElem?_take_eq_none (by omega), List.getElem?_eq_none (by simp; omega)]
/-- The row laid anew, in place: it holds ys, the first of ts. -/
theorem own_put {f : β → Value} (o1 : OneC t f) (enc : α → Value) (key : β → α) (hf : ∀ x, f x = enc (key x)) {g cap n : Nat} {os : Array Obj} {ts : List α} (o : Own w h base e t (.slice (some ⟨g, 0, none⟩) xs.length cap) xs)
    (hts : ts.length = xs.length) (hys : ts.take ys.length = ys.map key) (hl : ys.length ≤ xs.length) (hm : ∀ y ∈ ys, y ∈ xs) :
    Own (grow (putRow enc (Go.Sort.ahead w n) g 0 ts.toArray) os) h base e t (.slice (some ⟨g, 0, none⟩) ys.length cap) ys := by
  obtain ⟨⟨cs, hr, rs⟩, ho⟩ := o
  rcases hr.2 with ⟨h0, _⟩ | ⟨g', cap', cur, hv, hbase, hb, h1, h2, h3, h4⟩
  · injection h0 with h0; cases h0
  · injection hv with hv1 _ hv2
    injection hv1 with hv1
    injection hv1 with hv1
    subst hv1; subst hv2
    rw [o1.sz] at h3
    have hsz := o1.sz
    refine ⟨⟨ys.map f, ⟨by simp [hsz], .inr ⟨g, cap, _, rfl, hbase, heap_row enc _ hb, by omega, h2, by rw [hsz]; simp [putCells, h3], ?_⟩⟩, rows_one f ys fun y hy => ?_⟩, fun k hk => ho k hk⟩
    · rw [hsz, Nat.mul_one, take_put enc cur ts _ (by omega) (by omega), hys, List.map_map]
      exact List.map_congr_left fun x _ => (hf x).symm
    · obtain ⟨ds, k⟩ := rows_mem rs y (hm y hy)
      rw [o1.k _ _ _ k] at k
      exact k
theorem own_holds {f : β → Value} (o1 : OneC t f) (enc : α → Value) (key : β → α) (hf : ∀ x, f x = enc (key x)) {g cap : Nat} (o : Own w h base e t (.slice (some ⟨g, 0, none⟩) xs.length cap) xs) : Holds enc w g 0 (xs.map key).toArray ∧ xs.length ≤ cap := by
  obtain ⟨⟨cs, hr, rs⟩, ho⟩ := o
  rcases hr.2 with ⟨h0, _⟩ | ⟨g', cap', cur, hv, hbase, hb, h1, h2, h3, h4⟩
  · injection h0 with h0; cases h0
  · injection hv with hv1 _ hv2
    injection hv1 with hv1
    injection hv1 with hv1
    subst hv1; subst hv2
    refine ⟨holds_row enc hb ?_, h1⟩
    rw [rows_enc o1 rs, o1.sz, Nat.mul_one] at h4
    rw [List.length_map, h4, List.map_map]
    exact List.map_congr_left fun x _ => hf x
theorem own_shape (o : Own w h base e t v xs) : (v = .slice none 0 0 ∧ xs = []) ∨ ∃ g cap, v = .slice (some ⟨g, 0, none⟩) xs.length cap := by
  obtain ⟨⟨cs, hr, rs⟩, ho⟩ := o
  rcases hr.2 with ⟨h0, h1⟩ | ⟨g', cap', cur, hv, _⟩
  · exact .inl ⟨h0, List.eq_nil_of_length_eq_zero h1⟩
  · exact .inr ⟨g', cap', hv⟩
end Hv
end Go.Proofs.YthodbodifkeknaaDoor
