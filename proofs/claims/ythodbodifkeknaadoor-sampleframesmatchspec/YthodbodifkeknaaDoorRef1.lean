/- The reference's small functions: names, clusters, sizes, total, of. -/
import Derived.Test.YthodbodifkeknaaDoorSortOwn
import Derived.Test.YthodbodifkeknaaDoorFrame1
import Derived.Test.YthodbodifkeknaaDoorLayer1
set_option linter.all false
namespace Go.Proofs.YthodbodifkeknaaDoor
open Go.RowKit Hv Go.Proofs Go.Sort
variable {w : World} {h : View} {base : Nat}
theorem sortS_own {e : TypeId} {v : Value} {xs : List ByteArray} (o : Own w h base e tStr v xs) (hl : xs.length ≤ 5000) :
    Calls Tryd.prog 21 #[v] w fun e' w' => e' = .returned (.tuple #[]) ∧ w.grownBy w' v.ownBlock ∧ Own w' h base e tStr v (xs.mergeSort Pl.leB) := by
  rcases own_shape o with ⟨rfl, rfl⟩ | ⟨g, cap, rfl⟩
  · refine (Tryd.slices_Sort_string_none none 0 w).mono ?_
    rintro e' w' ⟨rfl, rfl⟩
    exact ⟨rfl, ⟨rfl, rfl, rfl, Nat.le_refl _, fun _ _ _ => rfl⟩, by simpa using o⟩
  · obtain ⟨hH, hc⟩ := own_holds oneStr encStr (fun x : ByteArray => x.data.toList) (fun x => (encStr_data x).symm) o
    have key := Tryd.slices_Sort_string g 0 cap (xs.map fun x => x.data.toList) w hH (o.lt g rfl).2 (by rw [List.length_map]; omega)
    rw [List.length_map] at key
    refine key.mono ?_
    rintro e' w' ⟨rfl, n, os, rfl⟩
    refine ⟨rfl, grown_row _ _, ?_⟩
    rw [sorted_bytes xs (List.Perm.refl _)]
    have hlen : (xs.mergeSort Pl.leB).length = xs.length := (List.mergeSort_perm _ _).length_eq
    have := own_put (ys := xs.mergeSort Pl.leB) (ts := (xs.mergeSort Pl.leB).map fun x => x.data.toList) (n := n) (os := os) oneStr encStr (fun x : ByteArray => x.data.toList) (fun x => (encStr_data x).symm) o (by simp) (by rw [List.take_of_length_le (by simp)]) (by omega) (fun y hy => (List.mergeSort_perm _ _).mem_iff.1 hy)
    rwa [hlen] at this
theorem sortI_own {e : TypeId} {v : Value} {xs : List Int} (o : Own w h base e tI v xs) (hl : xs.length ≤ 5000) :
    Calls Tryd.prog 23 #[v] w fun e' w' => e' = .returned (.tuple #[]) ∧ w.grownBy w' v.ownBlock ∧ Own w' h base e tI v (xs.mergeSort fun a b => decide (a ≤ b)) := by
  rcases own_shape o with ⟨rfl, rfl⟩ | ⟨g, cap, rfl⟩
  · refine (Tryd.slices_Sort_int_none none 0 w).mono ?_
    rintro e' w' ⟨rfl, rfl⟩
    exact ⟨rfl, ⟨rfl, rfl, rfl, Nat.le_refl _, fun _ _ _ => rfl⟩, by simpa using o⟩
  · obtain ⟨hH, hc⟩ := own_holds oneI (Value.int .i64) (fun x : Int => x) (fun x => rfl) o
    rw [List.map_id'] at hH
    have key := Tryd.slices_Sort_int g 0 cap xs w hH (o.lt g rfl).2 (by omega)
    refine key.mono ?_
    rintro e' w' ⟨rfl, n, os, rfl⟩
    refine ⟨rfl, grown_row _ _, ?_⟩
    have hlen : (xs.mergeSort fun a b => decide (a ≤ b)).length = xs.length := (List.mergeSort_perm _ _).length_eq
    have := own_put (ys := xs.mergeSort fun a b => decide (a ≤ b)) (ts := xs.mergeSort fun a b => decide (a ≤ b)) (n := n) (os := os) oneI (Value.int .i64) (fun x : Int => x) (fun x => rfl) o hlen (by rw [List.take_of_length_le (by simp), List.map_id']) (by omega) (fun y hy => (List.mergeSort_perm _ _).mem_iff.1 hy)
    rwa [hlen] at this
theorem compactS_own {e : TypeId} {v : Value} {l : List ByteArray} (o : Own w h base e tStr v (l.mergeSort Pl.leB)) (hl : l.length ≤ 5000) :
    Calls Tryd.prog 22 #[v] w fun e' w' => ∃ v', e' = .returned v' ∧ w.grownBy w' v.ownBlock ∧ Own w' h base e tStr v' ((Pl.ded l).mergeSort Pl.leB) := by
  have hlen : (l.mergeSort Pl.leB).length = l.length := (List.mergeSort_perm _ _).length_eq
  rcases own_shape o with ⟨rfl, h0⟩ | ⟨g, cap, rfl⟩
  · refine (Tryd.slices_Compact_string_empty none 0 w).mono ?_
    rintro e' w' ⟨rfl, rfl⟩
    have hl0 : l = [] := by
      have := congrArg List.length h0
      rw [hlen] at this
      exact List.eq_nil_of_length_eq_zero (by simpa using this)
    subst hl0
    exact ⟨_, rfl, ⟨rfl, rfl, rfl, Nat.le_refl _, fun _ _ _ => rfl⟩, by simpa [Pl.ded] using o⟩
  · obtain ⟨hH, hc⟩ := own_holds oneStr encStr (fun x : ByteArray => x.data.toList) (fun x => (encStr_data x).symm) o
    have key := Tryd.slices_Compact_string g 0 cap ((l.mergeSort Pl.leB).map fun x => x.data.toList) w hH (by rw [List.length_map]; omega) (by rw [List.length_map]; exact hc)
    have hmap : (l.mergeSort Pl.leB).map (fun x => x.data.toList) = (l.map fun x => x.data.toList).mergeSort (fun a b => decide (a ≤ b)) := (sorted_bytes l (List.Perm.refl _)).symm
    have hcmp : Go.Lib.compact ((l.mergeSort Pl.leB).map fun x => x.data.toList) = ((Pl.ded l).mergeSort Pl.leB).map fun x => x.data.toList := by
      rw [hmap, Pl.compact_sort tot_le, Pl.sort_perm tot_le (l' := (Pl.ded l).map fun x => x.data.toList)]
      · exact sorted_bytes (Pl.ded l) (List.Perm.refl _)
      · refine (List.perm_ext_iff_of_nodup (Pl.ded_nodup _) ?_).2 fun x => ?_
        · have := Pl.ded_nodup l
          rw [List.nodup_iff_pairwise_ne, List.pairwise_map] at *
          exact this.imp fun hne e => hne (Pl.data_inj e)
        · rw [Pl.mem_ded, List.mem_map, List.mem_map]
          simp only [Pl.mem_ded]
    rw [List.length_map, hcmp] at key
    have hle : ((Pl.ded l).mergeSort Pl.leB).length ≤ (l.mergeSort Pl.leB).length := by
      have := Go.Lib.compact_length_le ((l.mergeSort Pl.leB).map fun x => x.data.toList)
      rw [hcmp, List.length_map, List.length_map] at this
      exact this
    refine key.mono ?_
    rintro e' w' ⟨rfl, q, rfl⟩
    rw [List.length_map]
    refine ⟨_, rfl, ?_, ?_⟩
    · have := grown_row (w := w) (g := g) (n := q) (os := #[]) encStr (((Pl.ded l).mergeSort Pl.leB).map (fun x : ByteArray => x.data.toList) ++ List.replicate ((l.mergeSort Pl.leB).length - ((Pl.ded l).mergeSort Pl.leB).length) []).toArray
      rw [grow_empty] at this
      exact this
    · have := own_put (ys := (Pl.ded l).mergeSort Pl.leB) (ts := ((Pl.ded l).mergeSort Pl.leB).map (fun x => x.data.toList) ++ List.replicate ((l.mergeSort Pl.leB).length - ((Pl.ded l).mergeSort Pl.leB).length) []) (n := q) (os := #[]) oneStr encStr (fun x : ByteArray => x.data.toList) (fun x => (encStr_data x).symm) o (by rw [List.length_append, List.length_map, List.length_replicate]; omega) (by rw [List.take_append_of_le_length (by rw [List.length_map]; exact Nat.le_refl _), List.take_of_length_le (by rw [List.length_map]; exact Nat.le_refl _)]) hle (fun y hy => (List.mergeSort_perm _ _).mem_iff.2 (Pl.mem_ded.1 ((List.mergeSort_perm _ _).mem_iff.1 hy)))
      rw [grow_empty] at this
      exact this
theorem compactI_own {e : TypeId} {v : Value} {l : List Int} (o : Own w h base e tI v (l.mergeSort fun a b => decide (a ≤ b))) (hl : l.length ≤ 5000) :
    Calls Tryd.prog 24 #[v] w fun e' w' => ∃ v', e' = .returned v' ∧ w.grownBy w' v.ownBlock ∧ Own w' h base e tI v' ((Pl.ded l).mergeSort fun a b => decide (a ≤ b)) := by
  have hlen : (l.mergeSort fun a b => decide (a ≤ b)).length = l.length := (List.mergeSort_perm _ _).length_eq
  rcases own_shape o with ⟨rfl, h0⟩ | ⟨g, cap, rfl⟩
  · refine (Tryd.slices_Compact_int_empty none 0 w).mono ?_
    rintro e' w' ⟨rfl, rfl⟩
    have hl0 : l = [] := by
      have := congrArg List.length h0
      rw [hlen] at this
      exact List.eq_nil_of_length_eq_zero (by simpa using this)
    subst hl0
    exact ⟨_, rfl, ⟨rfl, rfl, rfl, Nat.le_refl _, fun _ _ _ => rfl⟩, by simpa [Pl.ded] using o⟩
  · obtain ⟨hH, hc⟩ := own_holds oneI (Value.int .i64) (fun x : Int => x) (fun x => rfl) o
    rw [List.map_id'] at hH
    have key := Tryd.slices_Compact_int g 0 cap (l.mergeSort fun a b => decide (a ≤ b)) w hH (by omega) hc
    have hcmp := Pl.compact_sort Pl.tot_int l
    rw [hcmp] at key
    have hle : ((Pl.ded l).mergeSort fun a b => decide (a ≤ b)).length ≤ (l.mergeSort fun a b => decide (a ≤ b)).length := by
      have := Go.Lib.compact_length_le (l.mergeSort fun a b => decide (a ≤ b))
      rw [hcmp] at this
      exact this
    refine key.mono ?_
    rintro e' w' ⟨rfl, q, rfl⟩
    refine ⟨_, rfl, ?_, ?_⟩
    · have := grown_row (w := w) (g := g) (n := q) (os := #[]) (Value.int .i64) (((Pl.ded l).mergeSort fun a b => decide (a ≤ b)) ++ List.replicate ((l.mergeSort fun a b => decide (a ≤ b)).length - ((Pl.ded l).mergeSort fun a b => decide (a ≤ b)).length) 0).toArray
      rw [grow_empty] at this
      exact this
    · have := own_put (ys := (Pl.ded l).mergeSort fun a b => decide (a ≤ b)) (ts := ((Pl.ded l).mergeSort fun a b => decide (a ≤ b)) ++ List.replicate ((l.mergeSort fun a b => decide (a ≤ b)).length - ((Pl.ded l).mergeSort fun a b => decide (a ≤ b)).length) 0) (n := q) (os := #[]) oneI (Value.int .i64) (fun x : Int => x) (fun x => rfl) o (by rw [List.length_append, List.length_replicate]; omega) (by rw [List.take_append_of_le_length (Nat.le_refl _), List.take_of_length_le (Nat.le_refl _), List.map_id']) hle (fun y hy => (List.mergeSort_perm _ _).mem_iff.2 (Pl.mem_ded.1 ((List.mergeSort_perm _ _).mem_iff.1 hy)))
      rw [grow_empty] at this
      exact this
end Go.Proofs.YthodbodifkeknaaDoor
