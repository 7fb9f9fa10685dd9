/- slices.Sorted(maps.Keys(m)) at this program: its two kinds of keys. -/
import Derived.Test.YthodbodifkeknaaDoorLay
import Derived.Test.YthodbodifkeknaaDoorIter
import Derived.Test.YthodbodifkeknaaDoorFrame1
set_option linter.all false
namespace Go.Proofs.YthodbodifkeknaaDoor
open Go.RowKit Hv Go.Proofs Go.Maps Go.Sort Go.Shelf
theorem sortsS (m : Nat) : AnyZ.SortsIn Tryd.prog Tryd.sorted18_ren Fence.wide m :=
  ⟨fun blk off cap ss W hH hblk hsz => callsIn_wide.2 (Tryd.slices_Sort_string blk off cap ss W hH hblk hsz),
   fun p cap W => callsIn_wide.2 (Tryd.slices_Sort_string_none p cap W)⟩
theorem sortsI (m : Nat) : AnyZI.SortsIn Tryd.prog Tryd.sorted33_ren Fence.wide m :=
  ⟨fun blk off cap ss W hH hblk hsz => callsIn_wide.2 (Tryd.slices_Sort_int blk off cap ss W hH hblk hsz),
   fun p cap W => callsIn_wide.2 (Tryd.slices_Sort_int_none p cap W)⟩
theorem keysS : KeysS := fun mb W => (callsIn_wide.1 (AnyZ.keys_in Tryd.keys19 Fence.wide 5 trivial rfl (some mb) W)).mono (by rintro e w' ⟨rfl, rfl⟩; exact ⟨rfl, rfl⟩)
set_option maxHeartbeats 1000000 in
theorem sortedS : SortedS := by
  intro h W mb m hs hm hl
  obtain ⟨es, hown, hperm⟩ := owns_of hm (by unfold maxLen; omega) (fun x => Lit.string x.data.toList) (fun x hx => WideMaps.keyOf_string_mk Tryd.underlying9 (by unfold maxLen; exact hx))
  have hsz : Maps.size (.map es : DataW Unit) = m.length := by
    have := hperm.length_eq
    rw [List.length_map, List.length_map] at this
    exact this
  have hown' : (W.alloc (.cells #[.map (some mb)] 47)).ownsMap Tryd.prog 9 (fun _ => some (.nil, [])) mb m.length (.map es) := by
    have hbl := hown.lt
    obtain ⟨es, clock, hb, Ft, hs, hD⟩ := hown
    exact ⟨es, clock, (Below.heap_alloc _ _ mb hbl).trans hb, Ft, hs, hD⟩
  have hseq : SeqGives Fence.wide 2 Tryd.prog 32 #[.pointer (some ⟨W.heap.size, 0, none⟩)] encStr (fun ss => ss.Perm (strKeys (.map es : DataW Unit))) (Maps.size (.map es : DataW Unit)) (W.alloc (.cells #[.map (some mb)] 47)) :=
    AnyZ.keys_gives (ρ := Tryd.keys19_ren) { Tryd.keys19 with } Fence.wide _ trivial rfl (by omega) W.heap.size mb m.length _ _ (by simp) (by simp) hown'
  have key := AnyZ.sorted_in Tryd.sorted18 Fence.wide 5 trivial trivial trivial trivial rfl (by omega) (sortsS _) (enters_of Tryd.func21 (by kernel_rfl) rfl) 32 #[.pointer (some ⟨W.heap.size, 0, none⟩)] trivial (enters_of Tryd.func32 (by kernel_rfl) rfl) _ _ (by rw [hsz]; unfold maxLen; omega) (by rw [hsz]; omega) _ hseq
  refine (callsIn_wide.1 key).mono ?_
  rintro e w' ⟨v, ss, rfl, hp, hr, _, hb⟩
  have hp2 : ss.Perm ((m.map (·.1)).map fun x => x.data.toList) := hp.trans (strKeys_perm (by rw [List.map_map]; exact hperm))
  rw [sorted_bytes _ hp2] at hr
  have hlen : ss.length = ((m.map (·.1)).mergeSort Pl.leB).length := by rw [hp2.length_eq, (List.mergeSort_perm _ _).length_eq]; simp
  rw [List.map_map, hlen] at hr
  have hok := hm.oks
  obtain ⟨h', x, s⟩ := row_joins (t := tStr) (h := h) (xs := (m.map (·.1)).mergeSort Pl.leB) (fun x => .string x) (hs.alloc _) rfl (by
      have : (encStr ∘ fun x : ByteArray => x.data.toList) = fun x => Value.string x := by funext x; exact encStr_data x
      rw [this] at hr; exact hr) hb (fun x hx h => ⟨rfl, by
      obtain ⟨p, hp, rfl⟩ := List.mem_map.1 ((List.mergeSort_perm _ _).mem_iff.1 hx)
      exact hok p hp⟩)
  exact ⟨h', v, rfl, x, s⟩
end Go.Proofs.YthodbodifkeknaaDoor
