/- slices.Sorted(maps.Keys(m)) at the map of a stratum's clusters. -/
import Derived.Test.YthodbodifkeknaaDoorLayer1
set_option linter.all false
namespace Go.Proofs.YthodbodifkeknaaDoor
open Go.RowKit Hv Go.Proofs Go.Maps Go.Sort Go.Shelf
theorem keysI (mb : Nat) (W : World) : Calls Tryd.prog 34 #[.map (some mb)] W fun e w' =>
    e = .returned (.func (.func 43) #[] #[.pointer (some ⟨W.heap.size, 0, none⟩)]) ∧ W.alloc (.cells #[.map (some mb)] 61) = w' :=
  (callsIn_wide.1 (AnyZI.keys_in Tryd.keys34 Fence.wide 5 trivial rfl (some mb) W)).mono (by rintro e w' ⟨rfl, rfl⟩; exact ⟨rfl, rfl⟩)
set_option maxHeartbeats 1000000 in
theorem sortedI (h : View) (W : World) (mb : Nat) (m : List (Int × Value)) (hs : Sub h W) (hm : MapIs Ki W mb m) (hl : m.length ≤ 1000000) :
    Calls Tryd.prog 33 #[.func (.func 43) #[] #[.pointer (some ⟨W.heap.size, 0, none⟩)]] (W.alloc (.cells #[.map (some mb)] 61)) fun e w' =>
      ∃ h' v, e = .returned v ∧ Ext (W.alloc (.cells #[.map (some mb)] 61)) h w' h' ∧ Sl h' tI v ((m.map (·.1)).mergeSort fun a b => decide (a ≤ b)) := by
  obtain ⟨es, hown, hperm⟩ := owns_of hm (by unfold maxLen; omega) (fun x => Lit.int .i64 x) (fun x hx => keyOf_int_mk Tryd.underlying3 (wf_i64 hx))
  have hsz : Maps.size (.map es : DataW Unit) = m.length := by
    have := hperm.length_eq
    rw [List.length_map, List.length_map] at this
    exact this
  have hown' : (W.alloc (.cells #[.map (some mb)] 61)).ownsMap Tryd.prog 3 (fun _ => some (.nil, [])) mb m.length (.map es) := by
    have hbl := hown.lt
    obtain ⟨es, clock, hb, Ft, hs, hD⟩ := hown
    exact ⟨es, clock, (Below.heap_alloc _ _ mb hbl).trans hb, Ft, hs, hD⟩
  have hseq : SeqGives Fence.wide 2 Tryd.prog 43 #[.pointer (some ⟨W.heap.size, 0, none⟩)] encZ (fun ss => ss.Perm (intKeys (.map es : DataW Unit))) (Maps.size (.map es : DataW Unit)) (W.alloc (.cells #[.map (some mb)] 61)) :=
    AnyZI.keys_gives (ρ := Tryd.keys34_ren) { Tryd.keys34 with } Fence.wide _ trivial rfl (by omega) W.heap.size mb m.length _ _ (by simp) (by simp) hown'
  have key := AnyZI.sorted_in Tryd.sorted33 Fence.wide 5 trivial trivial trivial trivial rfl (by omega) (sortsI _) (enters_of Tryd.func23 (by kernel_rfl) rfl) 43 #[.pointer (some ⟨W.heap.size, 0, none⟩)] trivial (enters_of Tryd.func43 (by kernel_rfl) rfl) _ _ (by rw [hsz]; unfold maxLen; omega) (by rw [hsz]; omega) _ hseq
  refine (callsIn_wide.1 key).mono ?_
  rintro e w' ⟨v, ss, rfl, hp, hr, _, hb⟩
  have hp2 : ss.Perm (m.map (·.1)) := hp.trans (intKeys_perm (by rw [List.map_map]; exact hperm))
  rw [Pl.sort_perm Pl.tot_int hp2] at hr
  have hlen : ss.length = ((m.map (·.1)).mergeSort fun a b => decide (a ≤ b)).length := by rw [hp2.length_eq, (List.mergeSort_perm _ _).length_eq]
  rw [hlen] at hr
  have hok := hm.oks
  obtain ⟨h', x, s⟩ := row_joins (t := tI) (h := h) (xs := (m.map (·.1)).mergeSort fun a b => decide (a ≤ b)) (fun x => .int .i64 x) (hs.alloc _) rfl hr hb (fun x hx h => ⟨rfl, by
      obtain ⟨p, hp, rfl⟩ := List.mem_map.1 ((List.mergeSort_perm _ _).mem_iff.1 hx)
      exact hok p hp⟩)
  exact ⟨h', v, rfl, x, s⟩
theorem ded_le {α : Type} [DecidableEq α] : ∀ (l : List α), (Pl.ded l).length ≤ l.length
  | [] => Nat.le_refl _
  | x :: l => by
    have := ded_le l
    unfold Pl.ded
    split <;> simp <;> omega
theorem clusD_le (l : List Unit4) : (clusD l).length ≤ l.length := by
  unfold clusD
  rw [(List.mergeSort_perm _ _).length_eq]
  exact Nat.le_trans (ded_le _) (by simp)
def clusL (l : List Unit4) : List Clu := (clusD l).map fun c => ⟨c, totalL (inClu l c), inClu l c⟩
theorem clusL_len (l : List Unit4) : (clusL l).length = (clusD l).length := by simp [clusL]
theorem clusters_sorted {m : List (Int × Value)} {l : List Unit4} (hn : (m.map (·.1)).Nodup) (hk : ∀ x, (∃ p ∈ m, p.1 = x) ↔ ∃ u ∈ l, u.cl = x) : (m.map (·.1)).mergeSort (fun a b => decide (a ≤ b)) = clusD l := by
  refine Pl.sort_same Pl.tot_int hn (Pl.ded_nodup _) fun x => ?_
  rw [Pl.mem_ded, List.mem_map, List.mem_map]
  exact hk x
theorem CG.publish {w0 w : World} {h0 h : View} {m : List (Int × Value)} {l : List Unit4} {gb : Int → Nat} {vs : Int → Value} (x : Ext w0 h0 w h) (g : CG w h w0.heap.size m l gb vs) (hn : (m.map (·.1)).Nodup) :
    ∃ h', Ext w0 h0 w h' ∧ (∀ b, (∀ p ∈ m, (vs p.1).ownBlock ≠ some b) → h' b = h b) ∧ ∀ p ∈ m, Sl h' tUnit (vs p.1) (inClu l p.1) := by
  obtain ⟨h', x', _, s, o⟩ := publishAll (fun n => inClu l n) (m.map fun p => (p.1, vs p.1)) x
    (fun p hp => by obtain ⟨q, hq, rfl⟩ := List.mem_map.1 hp; exact g.own q hq)
    (by
      rw [List.pairwise_map]
      rw [List.nodup_iff_pairwise_ne, List.pairwise_map] at hn
      exact List.Pairwise.imp_of_mem (fun {p q} hp hq hne => (g.apart p hp q hq hne).2) hn)
  exact ⟨h', x', fun b hb => o b (fun q hq => by obtain ⟨p, hp, rfl⟩ := List.mem_map.1 hq; exact hb p hp), fun p hp => s _ (List.mem_map.2 ⟨p, hp, rfl⟩)⟩
end Go.Proofs.YthodbodifkeknaaDoor
