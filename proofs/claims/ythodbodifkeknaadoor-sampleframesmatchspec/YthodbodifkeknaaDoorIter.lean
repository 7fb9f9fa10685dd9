/- slices.Sorted(maps.Keys(m)) at a map that is known by its entries: the shelf's contracts, read into the views. -/
import Derived.Test.YthodbodifkeknaaDoorHvMap
import Derived.Test.YthodbodifkeknaaDoorPlain
import Derived.Shelf.SlIter.Nil
import Derived.Shelf.SlIterI.Nil
import Derived.Shelf.Sort.Plain
import Derived.Shelf.Slices.In.SortNone
set_option linter.all false
namespace Go.Proofs.YthodbodifkeknaaDoor
namespace Hv
open Go.RowKit Go.Maps Go.Sort Go.Shelf Go.Proofs Go.WideElems
variable {P : Program} {k : TypeId} {κ : Type}
theorem rd_plain {K : KeyT P k κ} {kl : κ → Lit} (hkl : ∀ x, K.ok x → keyOf P k (K.ek x) = some (kl x)) {x : MapEntry} {p : κ × Value} (e : x.key = K.ek p.1) (ho : K.ok p.1) :
    Go.WideElems.rd (H := Unit) P k (fun _ => some (.nil, [])) x = some (kl p.1, .nil) := by
  unfold Go.WideElems.rd
  rw [e, hkl _ ho]; rfl
theorem owns_of {K : KeyT P k κ} {w : World} {b : Nat} {m : List (κ × Value)} (h : MapIs K w b m) (hl : m.length ≤ maxLen) (kl : κ → Lit) (hkl : ∀ x, K.ok x → keyOf P k (K.ek x) = some (kl x)) :
    ∃ es : List (Lit × DataW Unit), w.ownsMap P k (fun _ => some (.nil, [])) b m.length (.map es) ∧ (es.map (·.1)).Perm (m.map fun p => kl p.1) := by
  obtain ⟨es, clock, hb, hm, hn, hok, hlt, hbn⟩ := h
  have hlen : es.toList.length = m.length := by have := congrArg List.length hm; simpa using this
  have hp : ∀ x ∈ es.toList, ∃ p ∈ m, x.key = K.ek p.1 := by
    intro x hx
    have : (x.key, x.val) ∈ es.toList.map (fun x => (x.key, x.val)) := List.mem_map.2 ⟨x, hx, rfl⟩
    rw [hm] at this
    obtain ⟨p, hp, e⟩ := List.mem_map.1 this
    injection e with e1 e2
    exact ⟨p, hp, e1.symm⟩
  have hkeys : es.toList.map (·.key) = m.map fun p => K.ek p.1 := by
    have := congrArg (List.map Prod.fst) hm
    simpa [List.map_map, Function.comp_def] using this
  have hrg : ∀ x ∈ es.toList, Go.WideElems.rd (H := Unit) P k (fun _ => some (.nil, [])) x = some (rg P k (fun _ => some (.nil, [])) x) := by
    intro x hx
    obtain ⟨p, hpm, e⟩ := hp x hx
    have := rd_plain hkl e (hok p hpm)
    rw [rg_of this]; exact this
  refine ⟨(es.toList.map (rg P k (fun _ => some (.nil, [])))).foldr DataW.insert [], ⟨es, clock, hb, ⟨by rw [← Array.length_toList, hlen]; exact hl, ⟨hlt, hbn, ?_⟩, fun x hx => ⟨_, hrg x hx⟩⟩, by rw [← Array.length_toList, hlen]; exact Nat.le_refl _, rfl⟩, ?_⟩
  · rw [hkeys]
    rw [List.nodup_iff_pairwise_ne, List.pairwise_map] at hn ⊢
    exact hn.imp fun hne e => hne (K.inj _ _ e)
  · refine ((Go.WideShapes.sorted_perm _).map _).trans ?_
    rw [List.map_map]
    have : es.toList.map ((fun x => x.1) ∘ rg (H := Unit) P k (fun _ => some (.nil, []))) = (es.toList.map (·.key)).map fun v => (keyOf P k v).getD (.bool false) := by
      rw [List.map_map]
      refine List.map_congr_left fun x hx => ?_
      obtain ⟨p, hpm, e⟩ := hp x hx
      have h1 := rg_of (rd_plain hkl e (hok p hpm))
      simp [h1, e, hkl _ (hok p hpm)]
    rw [this, hkeys, List.map_map]
    refine List.Perm.of_eq (List.map_congr_left fun p hp => ?_)
    simp [hkl _ (hok p hp)]
theorem rows_one {α : Type} {t : Ty α} {h : View} (f : α → Value) : ∀ (xs : List α), (∀ x ∈ xs, t.K h x [f x]) → Rows t h xs (xs.map f)
  | [], _ => .nil
  | x :: xs, hx => Rows.cons (hx x (by simp)) (rows_one f xs fun y hy => hx y (by simp [hy]))
/-- A new row of one-cell elements, not in the view so far, joins it. -/
theorem row_joins {α : Type} {t : Ty α} {h : View} {w w' : World} {e : TypeId} {v : Value} {xs : List α} (f : α → Value) (hs : Sub h w) (hsz : t.sz = 1) (hr : w'.ownsRow w.heap.size e 1 v xs.length (xs.map f)) (hb : Below w.heap.size w w') (hx : ∀ x ∈ xs, ∀ h, t.K h x [f x]) :
    ∃ h', Ext w h w' h' ∧ Sl h' t v xs := by
  have x : Ext w h w' h := (Ext.refl hs).below' hb
  have o : Own w' h w.heap.size e t v xs := ⟨⟨xs.map f, by rw [hsz]; exact hr, rows_one f xs fun y hy => hx y hy h⟩, fun g hg => hs.none_ge (ownsRow_lt hr g hg).1⟩
  obtain ⟨h', x', _, s', _⟩ := o.publish x (Nat.le_refl _)
  exact ⟨h', x', s'⟩
theorem tot_le : Pl.Tot (fun a b : List UInt8 => decide (a ≤ b)) := by
  refine ⟨?_, ?_, ?_⟩
  · intro a b c h1 h2
    simp only [decide_eq_true_eq] at *
    exact List.le_trans h1 h2
  · intro a b
    simp only [Bool.or_eq_true, decide_eq_true_eq]
    exact List.le_total _ _
  · intro a b h1 h2
    simp only [decide_eq_true_eq] at *
    exact List.le_antisymm h1 h2
theorem sorted_bytes (l : List ByteArray) {ss : List (List UInt8)} (h : ss.Perm (l.map fun x => x.data.toList)) : (ss.mergeSort fun x y => decide (x ≤ y)) = (l.mergeSort Pl.leB).map fun x => x.data.toList := by
  rw [Pl.sort_perm tot_le h]
  exact (List.map_mergeSort (r := Pl.leB) (s := fun a b => decide (a ≤ b)) (f := fun x : ByteArray => x.data.toList) (fun a _ b _ => rfl)).symm
theorem encStr_data (x : ByteArray) : encStr x.data.toList = .string x := by
  cases x; simp [encStr]
theorem strKeys_perm {es : List (Lit × DataW Unit)} {l : List ByteArray} (h : (es.map (·.1)).Perm (l.map fun x => Lit.string x.data.toList)) : (strKeys (.map es)).Perm (l.map fun x => x.data.toList) := by
  have := h.map _root_.Go.strOf
  rw [List.map_map, List.map_map] at this
  exact this
theorem intKeys_perm {es : List (Lit × DataW Unit)} {l : List Int} (h : (es.map (·.1)).Perm (l.map fun x => Lit.int .i64 x)) : (intKeys (.map es)).Perm l := by
  have := h.map _root_.Go.intOf
  rw [List.map_map, List.map_map] at this
  refine this.trans (List.Perm.of_eq ?_)
  exact List.map_id' l
end Hv
end Go.Proofs.YthodbodifkeknaaDoor
