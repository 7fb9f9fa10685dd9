/- A row of rows, all of the call's own. -/
import Derived.Test.YtaakpcmflladaaaDoorHvRow
set_option linter.all false
namespace Go.Proofs.YtaakpcmflladaaaDoor
open Go.RowKit Hv Go.Proofs
namespace Hv
variable {w w' : World} {h : View} {base : Nat} {e e1 e2 : TypeId} {v V : Value} {α : Type} {t : Ty α}
/-- Values of one cell, just as they lie. -/
def tRaw : Ty Value where
  sz := 1
  K := fun _ x cs => cs = [x] ∧ x.oneCell' = true
  len := fun h => by rw [h.1]; rfl
  one := fun h u hu => by rw [h.1] at hu; obtain rfl := List.mem_singleton.1 hu; exact h.2
  mono := fun _ h => h
theorem rowsRaw {xs cs : List Value} (r : Rows tRaw h xs cs) : cs = xs := by
  induction r with
  | nil => rfl
  | cons k _ ih => rw [k.1, ih]; rfl
theorem Own.set1 {xs : List α} (o : Own w h base e t v xs) (h1 : t.sz = 1) {i : Nat} (hi : i < xs.length) {y : α} {u : Value} (k : t.K h y [u]) {g c n : Nat} (hv : v = .slice (some ⟨g, 0, none⟩) n c) : Own (w.setCell ⟨g, i, none⟩ u) h base e t v (xs.set i y) := by
  obtain ⟨⟨cs, hr, rs⟩, ho⟩ := o
  have hone := rs.one
  have hcl := rs.len
  have rs' := rs.set k i hi
  rcases hr with ⟨hr0, ⟨rfl, h0⟩ | ⟨g', cap, cur, rfl, hb, hh, hn1, hn2, hcs, htk⟩⟩
  · omega
  · injection hv with hv1 hv2 hv3
    injection hv1 with hv1
    injection hv1 with hv1
    subst hv1
    have hbox : BoxAt w g' e cur := hh
    rw [h1, Nat.mul_one] at rs' htk hcl
    rw [Nat.mul_one] at rs'
    rw [h1] at hcs
    have e1 : List.take i cs ++ [u] ++ List.drop (i + 1) cs = cs.set i u := by
      rw [List.set_eq_take_append_cons_drop, if_pos (by omega), List.append_assoc]; rfl
    rw [e1] at rs'
    refine ⟨⟨cs.set i u, ⟨rs'.len, .inr ⟨g', cap, cur.setIfInBounds i u, by rw [List.length_set], hb, hbox.set i u, by rw [List.length_set]; exact hn1, hn2, by rw [Array.size_setIfInBounds, h1]; exact hcs, ?_⟩⟩, rs'⟩, ho⟩
    rw [List.length_set, h1, Nat.mul_one, Array.toList_setIfInBounds, ← htk, List.take_set]
/-- V: a row of rows; the blocks are distinct. -/
structure Rowz (w : World) (h : View) (base : Nat) (e1 e2 : TypeId) (t : Ty α) (V : Value) (L : List (List α × Value)) : Prop where
  own : Own w h base e1 tRaw V (L.map (·.2))
  ins : ∀ p ∈ L, Own w h base e2 t p.2 p.1
  sep : L.Pairwise fun p q => ∀ g, p.2.ownBlock = some g → q.2.ownBlock ≠ some g
variable {L L0 : List (List α × Value)}
theorem Rowz.nil : Rowz w h base e1 e2 t (.slice none 0 0) ([] : List (List α × Value)) := ⟨Own.nil, fun p hp => (by cases hp), List.Pairwise.nil⟩
theorem Rowz.alloc (r : Rowz w h base e1 e2 t V L) (x : Obj) : Rowz (w.alloc x) h base e1 e2 t V L := ⟨r.own.alloc x, fun p hp => (r.ins p hp).alloc x, r.sep⟩
theorem Rowz.drew (r : Rowz w h base e1 e2 t V L) : Rowz w.drew h base e1 e2 t V L := ⟨r.own.drew, fun p hp => (r.ins p hp).drew, r.sep⟩
theorem Rowz.off (r : Rowz w h base e1 e2 t V L) (he : e1 ≠ e2) {p : List α × Value} (hp : p ∈ L) {g : Nat} (hg : p.2.ownBlock = some g) : V.ownBlock ≠ some g := by
  obtain ⟨c, hc⟩ := (r.ins p hp).box hg
  exact r.own.ne_box hc he
/-- An empty row joins. -/
theorem Rowz.more (r : Rowz w h base e1 e2 t V L) (he : e1 ≠ e2) {x : Obj} {V' : Value} (o : Own w' h base e1 tRaw V' (L.map (·.2) ++ [.slice none 0 0])) (hg : (w.alloc x).grownBy w' V.ownBlock) :
    Rowz w' h base e1 e2 t V' (L ++ [([], .slice none 0 0)]) := by
  refine ⟨by rw [List.map_append]; exact o, fun p hp => ?_, ?_⟩
  · rcases List.mem_append.1 hp with hp | hp
    · exact ((r.ins p hp).alloc x).grown hg fun k hk e => r.off he hp hk e.symm
    · obtain rfl := List.mem_singleton.1 hp
      exact Own.nil
  · rw [List.pairwise_append]
    refine ⟨r.sep, List.pairwise_singleton _ _, fun p hp q hq g hg' => ?_⟩
    obtain rfl := List.mem_singleton.1 hq
    simp [Value.ownBlock]
/-- The last row has one more. -/
theorem Rowz.last {x : List α} {vx : Value} (r : Rowz w h base e1 e2 t V (L0 ++ [(x, vx)])) (he : e1 ≠ e2) {o : Obj} {v' : Value} {y : α} (hv : ∃ A n c, v' = .slice A n c) (o' : Own w' h base e2 t v' (x ++ [y])) (hg : (w.alloc o).grownBy w' vx.ownBlock) (hn : ∀ k, v'.ownBlock = some k → vx.ownBlock = some k ∨ w.heap.size < k) {g c n : Nat} (hV : V = .slice (some ⟨g, 0, none⟩) n c) :
    Rowz (w'.setCell ⟨g, L0.length, none⟩ v') h base e1 e2 t V (L0 ++ [(x ++ [y], v')]) := by
  have hm : (x, vx) ∈ L0 ++ [(x, vx)] := by simp
  have hVg : V.ownBlock = some g := by rw [hV]; rfl
  have ow : Own w' h base e1 tRaw V ((L0 ++ [(x, vx)]).map (·.2)) := (r.own.alloc o).grown hg fun k hk e => r.off he hm e.symm hk
  obtain ⟨cb, hcb⟩ := ow.box hVg
  obtain ⟨ss, hss⟩ := List.pairwise_append.1 r.sep
  refine ⟨?_, fun p hp => ?_, ?_⟩
  · have hl : L0.length < ((L0 ++ [(x, vx)]).map (·.2)).length := by simp
    have := ow.set1 rfl hl (y := v') (u := v') ⟨rfl, by obtain ⟨A, n, c, rfl⟩ := hv; rfl⟩ hV
    have e : ((L0 ++ [(x, vx)]).map (·.2)).set L0.length v' = (L0 ++ [(x ++ [y], v')]).map (·.2) := by
      rw [List.map_append, List.map_append, List.set_append_right _ _ (by simp)]
      simp
    rwa [e] at this
  · have hne : ∀ k, p.2.ownBlock = some k → Own w' h base e2 t p.2 p.1 → k ≠ (⟨g, L0.length, none⟩ : Addr).block := fun k hk op => by
      obtain ⟨c, hc⟩ := op.box hk
      exact hc.ne hcb (fun e => he e.symm)
    rcases List.mem_append.1 hp with hp | hp
    · have op : Own w' h base e2 t p.2 p.1 := ((r.ins p (List.mem_append_left _ hp)).alloc o).grown hg fun k hk e => hss.2 p hp (x, vx) (by simp) k hk e.symm
      exact op.setCell (fun k hk => hne k hk op) _
    · obtain rfl := List.mem_singleton.1 hp
      exact o'.setCell (fun k hk => hne k hk o') _
  · rw [List.pairwise_append]
    refine ⟨ss, List.pairwise_singleton _ _, fun p hp q hq k hk => ?_⟩
    obtain rfl := List.mem_singleton.1 hq
    intro e
    rcases hn k e with h1 | h1
    · exact hss.2 p hp (x, vx) (by simp) k hk h1
    · have := ((r.ins p (List.mem_append_left _ hp)).lt k hk).2
      omega
theorem Rowz.top {x : List α} {vx : Value} (r : Rowz w h base e1 e2 t V (L0 ++ [(x, vx)])) : ∃ g cap m j, V = .slice (some ⟨g, 0, none⟩) m cap ∧ j = L0.length ∧ m = j + 1 ∧ base ≤ g ∧ g < w.heap.size ∧ h g = none ∧ w.cell? ⟨g, j, none⟩ = some vx ∧ (∃ c, BoxAt w g e1 c) := by
  obtain ⟨g, cap, ds, rfl, h1, h2, h3, h4, h5⟩ := r.own.at_ L0.length (by simp)
  refine ⟨g, cap, _, L0.length, rfl, rfl, by simp, h1, h2, h3, ?_, r.own.box rfl⟩
  have e := h4.1
  have := h5 0 _ (by rw [e]; rfl)
  simpa [tRaw] using this
theorem rowsSl {h1 : View} : ∀ (L : List (List α × Value)), (∀ p ∈ L, Sl h1 t p.2 p.1) → Rows (tSl t) h1 (L.map (·.1)) (L.map (·.2))
  | [], _ => .nil
  | p :: L, hs => .cons (t := tSl t) (x := p.1) (cs := [p.2]) ⟨p.2, rfl, hs p (by simp)⟩ (rowsSl L fun q hq => hs q (List.mem_cons_of_mem _ hq))
theorem Rowz.publish {w0 : World} {h0 : View} (x : Ext w0 h0 w h) (r : Rowz w h w0.heap.size e1 e2 t V L) (he : e1 ≠ e2) :
    ∃ h', Ext w0 h0 w h' ∧ View.le h h' ∧ Sl h' (tSl t) V (L.map (·.1)) := by
  obtain ⟨h1, x1, l1, s1, b1⟩ := publishAll (e := e2) (t := t) (fun x => x) L x r.ins r.sep
  have ow : Own w h1 w0.heap.size e1 (tSl t) V (L.map (·.1)) := by
    have hoff : ∀ g, V.ownBlock = some g → h1 g = none := fun g hg => by
      rw [b1 g fun p hp hk => r.off he hp hk hg]
      exact r.own.out g hg
    obtain ⟨⟨cs, hr, rs⟩, ho⟩ := r.own
    have e := rowsRaw rs
    subst e
    exact ⟨⟨L.map (·.2), by rw [List.length_map] at hr ⊢; exact hr, rowsSl L s1⟩, hoff⟩
  obtain ⟨h2, x2, l2, s2, _⟩ := ow.publish x1 (Nat.le_refl _)
  exact ⟨h2, x2, l1.trans l2, s2⟩
end Hv
end Go.Proofs.YtaakpcmflladaaaDoor
