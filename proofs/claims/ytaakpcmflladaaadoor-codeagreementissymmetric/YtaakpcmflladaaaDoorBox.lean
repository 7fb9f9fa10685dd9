/- Boxes: blocks of cells that the walk knows whole. -/
import Derived.Test.YtaakpcmflladaaaDoorHvMap
set_option linter.all false
namespace Go.Proofs.YtaakpcmflladaaaDoor
namespace Hv
open Go.RowKit Go.Proofs
def BoxAt (w : World) (b : Nat) (T : TypeId) (cs : Array Value) : Prop := w.heap[b]? = some (.cells cs T (0, 0))
variable {w w' : World} {b b' : Nat} {T T' : TypeId} {cs cs' : Array Value}
theorem BoxAt.lt (x : BoxAt w b T cs) : b < w.heap.size := (Array.getElem?_eq_some_iff.1 x).1
theorem BoxAt.cell (x : BoxAt w b T cs) (j : Nat) : w.cell? ⟨b, j, none⟩ = cs[j]? := by
  unfold World.cell?
  simp only [show w.heap[b]? = some (.cells cs T (0, 0)) from x]; rfl
theorem BoxAt.block (x : BoxAt w b T cs) (e : w'.heap[b]? = w.heap[b]?) : BoxAt w' b T cs := e.trans x
theorem BoxAt.alloc (x : BoxAt w b T cs) (o : Obj) : BoxAt (w.alloc o) b T cs := x.block (Below.heap_alloc w o b x.lt)
theorem BoxAt.drew (x : BoxAt w b T cs) : BoxAt w.drew b T cs := x
theorem BoxAt.drewN (x : BoxAt w b T cs) (n : Nat) : BoxAt (w.drewN n) b T cs := x
theorem BoxAt.grown (x : BoxAt w b T cs) {row : Option Nat} (hg : w.grownBy w' row) (hr : row ≠ some b) : BoxAt w' b T cs := x.block (hg.block b x.lt fun e => hr e.symm)
theorem BoxAt.below (x : BoxAt w b T cs) (hb : Below w.heap.size w w') : BoxAt w' b T cs := x.block (hb.block b x.lt)
theorem BoxAt.far (x : BoxAt w b T cs) {p : Addr} (hp : b ≠ p.block) (u : Value) : BoxAt (w.setCell p u) b T cs := x.block (Below.heap_setCell w p u b hp)
theorem BoxAt.set (x : BoxAt w b T cs) (j : Nat) (u : Value) : BoxAt (w.setCell ⟨b, j, none⟩ u) b T (cs.setIfInBounds j u) := by
  have h : w.heap[b]? = some (.cells cs T (0, 0)) := x
  have hlt := x.lt
  unfold BoxAt World.setCell
  rw [Array.getElem?_eq_getElem (by simpa using hlt)]
  rw [Array.getElem?_eq_getElem hlt] at h
  injection h with h
  simp only [Array.getElem_modify, if_true, h]
  rfl
theorem BoxAt.new (w : World) (cs : Array Value) (T : TypeId) : BoxAt (w.alloc (.cells cs T (0, 0))) w.heap.size T cs := by
  simp only [BoxAt, World.alloc, Array.getElem?_push_size]
theorem BoxAt.frozen (x : BoxAt w b T cs) (j : Nat) : w.frozen? ⟨b, j, none⟩ = false := by
  unfold World.frozen?
  simp [show w.heap[b]? = some (.cells cs T (0, 0)) from x]
theorem BoxAt.ne (x : BoxAt w b T cs) (y : BoxAt w b' T' cs') (h : T ≠ T') : b ≠ b' := by
  rintro rfl
  unfold BoxAt at x y
  rw [x] at y
  injection y with y
  injection y with _ y _
  exact h y
theorem MapIs.ne_box {P : Program} {k : TypeId} {κ : Type} {K : KeyT P k κ} {m : List (κ × Value)} (hm : MapIs K w b m) (y : BoxAt w b' T' cs') : b ≠ b' := by
  rintro rfl
  obtain ⟨es, c, hb, _⟩ := hm
  unfold BoxAt at y
  rw [y] at hb; cases hb
theorem Own.box {α : Type} {t : Ty α} {h : View} {base : Nat} {e : TypeId} {v : Value} {xs : List α} (o : Own w h base e t v xs) {g : Nat} (hg : v.ownBlock = some g) : ∃ c, BoxAt w g e c := by
  obtain ⟨⟨cs, hr, _⟩, _⟩ := o
  rcases hr.2 with ⟨rfl, _⟩ | ⟨g', cap, cur, rfl, _, hh, _⟩
  · simp [Value.ownBlock] at hg
  · have : g' = g := by simpa [Value.ownBlock] using hg
    subst this; exact ⟨_, hh⟩
theorem Own.ne_box {α : Type} {t : Ty α} {h : View} {base : Nat} {e : TypeId} {v : Value} {xs : List α} (o : Own w h base e t v xs) (y : BoxAt w b' T' cs') (h : e ≠ T') : v.ownBlock ≠ some b' := by
  intro hg
  obtain ⟨c, hc⟩ := o.box hg
  exact hc.ne y h rfl
theorem heap_set (w : World) (p : Addr) (u : Value) (k : Nat) (h : k ≠ p.block) : (w.setCell p u).heap[k]? = w.heap[k]? := Below.heap_setCell w p u k h
theorem size_set (w : World) (p : Addr) (u : Value) : (w.setCell p u).heap.size = w.heap.size := by simp [World.setCell]
end Hv
end Go.Proofs.YtaakpcmflladaaaDoor
