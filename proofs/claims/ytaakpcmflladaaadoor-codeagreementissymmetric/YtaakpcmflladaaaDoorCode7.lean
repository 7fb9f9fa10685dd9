/- code.fraction. -/
import Derived.Test.YtaakpcmflladaaaDoorRat3
import Derived.Test.YtaakpcmflladaaaDoorCode6
import Derived.Test.YtaakpcmflladaaaDoorKapQ
set_option linter.all false
namespace Go.Proofs.YtaakpcmflladaaaDoor
open Go.RowKit Hv Go.Proofs
def FracR (w : World) (r : (List UInt8 × List UInt8) × Int) (e : Ending) (w' : World) : Prop := e = .returned (.agg #[.string ⟨r.1.1.toArray⟩, .string ⟨r.1.2.toArray⟩]) ∧ Below w.heap.size w w'
set_option maxRecDepth 100000 in
set_option maxHeartbeats 1600000 in
theorem fraction_any (h : View) (w : World) (hs : Sub h w) (ht : TabP w) (num den : Int) (hn : inRange .i64 num) (hd : inRange .i64 den) :
    Calls Tryd.prog 11 #[.int .i64 num, .int .i64 den] w (FracR w (ratOf num den)) := by
  have hx := (Ext.refl hs).alloc (.cells #[.string ⟨#[]⟩, .string ⟨#[]⟩] 25 (0, 0))
  have RT := Aside.mk (ratioOf_any h _ hx.sub (ht.below hx.below) num den hn hd)
  unfold RatR ratV bS at RT
  obtain ⟨R, hR⟩ : ∃ R, R = ratOf num den := ⟨_, rfl⟩
  rw [← hR] at RT ⊢
  clear hR ht
  obtain ⟨⟨a, b⟩, f⟩ := R
  go_enter Tryd.func11, Tryd.ntmps11
  go_wp2_with fail
  refine RT.out.mono ?_
  rintro e w1 ⟨rfl, b1⟩
  have bb := ((BoxAt.new w #[.string ⟨#[]⟩, .string ⟨#[]⟩] 25).below b1)
  have e0 := bb.cell 0
  have e1 := bb.cell 1
  have f0 := bb.frozen 0
  have f1 := bb.frozen 1
  simp only [List.getElem?_toArray, List.getElem?_cons_zero, List.getElem?_cons_succ] at e0 e1
  have hlt : w.heap.size < w1.heap.size := by have := b1.size; rw [World.size_alloc] at this; omega
  have B5 := Aside.mk (((((hx.below' b1).below).setCell (p := ⟨w.heap.size, 0, none⟩) (Nat.le_refl _) (.string ⟨a.toArray⟩)).setCell (p := ⟨w.heap.size, 1, none⟩) (Nat.le_refl _) (.string ⟨b.toArray⟩)).alloc (by simp; omega) (.cells #[.string ⟨a.toArray⟩, .string ⟨b.toArray⟩] 25 (0, 0)))
  have b2 := ((bb.set 0 (.string ⟨a.toArray⟩)).set 1 (.string ⟨b.toArray⟩)).alloc (.cells #[.string ⟨a.toArray⟩, .string ⟨b.toArray⟩] 25 (0, 0))
  have M0 := Aside.mk (b2.cell 0)
  have M1 := Aside.mk (b2.cell 1)
  clear b2
  clear b1 bb
  go_wp2
  refine bodyPost_ret (v := .agg #[.string ⟨a.toArray⟩, .string ⟨b.toArray⟩]) (by simp [results, Tryd.results11, go_sem, M0.out, M1.out]) rfl ?_
  exact ⟨rfl, B5.out⟩
end Go.Proofs.YtaakpcmflladaaaDoor
