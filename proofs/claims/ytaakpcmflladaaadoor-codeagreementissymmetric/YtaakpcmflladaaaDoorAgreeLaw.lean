/- CodeAgreementIsSymmetric: the walk. -/
import Derived.Test.YtaakpcmflladaaaDoorAgreeP
set_option linter.all false
namespace Go.Proofs.YtaakpcmflladaaaDoor
open Go.RowKit Hv Go.Proofs
set_option maxRecDepth 100000 in
set_option maxHeartbeats 1600000 in
theorem agree_any (h : View) (w : World) (hs : Sub h w) (ht : TabP w) (vl vc : Value) (l : List Node) (cs : List Cod) (hl : Sl h tNode vl l) (hc : Sl h tCod vc cs) (a b : Int) :
    Calls Tryd.prog 3 #[vl, vc, .int .i64 a, .int .i64 b] w fun e w' => e = .returned (.bool true) ∧ Below w.heap.size w w' := by
  have K1 := Aside.mk (kappa_any h w hs ht vl vc l cs hl hc a b)
  have K2 := Aside.mk (fun (vw : View) (W : World) (x : Ext w h W vw) => kappa_any vw W x.sub (ht.below x.below) vl vc l cs (hl.mono x.le) (hc.mono x.le) b a)
  have K3 := Aside.mk (fun (vw : View) (W : World) (x : Ext w h W vw) => kappa_any vw W x.sub (ht.below x.below) vl vc l cs (hl.mono x.le) (hc.mono x.le) a a)
  have e2 : kapF (bothF l cs b a) (pairsOf b a (grp cs cs.length)) ratOf = kapF (bothF l cs a b) (pairsOf a b (grp cs cs.length)) ratOf := by
    rw [bothF_symm, pairsOf_swap, kapF_swap]
  rw [e2] at K2
  clear e2
  obtain ⟨R, hR⟩ : ∃ R, R = kapF (bothF l cs a b) (pairsOf a b (grp cs cs.length)) ratOf := ⟨_, rfl⟩
  obtain ⟨R3, hR3⟩ : ∃ R, R = kapF (bothF l cs a a) (pairsOf a a (grp cs cs.length)) ratOf := ⟨_, rfl⟩
  have h3 : R3.2 = 0 → R3 = (([49], [49]), 0) := fun e => by
    rw [hR3] at e ⊢
    exact kapF_self (pairsOf_self a _) e
  rw [← hR] at K1 K2
  rw [← hR3] at K3
  clear hR hR3
  have H3 := Aside.mk h3
  obtain ⟨⟨a1, a2⟩, a3⟩ := R
  obtain ⟨⟨d1, d2⟩, d3⟩ := R3
  clear h3
  unfold KapR ratV bS at K1 K2 K3
  go_enter Tryd.func3, Tryd.ntmps3
  go_wp2_with fail
  refine K1.out.mono ?_
  rintro e w1 ⟨rfl, h1, x1⟩
  have x1 := x1.alloc (.cells #[.string ⟨a1.toArray⟩, .string ⟨a2.toArray⟩] 25 (0, 0))
  have bx1 := BoxAt.new w1 #[.string ⟨a1.toArray⟩, .string ⟨a2.toArray⟩] 25
  have C2 := Aside.mk (K2.out h1 _ x1)
  have X1 := Aside.mk x1
  have B1 := Aside.mk bx1
  clear x1 bx1
  go_wp2_with fail
  refine C2.out.mono ?_
  rintro e w2 ⟨rfl, h2, x2⟩
  have bb := B1.out.below x2.below
  have c0 := bb.cell 0
  have c1 := bb.cell 1
  simp only [List.getElem?_toArray, List.getElem?_cons_zero, List.getElem?_cons_succ] at c0 c1
  have hlt := bb.lt
  have x2 := (X1.out.trans x2).alloc (.cells #[.string ⟨a1.toArray⟩, .string ⟨a2.toArray⟩] 25 (0, 0))
  have C3 := Aside.mk (K3.out h2 _ x2)
  have X2 := Aside.mk x2
  clear x2 bb
  go_wp2_with fail
  refine C3.out.mono ?_
  rintro e w3 ⟨rfl, h3, x3⟩
  have X3 := Aside.mk ((X2.out.trans x3).alloc (.cells #[.string ⟨d1.toArray⟩, .string ⟨d2.toArray⟩] 25 (0, 0)))
  clear x3
  by_cases h0 : d3 = 0
  · have e3 := H3.out h0
    simp only [Prod.mk.injEq] at e3
    obtain ⟨⟨rfl, rfl⟩, rfl⟩ := e3
    clear h0
    go_wp2
    go_ret
    exact ⟨by first | rfl | (simp; done), X3.out.below⟩
  · have h0b : (d3 != 0) = true := by rw [bne_iff_ne]; exact h0
    clear h0
    go_wp2
    go_ret
    exact ⟨by first | rfl | (simp; done), X3.out.below⟩
end Go.Proofs.YtaakpcmflladaaaDoor
