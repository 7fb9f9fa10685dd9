/- value.RatioOf. -/
import Derived.Test.YtaakpcmflladaaaDoorRat2
set_option linter.all false
namespace Go.Proofs.YtaakpcmflladaaaDoor
open Go.RowKit Hv Go.Proofs Nt
theorem mag_any (n : Int) (hn : inRange .i64 n) (w : World) : Calls Tryd.prog 25 #[.int .i64 n] w fun e w' => e = .returned (.int .u64 ((n.natAbs : Nat) : Int)) ∧ w = w' := by
  obtain ⟨h1, h2⟩ := hn
  by_cases h0 : n < 0
  · have e2 : IntKind.u64.wrap (-(IntKind.u64.wrap n)) = ((n.natAbs : Nat) : Int) := by
      rw [IntKind.wrap_u64, IntKind.wrap_u64]; omega
    rw [← e2]
    clear e2
    go_enter Tryd.func25, Tryd.ntmps25
    go_wp2
    go_ret
    refine ⟨?_, rfl⟩
    first | rfl | (simp; done)
  · have e2 : ((n.natAbs : Nat) : Int) = n := by omega
    rw [e2]
    clear e2
    go_enter Tryd.func25, Tryd.ntmps25
    go_wp2
    go_ret
    refine ⟨?_, rfl⟩
    first | rfl | (simp; done)
def ratOf (num den : Int) : (List UInt8 × List UInt8) × Int := if den = 0 then (([], []), 19) else ratN (decide (num < 0) != decide (den < 0)) num.natAbs den.natAbs
theorem ratOf_zero (num : Int) : ratOf num 0 = (([], []), 19) := rfl
theorem abs_len {n : Int} (hn : inRange .i64 n) : (limbs n.natAbs).length ≤ 8796093022208 := by
  obtain ⟨h1, h2⟩ := hn
  have h : (limbs n.natAbs).length ≤ 3 := limbs_len.2 (by have : B ^ 3 = 1000000000000000000000000000 := by decide
                                                          omega)
  omega
set_option maxRecDepth 100000 in
set_option maxHeartbeats 1600000 in
theorem ratioOf_any (h : View) (w : World) (hs : Sub h w) (ht : TabP w) (num den : Int) (hn : inRange .i64 num) (hd : inRange .i64 den) :
    Calls Tryd.prog 12 #[.int .i64 num, .int .i64 den] w (RatR w (ratOf num den)) := by
  have hx := Ext.refl hs
  by_cases h0 : den = 0
  · subst h0
    rw [ratOf_zero]
    go_enter Tryd.func12, Tryd.ntmps12
    go_wp2
    refine bodyPost_ret (v := .tuple #[.agg #[.string ⟨#[]⟩, .string ⟨#[]⟩], .int .i64 19]) (by simp [results, Tryd.results12, go_sem]) rfl ?_
    exact RatR.of rfl (by simpa using (Below.refl w.heap.size w).alloc (Nat.le_refl _) (.cells #[.string ⟨#[]⟩, .string ⟨#[]⟩] 25 (0, 0)))
  · have hR : ratOf num den = ratN (decide (num < 0) != decide (den < 0)) num.natAbs den.natAbs := by unfold ratOf; rw [if_neg h0]
    have h0b : (den == 0) = false := by rw [beq_eq_false_iff_ne]; exact h0
    rw [hR]
    obtain ⟨nb, hnb⟩ : ∃ nb, nb = (decide (num < 0) != decide (den < 0)) := ⟨_, rfl⟩
    rw [← hnb]
    have HNB := Aside.mk (show (!(decide (num < 0) == decide (den < 0))) = nb from hnb.symm)
    have M1 := Aside.mk (fun (W : World) => mag_any num hn W)
    have M2 := Aside.mk (fun (W : World) => mag_any den hd W)
    have S1 := Aside.mk (fun (vw : View) (W : World) (hsW : Sub vw W) => small_any vw W hsW num.natAbs (by have := hn.1; have := hn.2; omega))
    have S2 := Aside.mk (fun (vw : View) (W : World) (hsW : Sub vw W) => small_any vw W hsW den.natAbs (by have := hd.1; have := hd.2; omega))
    have RT := Aside.mk (fun (vw : View) (W : World) (v1 v2 : Value) (hsW : Sub vw W) (htW : TabP W) (i1 : IsNat vw v1 num.natAbs) (i2 : IsNat vw v2 den.natAbs) => ratio_any vw W hsW htW nb v1 v2 _ _ i1 i2 (by omega) (abs_len hn) (abs_len hd))
    unfold NatR at S1 S2
    unfold RatR at RT
    have HT := Aside.mk ht
    have HX := Aside.mk hx
    have HB0 := Aside.mk (hs.none_ge (Nat.le_refl w.heap.size))
    clear h0 hR hx ht hnb hn hd
    generalize num.natAbs = p at *
    generalize den.natAbs = q at *
    obtain ⟨R, hRR⟩ : ∃ R, R = ratN nb p q := ⟨_, rfl⟩
    rw [← hRR] at RT ⊢
    clear hRR
    obtain ⟨⟨a, b⟩, f⟩ := R
    unfold ratV bS at RT
    go_enter Tryd.func12, Tryd.ntmps12
    go_wp2_with fail
    refine (M1.out _).mono ?_
    rintro e w1 ⟨rfl, rfl⟩
    go_wp2_with fail
    refine (S1.out h _ (HX.out.sub.alloc _)).mono ?_
    rintro e w1 ⟨h1, v1, rfl, x1, i1⟩
    go_wp2_with fail
    refine (M2.out _).mono ?_
    rintro e w2 ⟨rfl, rfl⟩
    go_wp2_with fail
    refine (S2.out h1 _ x1.sub).mono ?_
    rintro e w2 ⟨h2, v2, rfl, x2, i2⟩
    obtain ⟨Ap, cp, rfl, _, _⟩ := isNat_sl i1
    obtain ⟨Aq, cq, rfl, _, _⟩ := isNat_sl i2
    have i1' := IsNat.mono i1 x2.le
    have y2 := ((HX.out.alloc (.cells #[.string ⟨#[]⟩, .string ⟨#[]⟩] 25 (0, 0))).trans x1).trans x2
    have RC := Aside.mk (RT.out h2 w2 _ _ y2.sub (HT.out.below y2.below) i1' i2)
    have b1 := ((BoxAt.new w #[.string ⟨#[]⟩, .string ⟨#[]⟩] 25).below x1.below).below x2.below
    have Y2 := Aside.mk y2
    have BB := Aside.mk b1
    clear i1 i2 i1' x1 x2 y2 b1
    go_wp2_with fail
    rw [HNB.out]
    refine RC.out.mono ?_
    rintro e w3 ⟨rfl, b3⟩
    have bb := BB.out.below b3
    have e0 := bb.cell 0
    have e1 := bb.cell 1
    have f0 := bb.frozen 0
    have f1 := bb.frozen 1
    simp only [List.getElem?_toArray, List.getElem?_cons_zero, List.getElem?_cons_succ] at e0 e1
    have hlt := bb.lt
    have B5 := Aside.mk ((((Y2.out.below' b3).below).setCell (p := ⟨w.heap.size, 0, none⟩) (Nat.le_refl _) (.string ⟨a.toArray⟩)).setCell (p := ⟨w.heap.size, 1, none⟩) (Nat.le_refl _) (.string ⟨b.toArray⟩))
    clear b3 bb
    go_wp2
    refine bodyPost_ret (v := .tuple #[.agg #[.string ⟨a.toArray⟩, .string ⟨b.toArray⟩], .int .i64 f]) (by simp [results, Tryd.results12, go_sem, e0, e1]) rfl ?_
    exact RatR.of rfl B5.out
end Go.Proofs.YtaakpcmflladaaaDoor
