/- value's fractions: lowest terms. -/
import Derived.Test.YtaakpcmflladaaaDoorNat9
set_option linter.all false
namespace Go.Proofs.YtaakpcmflladaaaDoor
open Go.RowKit Hv Go.Proofs Nt
def LowR (w : World) (h : View) (neg : Bool) (n d : Nat) (e : Ending) (w' : World) : Prop := ∃ h' v1 v2, e = .returned (.agg #[.bool neg, v1, v2]) ∧ Ext w h w' h' ∧ IsNat h' v1 n ∧ IsNat h' v2 d
theorem LowR.of {w w' : World} {h h' : View} {neg neg' : Bool} {n d : Nat} {v1 v2 : Value} (hn : neg' = neg) (x : Ext w h w' h') (i1 : IsNat h' v1 n) (i2 : IsNat h' v2 d) : LowR w h neg n d (.returned (.agg #[.bool neg', v1, v2])) w' := ⟨h', v1, v2, by rw [hn], x, i1, i2⟩
theorem isNat_sl {h : View} {v : Value} {n : Nat} (i : IsNat h v n) : ∃ A c, v = .slice A (limbs n).length c ∧ (limbs n).length ≤ c ∧ c ≤ 9223372036854775807 := by
  obtain ⟨A, c, e, h1, h2, _⟩ := i
  exact ⟨A, c, e, h1, h2⟩
theorem len_div {a b k : Nat} (h : (limbs a).length ≤ k) : (limbs (a / b)).length ≤ k := by
  have := limbs_len.1 h
  have h2 := Nat.div_le_self a b
  exact limbs_len.2 (by omega)
theorem len_gcd {a b k : Nat} (h0 : b ≠ 0) (h : (limbs b).length ≤ k) : (limbs (Nat.gcd a b)).length ≤ k := by
  have := limbs_len.1 h
  have h2 := Nat.gcd_le_right a (show 0 < b by omega)
  exact limbs_len.2 (by omega)
set_option maxRecDepth 100000 in
set_option maxHeartbeats 800000 in
theorem lowest_any (h : View) (w : World) (hs : Sub h w) (neg : Bool) (vn vd : Value) (n d : Nat) (hn : IsNat h vn n) (hd : IsNat h vd d) (h0 : d ≠ 0) (hl : (limbs n).length ≤ 8796093022208) (hld : (limbs d).length ≤ 8796093022208) :
    Calls Tryd.prog 40 #[.agg #[.bool neg, vn, vd]] w (LowR w h (neg && decide (n / Nat.gcd n d ≠ 0)) (n / Nat.gcd n d) (d / Nat.gcd n d)) := by
  have hx := Ext.refl hs
  have HN := Aside.mk hn
  have HD := Aside.mk hd
  have hg0 : Nat.gcd n d ≠ 0 := by have := Nat.gcd_pos_of_pos_right n (show 0 < d by omega); omega
  have HGL := Aside.mk (len_gcd (a := n) h0 hld)
  obtain ⟨g, hg⟩ : ∃ g, g = Nat.gcd n d := ⟨_, rfl⟩
  have GC := Aside.mk (fun (W : World) (hsW : Sub h W) => gcd_any h W hsW vn vd n d hn hd hl hld)
  rw [← hg] at GC HGL hg0 ⊢
  clear hg hn hd
  unfold NatR at GC
  obtain ⟨nb, hnb⟩ : ∃ nb, nb = (neg && decide (n / g ≠ 0)) := ⟨_, rfl⟩
  rw [← hnb]
  have HNB := Aside.mk hnb
  clear hnb
  have HN0 := HN.out
  have HD0 := HD.out
  obtain ⟨An, cn, rfl, _, _⟩ := isNat_sl HN0
  obtain ⟨Ad, cd, rfl, _, _⟩ := isNat_sl HD0
  have HB0 := Aside.mk (hs.none_ge (Nat.le_refl w.heap.size))
  have HB1 := Aside.mk (hs.none_ge (Nat.le_succ w.heap.size))
  have OV := Aside.mk (fun (vw : View) (W : World) (gv : Value) (hsW : Sub vw W) (hle : View.le h vw) (ig : IsNat vw gv g) => (⟨over_any vw W hsW _ gv n g (HN.out.mono hle) ig hg0 hl HGL.out, over_any vw W hsW _ gv d g (HD.out.mono hle) ig hg0 hld HGL.out⟩ : _ ∧ _))
  unfold OverR at OV
  clear HN0 HD0
  have HX := Aside.mk hx
  clear hx
  go_enter Tryd.func40, Tryd.ntmps40
  go_wp2_with fail
  refine (GC.out _ (((HX.out.sub.alloc _).alloc _))).mono ?_
  rintro e w1 ⟨h1, gv, rfl, x1, ig⟩
  have y1 := Aside.mk (((HX.out.alloc _).alloc _).trans x1)
  have b1 := Aside.mk (((BoxAt.new w #[.bool neg, .slice An (limbs n).length cn, .slice Ad (limbs d).length cd] 78).alloc (.cells #[.bool false, .slice none 0 0, .slice none 0 0] 78 (0, 0))).below x1.below)
  have b2 := Aside.mk ((BoxAt.new (w.alloc (.cells #[.bool neg, .slice An (limbs n).length cn, .slice Ad (limbs d).length cd] 78 (0, 0))) #[.bool false, .slice none 0 0, .slice none 0 0] 78).below x1.below)
  rw [World.size_alloc] at b2
  have n0 : Aside (h1 w.heap.size = none) := ⟨(x1.old _ (by simp; omega)).trans HB0.out⟩
  have n1 : Aside (h1 (w.heap.size + 1) = none) := ⟨(x1.old _ (by simp)).trans HB1.out⟩
  have IG := Aside.mk ig
  have c0 := b1.out.cell 0
  have c1 := b1.out.cell 1
  have c2 := b1.out.cell 2
  simp only [List.getElem?_toArray, List.getElem?_cons_zero, List.getElem?_cons_succ] at c0 c1 c2
  have hb2 : w.heap.size + 1 < w1.heap.size := b2.out.lt
  clear x1 ig GC
  go_wp2_with fail
  refine (OV.out h1 _ gv y1.out.sub y1.out.le IG.out).1.mono ?_
  rintro e w2 ⟨h2, qv, _, rfl, x2, iq, _⟩
  obtain ⟨Aq, cq, rfl, _, _⟩ := isNat_sl iq
  have n2 : Aside (h2 w.heap.size = none) := ⟨(x2.old _ (by omega)).trans n0.out⟩
  have n3 : Aside (h2 (w.heap.size + 1) = none) := ⟨(x2.old _ (by omega)).trans n1.out⟩
  have b3 := Aside.mk ((b1.out.below x2.below).set 1 (.slice Aq (limbs (n / g)).length cq))
  have b4 := Aside.mk ((b2.out.below x2.below).far (p := ⟨w.heap.size, 1, none⟩) (by simp) (.slice Aq (limbs (n / g)).length cq))
  have f3 := (b1.out.below x2.below).frozen 1
  have g3 := (b1.out.below x2.below).cell 1
  simp only [List.getElem?_toArray, List.getElem?_cons_zero, List.getElem?_cons_succ] at g3
  have y2 := Aside.mk ((y1.out.trans x2).setCell (p := ⟨w.heap.size, 1, none⟩) (Nat.le_refl _) n2.out (.slice Aq (limbs (n / g)).length cq))
  have IQ := Aside.mk iq
  have IG2 := Aside.mk (IG.out.mono x2.le)
  have hb3 : w.heap.size + 1 < w2.heap.size := Nat.lt_of_lt_of_le hb2 x2.ge
  have p2 : Aside (Ext w1 h1 w2 h2) := ⟨x2⟩
  have d2 := (b1.out.below x2.below).cell 2
  simp only [List.getElem?_toArray, List.getElem?_cons_zero, List.getElem?_cons_succ] at d2
  clear x2 iq c0 c1 c2 b1 b2 n0 n1
  go_wp2_with fail
  refine (OV.out h2 _ gv y2.out.sub y2.out.le IG2.out).2.mono ?_
  rintro e w3 ⟨h3, rv, _, rfl, x3, ir, _⟩
  obtain ⟨Ar, cr, rfl, _, _⟩ := isNat_sl ir
  have hb4 : w.heap.size + 1 < w3.heap.size := Nat.lt_of_lt_of_le hb3 (by have := x3.ge; rwa [size_set] at this)
  have n4 : Aside (h3 w.heap.size = none) := ⟨(x3.old _ (by rw [size_set]; omega)).trans n2.out⟩
  have n5 : Aside (h3 (w.heap.size + 1) = none) := ⟨(x3.old _ (by rw [size_set]; omega)).trans n3.out⟩
  have b5 := Aside.mk (((b3.out.below x3.below).set 2 (.slice Ar (limbs (d / g)).length cr)))
  have b6 := Aside.mk (((b4.out.below x3.below).far (p := ⟨w.heap.size, 2, none⟩) (by simp) (.slice Ar (limbs (d / g)).length cr)))
  have f5 := (b3.out.below x3.below).frozen 2
  have g5 := (b3.out.below x3.below).cell 2
  have y3 := Aside.mk ((y2.out.trans x3).setCell (p := ⟨w.heap.size, 2, none⟩) (Nat.le_refl _) n4.out (.slice Ar (limbs (d / g)).length cr))
  have IQ3 := Aside.mk (IQ.out.mono x3.le)
  have IR3 := Aside.mk ir
  have c0 := (b3.out.below x3.below).cell 0
  have c1 := (b3.out.below x3.below).cell 1
  have k0 := (b3.out.below x3.below).frozen 0
  have e0 := (b4.out.below x3.below).cell 0
  have e1 := (b4.out.below x3.below).cell 1
  have e2 := (b4.out.below x3.below).cell 2
  have k1 := (b4.out.below x3.below).frozen 0
  have k2 := (b4.out.below x3.below).frozen 1
  have k3 := (b4.out.below x3.below).frozen 2
  simp only [List.setIfInBounds_toArray, List.set_cons_zero, List.set_cons_succ, List.getElem?_toArray, List.getElem?_cons_zero, List.getElem?_cons_succ] at c0 c1 e0 e1 e2 g5
  clear x3 ir g3 f3 d2 b3 b4 y2 n2 n3 IQ IG2 y1 p2
  cases neg
  · have E : Aside (nb = false) := ⟨by rw [HNB.out]; rfl⟩
    go_wp2
    refine bodyPost_ret (v := .agg #[.bool false, .slice Aq (limbs (n / g)).length cq, .slice Ar (limbs (d / g)).length cr]) (by simp [results, Tryd.results40, go_sem, e0, e1, e2]) rfl ?_
    exact LowR.of E.out.symm (((((y3.out.setCell (p := ⟨w.heap.size, 0, none⟩) (Nat.le_refl _) n4.out _).setCell (p := ⟨w.heap.size + 1, 0, none⟩) (Nat.le_succ _) n5.out _).setCell (p := ⟨w.heap.size + 1, 1, none⟩) (Nat.le_succ _) n5.out _).setCell (p := ⟨w.heap.size + 1, 2, none⟩) (Nat.le_succ _) n5.out _)) IQ3.out IR3.out
  · by_cases hz : (limbs (n / g)).length = 0
    · have hz2 : n / g = 0 := limbs_nil.1 (List.eq_nil_of_length_eq_zero hz)
      have E : Aside (nb = false) := ⟨by rw [HNB.out, hz2]; rfl⟩
      have hz3 : ¬ 0 < (limbs (n / g)).length := by omega
      clear hz2 hz
      go_wp2
      refine bodyPost_ret (v := .agg #[.bool false, .slice Aq (limbs (n / g)).length cq, .slice Ar (limbs (d / g)).length cr]) (by simp [results, Tryd.results40, go_sem, e0, e1, e2]) rfl ?_
      exact LowR.of E.out.symm (((((y3.out.setCell (p := ⟨w.heap.size, 0, none⟩) (Nat.le_refl _) n4.out _).setCell (p := ⟨w.heap.size + 1, 0, none⟩) (Nat.le_succ _) n5.out _).setCell (p := ⟨w.heap.size + 1, 1, none⟩) (Nat.le_succ _) n5.out _).setCell (p := ⟨w.heap.size + 1, 2, none⟩) (Nat.le_succ _) n5.out _)) IQ3.out IR3.out
    · have hz2 : n / g ≠ 0 := fun e => hz (by rw [e, limbs_zero]; rfl)
      have E : Aside (nb = true) := ⟨by rw [HNB.out, Bool.true_and]; exact decide_eq_true hz2⟩
      have hz3 : 0 < (limbs (n / g)).length := by omega
      clear hz2 hz
      go_wp2
      refine bodyPost_ret (v := .agg #[.bool true, .slice Aq (limbs (n / g)).length cq, .slice Ar (limbs (d / g)).length cr]) (by simp [results, Tryd.results40, go_sem, e0, e1, e2]) rfl ?_
      exact LowR.of E.out.symm (((((y3.out.setCell (p := ⟨w.heap.size, 0, none⟩) (Nat.le_refl _) n4.out _).setCell (p := ⟨w.heap.size + 1, 0, none⟩) (Nat.le_succ _) n5.out _).setCell (p := ⟨w.heap.size + 1, 1, none⟩) (Nat.le_succ _) n5.out _).setCell (p := ⟨w.heap.size + 1, 2, none⟩) (Nat.le_succ _) n5.out _)) IQ3.out IR3.out
end Go.Proofs.YtaakpcmflladaaaDoor
