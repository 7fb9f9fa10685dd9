/- value's naturals: the long division, walked. -/
import Derived.Test.YtaakpcmflladaaaDoorNat7
set_option linter.all false
namespace Go.Proofs.YtaakpcmflladaaaDoor
open Go.RowKit Hv Go.Proofs Nt
theorem step_at (vw : View) (w : World) (hs : Sub vw w) (g c m j n : Nat) (a u b lv : List Nat) (vv : Value) (hgn : vw g = none) (hr : RowAt w g 75 .u64 (a ++ u ++ b)) (hv : Sl vw (tN .u64) vv lv) (oku : Ok u) (okv : Ok lv)
    (hlv : lv.length = m + 2) (hlu : u.length = m + 3) (hc : m + 3 ≤ c) (hcb : c ≤ 9223372036854775807) (hj : j ≤ 9223372036854775807 - (m + 3)) (hlt : val u < B * val lv) (htop : 0 < lv[m + 1]) (haj : a.length = j) (hn : n = m + 3) :
    Calls Tryd.prog 88 #[.slice (some ⟨g, j, none⟩) n c, vv] w (StepR w g a u b lv) := by
  subst haj; subst hn
  exact step_any vw w hs g c m a u b lv vv hgn hr hv oku okv hlv hlu hc hcb hj hlt htop
theorem split3 {α : Type} (u : List α) (j k : Nat) : u.take j ++ (u.drop j).take k ++ u.drop (j + k) = u := by
  rw [List.append_assoc, ← List.drop_drop, List.take_append_drop, List.take_append_drop]
set_option maxRecDepth 100000 in
set_option maxHeartbeats 3200000 in
theorem over_long (h : View) (w : World) (hs : Sub h w) (va vb : Value) (a b : Nat) (ha : IsNat h va a) (hb : IsNat h vb b) (hge : ¬ a < b) (h2 : 2 ≤ (limbs b).length) (hl : (limbs a).length ≤ 8796093022208) (hlb : (limbs b).length ≤ 8796093022208) :
    Calls Tryd.prog 65 #[va, vb] w (OverR w h a b) := by
  have CC := Aside.mk (compare_any h w hs va vb a b ha hb)
  obtain ⟨c, hc⟩ : ∃ c, c = cmpN a b := ⟨_, rfl⟩
  have hc0 : ¬ c < 0 := by rw [hc, cmpN_neg]; exact hge
  rw [← hc] at CC
  have X := Aside.mk (Ext.refl hs)
  have HA := Aside.mk ha
  have HB := Aside.mk hb
  have HBO := Aside.mk (ok_limbs b)
  obtain ⟨A1, c1, rfl, q1, q2, s1⟩ := ha
  obtain ⟨A2, c2, rfl, q3, q4, s2⟩ := hb
  obtain ⟨b2, o2, y, hy, rfl, e2, r2⟩ := limb_at s2 hs ((limbs b).length - 1) (by omega)
  obtain ⟨f1, f2, f3, f4, f5⟩ := scale_facts h2 hy
  have hyB : y < 1000000000 := by rw [hy]; exact (ok_limbs b).get _ _
  obtain ⟨sN, hsN⟩ : ∃ s, s = B / (y + 1) := ⟨_, rfl⟩
  rw [← hsN] at f1 f2 f3 f4
  have es : (1000000000 : Int) / ((y : Int) + 1) = (sN : Int) := by rw [hsN, Nt.B_eq, Int.natCast_ediv]; rfl
  have SM := Aside.mk (fun (n : Nat) => small_any h (w.drewN n) (hs.drewN n) sN (by rw [Nt.B_eq] at f2; omega))
  have TA := Aside.mk (fun (vw : View) (W : World) (v2 : Value) (hsW : Sub vw W) (hle : View.le h vw) (i2 : Sl vw (tN .u64) v2 [sN]) => times_any vw W hsW _ v2 (limbs a) [sN] (HA.out.mono hle) i2 (ok_limbs a) (by rw [← f4]; exact ok_limbs _) (by simp; omega))
  have TB := Aside.mk (fun (vw : View) (W : World) (v2 : Value) (hsW : Sub vw W) (hle : View.le h vw) (i2 : Sl vw (tN .u64) v2 [sN]) => times_any vw W hsW _ v2 (limbs b) [sN] (HB.out.mono hle) i2 (ok_limbs b) (by rw [← f4]; exact ok_limbs _) (by simp; omega))
  have ev : val [sN] = sN := by simp [val]
  rw [val_limbs, ev] at TA TB
  have FV := Aside.mk f3
  have F4 := Aside.mk f4
  have hy1 : ¬ (y : Int) + 1 = 0 := by omega
  have hla : (limbs (a * sN)).length ≤ (limbs a).length + 1 := by
    refine limbs_len.2 ?_
    rw [Nat.pow_succ]
    exact Nat.mul_lt_mul'' (limbs_len.1 (Nat.le_refl _)) f2
  have hla2 : (limbs a).length ≤ (limbs (a * sN)).length := by
    rcases Nat.lt_or_ge (limbs (a * sN)).length (limbs a).length with hh | hh
    · exfalso
      have := lt_of_len hh
      have := Nat.le_mul_of_pos_right a f1
      omega
    · exact hh
  have hlb2 : (limbs (b * sN)).length ≤ (limbs (a * sN)).length := by
    rcases Nat.lt_or_ge (limbs (a * sN)).length (limbs (b * sN)).length with hh | hh
    · exfalso
      have := lt_of_len hh
      have := Nat.mul_le_mul_right sN (show b ≤ a by omega)
      omega
    · exact hh
  have hA0 : a * sN ≠ 0 := by
    have : 0 < a := by omega
    have := Nat.mul_pos this f1; omega
  have DIV := Aside.mk (@scale_div a b sN f1)
  have BN := Aside.mk (@Long.begin (a * sN) (limbs (a * sN) ++ [0]) (limbs (b * sN)) ((limbs (a * sN)).length + 1 - (limbs (b * sN)).length) ((ok_limbs _).append (ok_cons B_pos (by intro x hx; cases hx))) (by rw [val_snoc, val_limbs]; simp) (by simp; omega) (by simp) (fun hh => limbs_last hh) (by omega))
  have VP : Aside (0 < val (limbs (b * sN))) := ⟨by rw [val_limbs]; exact Nat.mul_pos (by omega) f1⟩
  have TOP : Aside (∀ (k : Nat) (hk : k < (limbs (b * sN)).length), k + 1 = (limbs (b * sN)).length → 0 < (limbs (b * sN))[k]) := ⟨fun k hk e => by
    have e2 : k = (limbs (b * sN)).length - 1 := by omega
    have := @limbs_last (b * sN) (by omega)
    subst e2; omega⟩
  have F1 := Aside.mk f1
  have F2 := Aside.mk f2
  have OKA := Aside.mk (ok_limbs (a * sN))
  have OKV := Aside.mk (ok_limbs (b * sN))
  have VA := Aside.mk (val_limbs (a * sN))
  have VB := Aside.mk (val_limbs (b * sN))
  have LA0 := Aside.mk (limbs_ne hA0)
  have hlx : (((limbs b).length : Int) == 1) = false := by rw [beq_eq_false_iff_ne]; omega
  unfold QR at CC
  unfold NatR IsNat at SM TA TB
  rw [f4] at SM
  clear hc hge f1 f2 f3 f4 f5 hy hsN hA0 ev r2 s1 s2
  generalize hAA : limbs (a * sN) = LA at *
  generalize hBB : limbs (b * sN) = LB at *
  have HAA := Aside.mk hAA
  have HBB := Aside.mk hBB
  clear hAA hBB
  go_enter Tryd.func65, Tryd.ntmps65
  go_wp2_with (first
    | (go_at_call 85; refine CC.out.mono ?_; rintro e w' ⟨rfl, n, rfl⟩)
    | (go_at_call 24; refine (SM.out n).mono ?_; rintro e w1 ⟨h1, sv, rfl, x1, i1⟩))
  refine (TA.out h1 w1 sv x1.sub x1.le i1).mono ?_
  rintro e w2 ⟨h2v, uv, rfl, x2, i2⟩
  go_wp2_with fail
  refine (TB.out h2v w2 sv x2.sub (x1.le.trans x2.le) (i1.mono x2.le)).mono ?_
  rintro e w3 ⟨h3, vv, rfl, x3, i3⟩
  have xx := (((X.out.drewN n).trans x1).trans x2).trans x3
  have IU := i2.mono x3.le
  have IV := Aside.mk i3
  have IS := Aside.mk ((i1.mono x2.le).mono x3.le)
  obtain ⟨Au, cu, rfl, u1, u2, usl⟩ := IU
  obtain ⟨Av, cv, rfl, v1, v2, vsl⟩ := i3
  have hAu : ∃ ad, Au = some ad := by
    rcases usl with hh | ⟨bu, ou, _, hh, _⟩
    · exact absurd hh LA0.out
    · exact ⟨_, hh⟩
  obtain ⟨ad, rfl⟩ := hAu
  have XX := Aside.mk xx
  have hwl := xx.ge
  clear TA TB SM x1 x2 x3 i1 i2 CC xx
  have NE := LA0.out
  go_wp2_with (first
    | (at_builtin; (refine wpList_appN (T0 := tN .u64) (base := w.heap.size) (xs := []) (ys := LA) slL (by decide) rfl rfl (Own.empty XX.out.sub XX.out.ge) (XX.out.sub.alloc _) rfl rfl rfl usl NE (by simp; omega) (by simp; omega) (by simp; omega) ?_); intro v4 w4 ho4 hg4 hs4 hn4; rw [List.nil_append] at ho4; have hw4 : w.heap.size ≤ w4.heap.size := Nat.le_trans hwl (Nat.le_trans (Nat.le_succ _) (by have := hg4.size; rw [World.size_alloc] at this; exact this)))
    | (at_builtin; (refine wpList_app1 (t := tN .u64) slL (by decide) rfl rfl ho4 hs4 rfl 0 rfl rfl (by simpa using (tN_mk (h := h3) (u64_of B_pos))) (by omega) (by omega) hw4 ?_); intro v5 w5 ho5 hg5 hs5 hn5))
  have x4 : Ext w h w4 h3 := (XX.out.alloc _).grown hg4 fun g e => by
    have : w3.heap.size = g := by simpa [Value.ownBlock] using e
    subst this; exact ⟨hwl, XX.out.sub.none_ge (Nat.le_refl _)⟩
  have x5 : Ext w h w5 h3 := (x4.alloc _).grown hg5 fun g e => ⟨(ho4.lt g e).1, ho4.2 g e⟩
  have e0 : (LA ++ [0]).length = LA.length + 1 := by simp
  obtain ⟨g, cp, hv5, hbg, hgn, hcp, hcp2, hr⟩ := ho5.rowAt (by simp)
  rw [e0] at hv5 hcp
  subst hv5
  have GLT := hr.lt
  have GN := Aside.mk hgn
  have X5 := Aside.mk x5
  have R5 := Aside.mk hr
  have w5n : h3 w5.heap.size = none := x5.sub.none_ge (Nat.le_refl _)
  have W5N := Aside.mk w5n
  have W5G := Aside.mk x5.ge
  clear x4 x5 hg4 hg5 hs4 hs5 hn4 hn5 ho4 ho5 e0 hgn hr XX hw4 usl NE vsl LA0 hwl w5n es e2 hyB hy1 hlx u1 u2
  obtain ⟨nq, hnq⟩ : ∃ nq, LA.length + 1 = LB.length + nq := ⟨LA.length + 1 - LB.length, by omega⟩
  have hnq2 : LA.length + 1 - LB.length = nq := by omega
  rw [hnq2] at BN
  clear hnq2
  have hnq3 : nq ≤ 17592186044416 := by omega
  have HNQ := Aside.mk hnq
  clear hnq
  go_loopw [9] (fun s wr => s = .slice (some ⟨g, 0, none⟩) (LA.length + 1) cp ∧ wr = w5) (fun _ _ => 0)
  case atStart => exact ⟨rfl, rfl⟩
  case round =>
    obtain ⟨rfl, hwr⟩ := hrel
    subst hwr
    go_wp2_with (refine wpList_makeN (n := nq) (k := .u64) Tryd.underlying73 zL rfl rfl (show Value.int .i64 ((LA.length : Int) + 1 - (LB.length : Int)) = _ by rw [show (LA.length : Int) + 1 - (LB.length : Int) = (nq : Int) by have := HNQ.out; omega]) (show Value.int .i64 ((LA.length : Int) + 1 - (LB.length : Int)) = _ by rw [show (LA.length : Int) + 1 - (LB.length : Int) = (nq : Int) by have := HNQ.out; omega]) hnq3 ?_; intro hq0)
    have hx6 := X5.out.alloc (.cells (cellsN .u64 (List.replicate nq 0)) 75 (0, 0))
    have hr6 := R5.out.alloc (.cells (cellsN .u64 (List.replicate nq 0)) 75 (0, 0))
    obtain ⟨gq, hgq⟩ : ∃ gq, gq = wr.heap.size := ⟨_, rfl⟩
    rw [← hgq] at hq0 W5N W5G GLT ⊢
    have HX6 := Aside.mk hx6
    have HR6 := Aside.mk hr6
    have HQ0 := Aside.mk hq0
    clear hx6 hr6 hq0 hgq
    go_loopw [13] (fun i wr => ∃ (j : Nat) (i0 : Int) (u q : List Nat), j ≤ nq ∧ i = .int .i64 i0 ∧ Aside (i0 = (j : Int) - 1) ∧ Ext w h wr h3 ∧ RowAt wr g 75 .u64 u ∧ RowAt wr gq 75 .u64 q ∧ Aside (Long (a * sN) u q LB j ∧ u.length = LA.length + 1 ∧ q.length = nq)) (fun i _ => (intOf i + 1).toNat)
    case atStart => exact ⟨nq, _, _, _, Nat.le_refl _, rfl, ⟨by have := HNQ.out; omega⟩, HX6.out, HR6.out, HQ0.out, ⟨BN.out, by simp, by simp⟩⟩
    case round =>
      clear HX6 HR6 HQ0
      obtain ⟨j, i0, u, q, hj, rfl, hi, hx, hr, hq, HL⟩ := hrel
      rcases j with _ | j
      · have : i0 = -1 := by have := hi.out; omega
        subst this
        clear hi
        obtain ⟨hLo, hul, hql⟩ := HL.out
        obtain ⟨d1, d2⟩ := hLo.done VP.out
        rw [VB.out] at d1 d2
        rw [DIV.out.1] at d1
        rw [DIV.out.2] at d2
        obtain ⟨h4, x8, l8, s8, o8⟩ := hr.publish hx hbg GN.out (by omega) (u64_of_ok hLo.oku)
        have S8 := s8 cp (by omega) (by omega)
        rw [hul] at S8
        have G8 := Aside.mk ((o8 gq (by omega)).trans W5N.out)
        have TU := Aside.mk (trim_any h4 wr.drew x8.drew.sub _ u S8)
        unfold TrimR at TU
        rw [show trimL u = limbs (a % b * sN) by rw [trimL_val hLo.oku, d2]] at TU
        have lenu : (limbs (a % b * sN)).length ≤ 17592186044416 := by
          have := len_le_of_val hLo.oku d2
          omega
        have SH := Aside.mk (fun (v : Value) (hv : Sl h4 (tN .u64) v (limbs (a % b * sN))) => short_any h4 wr.drew x8.drew.sub v _ sN hv (ok_limbs _) F1.out (Nat.le_of_lt F2.out) lenu)
        rw [val_limbs, Nat.mul_div_cancel _ F1.out] at SH
        have X8 := Aside.mk x8.drew
        have QV := Aside.mk (show trimL q = limbs (a / b) by rw [trimL_val hLo.okq, d1])
        have QO := Aside.mk hLo.okq
        have QL := Aside.mk hql
        have QR2 := Aside.mk hq.drew
        obtain ⟨As, cs, rfl, z1, z2, ssl⟩ := IS.out
        obtain ⟨bs, os, y, hy, rfl, e9, _⟩ := limb_at ssl hx.sub 0 (by simp)
        have hys : y = sN := hy
        subst hys
        simp only [List.length_cons, List.length_nil, Nat.zero_add, Nat.add_zero] at z1 e9 ⊢
        unfold ShortR at SH
        clear hLo hul hql d1 d2 l8 s8 o8 S8 lenu hx hr hq HL ssl hy x8
        go_wp2
        refine wp_region_mix (fun W => W.cell? ⟨bs, os, none⟩ = some (.int .u64 (y : Int))) [1, 5] 11 (by kernel_rfl) (by kernel_rfl) (by decide) e9 ?_
        show wpMix _ _ _ _ _ [0, 1, 2, 3, 4, 5, 6, 7, 8, 9, 10] _ _
        refine mix_e rfl rfl rfl ?_
        apply Exists.intro
        constructor
        · rintro W q0
          go_simp
          rfl
        simp only [Act.put, List.setIfInBounds_toArray, List.set_cons_zero, List.set_cons_succ]
        refine mix_w rfl rfl rfl ?_
        go_wp2_with fail
        refine TU.out.mono ?_
        rintro e w6 ⟨r1, rfl, rfl, s9⟩
        go_wp2
        refine ⟨rfl, e9, ?_⟩
        iterate 3
          refine mix_e rfl rfl rfl ?_
          apply Exists.intro
          constructor
          · rintro W q0
            go_simp
            rfl
          simp only [Act.put, List.setIfInBounds_toArray, List.set_cons_zero, List.set_cons_succ]
        refine mix_w rfl rfl rfl ?_
        go_wp2_with fail
        refine (SH.out r1 s9).mono ?_
        rintro e w7 ⟨h5, v7, rfl, x7, i7⟩
        go_wp2
        refine ⟨rfl, ?_, ?_⟩
        · exact x7.below.cell (p := ⟨bs, os, none⟩) (World.block_lt_of_cell? _ _ e9) |>.trans e9
        iterate 5
          refine mix_e rfl rfl rfl ?_
          apply Exists.intro
          constructor
          · rintro W q0
            go_simp
            rfl
          simp only [Act.put, List.setIfInBounds_toArray, List.set_cons_zero, List.set_cons_succ]
        refine mix_nil (wpList_nil (onlyN ?_))
        have hq7 := QR2.out.below x7.below
        have x9 := X8.out.trans x7
        have hgq7 : h5 gq = none := (x7.old gq QR2.out.lt).trans G8.out
        obtain ⟨h6, x10, l10, s10, o10⟩ := hq7.publish x9 W5G.out hgq7 (by rw [QL.out]; omega) (u64_of_ok QO.out)
        have S10 := s10 nq (by rw [QL.out]; exact Nat.le_refl _) (by omega)
        rw [QL.out] at S10
        have TQ := Aside.mk (trim_any h6 w7 x10.sub _ q S10)
        unfold TrimR at TQ
        rw [QV.out] at TQ
        have X10 := Aside.mk x10
        have I7 := Aside.mk (IsNat.mono i7 l10)
        clear hq7 x9 hgq7 x10 l10 s10 o10 S10 i7 x7 e9
        go_wp2_with fail
        refine TQ.out.mono ?_
        rintro e w8 ⟨r8, rfl, rfl, s8⟩
        go_wp2
        go_ret2
        exact OverR.of X10.out s8 I7.out
      · have : i0 = (j : Int) := by have := hi.out; omega
        subst this
        clear hi
        obtain ⟨hLo, hul, hql⟩ := HL.out
        have hjb : j + LB.length < LA.length + 1 := by have := HNQ.out; omega
        have hju : j + LB.length < u.length := by omega
        have hjq : j < q.length := by omega
        obtain ⟨m, hm⟩ : ∃ m, LB.length = m + 2 := ⟨LB.length - 2, by have := FV.out; omega⟩
        obtain ⟨l1, l2⟩ := hLo.part OKV.out hju
        have hmid : ((u.drop j).take (LB.length + 1)).length = m + 3 := by rw [List.length_take, List.length_drop]; omega
        have ST := Aside.mk (step_at h3 wr hx.sub g (cp - j) m j (j + LB.length + 1 - j) (u.take j) ((u.drop j).take (LB.length + 1)) (u.drop (j + (LB.length + 1))) LB _ GN.out (by rw [split3]; exact hr) IV.out ((hLo.oku.drop j).take _) OKV.out hm hmid (by omega) (by omega) (by omega) (by rw [l1]; exact l2) (TOP.out (m + 1) (by omega) (by omega)) (by rw [List.length_take]; omega) (by omega))
        have RD := Aside.mk (fun (u' : List Nat) => Long.round (u' := u') OKV.out VP.out hLo hju hjq)
        have HM := Aside.mk hm
        have HMID := Aside.mk hmid
        have HUL := Aside.mk hul
        have HQL := Aside.mk hql
        obtain ⟨qd, hqd⟩ : ∃ qd, qd = val ((u.drop j).take (LB.length + 1)) / val LB := ⟨_, rfl⟩
        unfold StepR at ST
        rw [← hqd] at ST
        have HQD := Aside.mk hqd
        clear hqd
        have hne : gq ≠ g := by omega
        have hne2 : g ≠ gq := by omega
        have hjn : j < nq := hj
        clear hLo hul hql l1 l2 hm hmid hju HL
        go_wp2_with fail
        refine ST.out.mono ?_
        rintro e w5 ⟨u', rfl, t5, r5, ok5, len5, val5⟩
        have hq5 := hq.grown t5.by_ (by simpa using hne2)
        have hqf := hq5.frozen j
        have hqc := hq5.cell hjq
        have hql5 := hq5.lt
        have RD2 := Aside.mk (RD.out u' ok5 (by rw [len5]; have := HMID.out; have := HM.out; omega) val5)
        have x7 := Aside.mk (((t5.ext hx hbg GN.out).setCell W5G.out W5N.out (.int .u64 (qd : Int)) : Ext w h (w5.setCell ⟨gq, j, none⟩ (.int .u64 (qd : Int))) h3))
        have r7 := Aside.mk (r5.far (p := ⟨gq, j, none⟩) hne2 (.int .u64 (qd : Int)))
        have q7 := Aside.mk (hq5.set j qd hjq)
        rw [← HQD.out] at RD2
        clear ok5 len5 val5 t5 r5 hq5 hx hr hq ST RD
        go_wp2
        go_roundw
        case rel => exact ⟨j, _, _, _, by omega, rfl, ⟨rfl⟩, x7.out, r7.out, q7.out, ⟨RD2.out.1, by rw [RD2.out.2]; exact HUL.out, by rw [List.length_set]; exact HQL.out⟩⟩
        case measure => simp [intOf] <;> omega
end Go.Proofs.YtaakpcmflladaaaDoor
