/- code.Kappa. -/
import Derived.Test.YtaakpcmflladaaaDoorKapR
set_option linter.all false
namespace Go.Proofs.YtaakpcmflladaaaDoor
open Go.RowKit Hv Go.Proofs
def KapR (w : World) (h : View) (R : (List UInt8 × List UInt8) × Int) (e : Ending) (w' : World) : Prop := e = .returned (ratV R) ∧ ∃ h', Ext w h w' h'
theorem KapR.of {w w' : World} {h h' : View} {R : (List UInt8 × List UInt8) × Int} {a b : List UInt8} {f : Int} (hR : R = ((a, b), f)) (x : Ext w h w' h') : KapR w h R (.returned (.tuple #[.agg #[.string ⟨a.toArray⟩, .string ⟨b.toArray⟩], .int .i64 f])) w' := ⟨by rw [hR]; rfl, h', x⟩
set_option maxRecDepth 100000 in
set_option maxHeartbeats 3200000 in
theorem kappa_any (h : View) (w : World) (hs : Sub h w) (ht : TabP w) (vl vc : Value) (l : List Node) (cs : List Cod) (hl : Sl h tNode vl l) (hc : Sl h tCod vc cs) (a b : Int) :
    Calls Tryd.prog 5 #[vl, vc, .int .i64 a, .int .i64 b] w (KapR w h (kapF (bothF l cs a b) (pairsOf a b (grp cs cs.length)) ratOf)) := by
  have hx0 := (Ext.refl hs).alloc (.cells #[.string ⟨#[]⟩, .string ⟨#[]⟩] 25 (0, 0))
  have hb0 := BoxAt.new w #[.string ⟨#[]⟩, .string ⟨#[]⟩] 25
  have CB := Aside.mk (both_any h _ hx0.sub vl vc l cs hl hc a b)
  have HLEN := Aside.mk (@bothF_len l cs a b)
  obtain ⟨bf, hbf⟩ : ∃ bf, bf = bothF l cs a b := ⟨_, rfl⟩
  obtain ⟨gs, hgs⟩ : ∃ gs, gs = grp cs cs.length := ⟨_, rfl⟩
  have HG := Aside.mk hgs
  have HGL : Aside (gs.length ≤ cs.length) := ⟨by rw [hgs]; exact grp_len cs _⟩
  rw [← hbf] at CB HLEN ⊢
  rw [← hgs]
  obtain ⟨P, hP⟩ : ∃ P, P = pairsOf a b gs := ⟨_, rfl⟩
  have HPL : Aside (P.length ≤ gs.length) := ⟨by rw [hP]; exact pairsOf_len _ _ _⟩
  have HPE := Aside.mk hP
  rw [← hP]
  have HC := Aside.mk hc
  have HS := Aside.mk hs
  obtain ⟨R, hR⟩ : ∃ R, R = kapF bf P ratOf := ⟨_, rfl⟩
  have HR := Aside.mk hR
  rw [← hR]
  have HT := Aside.mk ht
  clear hbf hgs hP hl hc hR ht
  have hmm := @run_makeMap Tryd.prog
  go_enter Tryd.func5, Tryd.ntmps5
  go_wp2_with fail
  refine CB.out.mono ?_
  rintro e w1 ⟨h1, rfl, x1⟩
  have hx1 := hx0.trans x1
  have hb1 := hb0.below x1.below
  have c0 := hb1.cell 0
  have c1 := hb1.cell 1
  have f0 := hb1.frozen 0
  have f1 := hb1.frozen 1
  simp only [List.getElem?_toArray, List.getElem?_cons_zero, List.getElem?_cons_succ] at c0 c1
  have hlt1 := hb1.lt
  by_cases h0 : bf = 0
  rotate_left
  · have HR1 : Aside (R = (([], []), bf)) := ⟨by rw [HR.out]; unfold kapF; rw [if_pos h0]⟩
    have hbne : (bf != 0) = true := by rw [bne_iff_ne]; exact h0
    have X := Aside.mk ((hx1.setCell (p := ⟨w.heap.size, 0, none⟩) (Nat.le_refl _) ((x1.old _ (by simp)).trans (hs.none_ge (Nat.le_refl _))) (.string ⟨#[]⟩)).setCell (p := ⟨w.heap.size, 1, none⟩) (Nat.le_refl _) ((x1.old _ (by simp)).trans (hs.none_ge (Nat.le_refl _))) (.string ⟨#[]⟩))
    clear h0 hx1 hb1 hx0 hb0 x1
    go_wp2
    refine bodyPost_ret (v := .tuple #[.agg #[.string ⟨#[]⟩, .string ⟨#[]⟩], .int .i64 bf]) (by simp [results, Tryd.results5, go_sem, c0, c1]) rfl ?_
    exact KapR.of HR1.out X.out
  have hbne : (bf != 0) = false := by rw [h0]; rfl
  have HCL := Aside.mk (HLEN.out h0)
  have x2 := (hx1.alloc (.map #[] 0)).alloc (.map #[] 0)
  have ma1 : MapIs Ki ((w1.alloc (.map #[] 0)).alloc (.map #[] 0)) w1.heap.size [] := (MapIs.new Ki w1).alloc _
  have mb1 : MapIs Ki ((w1.alloc (.map #[] 0)).alloc (.map #[] 0)) (w1.heap.size + 1) [] := by
    have := MapIs.new Ki (w1.alloc (.map #[] 0)); rwa [World.size_alloc] at this
  have CC := Aside.mk (common_any h1 _ (x2.sub) vc cs (HC.out.mono x1.le) HCL.out a b gs HG.out (Nat.le_trans HGL.out HCL.out))
  rw [← HPE.out] at CC
  have hb2 := (hb1.alloc (.map #[] 0)).alloc (.map #[] 0)
  have n1 : h1 w1.heap.size = none := hx1.sub.none_ge (Nat.le_refl _)
  have n2 : h1 (w1.heap.size + 1) = none := hx1.sub.none_ge (Nat.le_succ _)
  have n0 : h1 w.heap.size = none := (x1.old _ (by simp)).trans (hs.none_ge (Nat.le_refl _))
  have HN0 := Aside.mk n0
  have HN1 := Aside.mk n1
  have HN2 := Aside.mk n2
  have HX2 := Aside.mk x2
  have HB2 := Aside.mk hb2
  have MA1 := Aside.mk ma1
  have MB1 := Aside.mk mb1
  clear h0 hx1 hb1 hx0 hb0 x1 x2 ma1 mb1 hb2 n0 n1 n2 c0 c1 f0 f1
  go_wp2_with fail
  refine CC.out.mono ?_
  rintro e w3 ⟨h3, bm, m, rfl, x3, hmi, hcm⟩
  have hm3 := hmi.is x3.sub
  have hge1 := HX2.out.ge
  obtain ⟨it, hrun, hri⟩ := RangeIs.start (e := 3) hm3
  have hrun := hrun 40 Tryd.underlying40
  have hx3 := (HX2.out.trans x3).alloc it
  have hb3 := (HB2.out.below x3.below).alloc it
  have ma3 := (MA1.out.below x3.below).alloc it
  have mb3 := (MB1.out.below x3.below).alloc it
  have HN1 : Aside (h3 w1.heap.size = none) := ⟨(x3.old _ (by simp only [World.size_alloc]; omega)).trans HN1.out⟩
  have HN2 : Aside (h3 (w1.heap.size + 1) = none) := ⟨(x3.old _ (by simp only [World.size_alloc]; omega)).trans HN2.out⟩
  have HN0 : Aside (h3 w.heap.size = none) := ⟨(x3.old _ (by simp only [World.size_alloc]; omega)).trans HN0.out⟩
  have HNR : Aside (h3 w3.heap.size = none) := ⟨x3.sub.none_ge (Nat.le_refl _)⟩
  have hne1 : bm ≠ w1.heap.size := fun e => by
    obtain ⟨es, clock, hh, _⟩ := hmi
    rw [e, HN1.out] at hh; cases hh
  have hne2 : bm ≠ w1.heap.size + 1 := fun e => by
    obtain ⟨es, clock, hh, _⟩ := hmi
    rw [e, HN2.out] at hh; cases hh
  have hr1 : w1.heap.size + 1 < w3.heap.size := by have := x3.ge; simp at this; omega
  have HCM := Aside.mk hcm
  have HML : Aside (m.length ≤ 20000) := ⟨Nat.le_trans (counts_len hcm hm3.nodup) (Nat.le_trans HPL.out (Nat.le_trans HGL.out HCL.out))⟩
  have HPL2 : P.length ≤ 20000 := Nat.le_trans HPL.out (Nat.le_trans HGL.out HCL.out)
  have HOK := Aside.mk hm3.oks
  have HMN := Aside.mk hm3.nodup
  have HBM : Aside (bm ≠ w1.heap.size ∧ bm ≠ w1.heap.size + 1 ∧ w1.heap.size + 1 < w3.heap.size ∧ w.heap.size < w1.heap.size ∧ bm < w3.heap.size) := ⟨⟨hne1, hne2, hr1, hlt1, hm3.lt⟩⟩
  have HT3 : Aside (∀ W, Below w.heap.size w W → TabP W) := ⟨fun W hW => HT.out.below hW⟩
  clear hcm hne1 hne2 hr1 hm3 hmi x3 hmm hge1 HX2 HB2 MA1 MB1
  go_wp2
  go_loopw [13, 14] (fun vn vs wr => ∃ (done : List ((Int × Int) × Value)) (F G : List (Int × Value)) (n s : Nat), vn = .int .i64 (n : Int) ∧ vs = .int .i64 (s : Int) ∧ Ext w h wr h3 ∧ RangeIs Kp wr bm w3.heap.size m done ∧ MapIs Ki wr w1.heap.size F ∧ MapIs Ki wr (w1.heap.size + 1) G ∧ BoxAt wr w.heap.size 25 #[.string ⟨#[]⟩, .string ⟨#[]⟩] ∧
    Aside (n = cntK P (done.map (·.1)) (fun _ => true)) ∧ Aside (s = cntK P (done.map (·.1)) (fun p => decide (p.1 = p.2))) ∧ Aside (SumM F P (done.map (·.1)) Prod.fst) ∧ Aside (SumM G P (done.map (·.1)) Prod.snd)) (fun _ _ wr => m.length - visN wr w3.heap.size)
  case atStart => exact ⟨[], [], [], 0, 0, rfl, rfl, hx3, hri, ma3, mb3, hb3, ⟨rfl⟩, ⟨rfl⟩, ⟨SumM.nil _ _⟩, ⟨SumM.nil _ _⟩⟩
  case round =>
    clear hx3 hri ma3 mb3 hb3 hrun
    obtain ⟨done, F, G, n, s, rfl, rfl, hx, hr, ma, mb, hb, HNN, HSS, HF, HGG⟩ := hrel
    rcases hr.next 0 with ⟨hperm, hnx⟩ | ⟨p, w', hp, hq, hnx0, hr', hg, hsz, hent0⟩
    · have hnd := hr.nodup
      have hall : ∀ x ∈ P, x ∈ done.map (·.1) := fun x hx => by
        obtain ⟨v, hv⟩ := HCM.out.has x hx
        exact List.mem_map.2 ⟨(x, v), hperm.symm.subset hv, rfl⟩
      have hcnt : ∀ q, cntK P (done.map (·.1)) q = P.countP q := fun q => cntK_all hnd hall q
      have hkl : (done.map (·.1)).length ≤ 20000 := by rw [List.length_map]; exact Nat.le_trans hr.le HML.out
      have hn : n = P.length := by rw [HNN.out, hcnt]; simp
      have hs1 : s = Pl.sameP P := by rw [HSS.out, hcnt]; rfl
      have hsn : s ≤ n := by rw [hs1, hn]; exact Pl.sameP_le _
      have hBM := HBM.out
      have c0 := hb.cell 0
      have c1 := hb.cell 1
      have f0 := hb.frozen 0
      have f1 := hb.frozen 1
      simp only [List.getElem?_toArray, List.getElem?_cons_zero, List.getElem?_cons_succ] at c0 c1
      have HRn : Aside (R = if n = 0 then (([], []), 9) else if Pl.chanceP P = n * n then ((ratOf 1 1).1, 0) else ratOf ((s : Int) * (n : Int) - (Pl.chanceP P : Int)) ((n : Int) * (n : Int) - (Pl.chanceP P : Int))) := ⟨by
        rw [HR.out, hs1, hn]; unfold kapF
        have : bf = 0 := by simpa using hbne
        rw [this, if_neg (by decide)]⟩
      by_cases hn0 : n = 0
      · have HR2 : Aside (R = (([], []), 9)) := ⟨by rw [HRn.out, if_pos hn0]⟩
        have hnb : ((n : Int) == 0) = true := by rw [hn0]; rfl
        have X := Aside.mk ((hx.setCell (p := ⟨w.heap.size, 0, none⟩) (Nat.le_refl _) HN0.out (.string ⟨#[]⟩)).setCell (p := ⟨w.heap.size, 1, none⟩) (Nat.le_refl _) HN0.out (.string ⟨#[]⟩))
        clear hn hs1 hsn hn0 hx hr ma mb hb hperm hnd hall hcnt hkl HNN HSS HF HGG
        go_wp2
        refine bodyPost_ret (v := .tuple #[.agg #[.string ⟨#[]⟩, .string ⟨#[]⟩], .int .i64 9]) (by simp [results, Tryd.results5, go_sem, c0, c1]) rfl ?_
        exact KapR.of HR2.out X.out
      have hnb : ((n : Int) == 0) = false := by rw [beq_eq_false_iff_ne]; omega
      have hn2 : n ≤ 20000 := by omega
      have HRn := Aside.mk (HRn.out.trans (if_neg hn0))
      have HFV : Aside (∀ c v, (c, v) ∈ F → v = .int .i64 ((P.countP fun p => decide (p.1 = c) : Nat) : Int)) := ⟨fun c v h => by
        have := (HF.out.val ma.nodup h).1
        rw [hcnt] at this; exact this⟩
      have HFL : Aside (F.length ≤ 20000) := ⟨by
        have := List.Nodup.length_le_of_subset ma.nodup (l₂ := (done.map (·.1)).map Prod.fst) fun x hx => by
          obtain ⟨p, hp, rfl⟩ := List.mem_map.1 hx
          obtain ⟨q, hq, e⟩ := (HF.out.val (c := p.1) (v := p.2) ma.nodup hp).2
          exact List.mem_map.2 ⟨q, hq, e⟩
        rw [List.length_map, List.length_map] at this
        exact Nat.le_trans this hkl⟩
      have HGV : Aside (∀ c, (lk G c).getD (.int .i64 0) = .int .i64 ((P.countP fun p => decide (p.2 = c) : Nat) : Int)) := ⟨fun c => by rw [HGG.out.look c, hcnt]⟩
      have HCH : Aside (∀ kc : List Int, kc.Nodup → (∀ c v, (c, v) ∈ F → c ∈ kc) → (kc.map fun c => (P.countP fun p => decide (p.1 = c)) * (P.countP fun p => decide (p.2 = c))).sum = Pl.chanceP P) := ⟨fun kc h1 h2 => chance_all HF.out hnd hall h1 h2⟩
      have HFO := Aside.mk ma.oks
      obtain ⟨it2, hrun, hri⟩ := RangeIs.start (e := 3) ma
      have hrun2 := hrun 39 Tryd.underlying39
      have hwr : w3.heap.size < wr.heap.size := hr.lt
      have HNR2 : Aside (h3 wr.heap.size = none) := ⟨hx.sub.none_ge (Nat.le_refl _)⟩
      have hx := hx.alloc it2
      have mb := mb.alloc it2
      have hb := hb.alloc it2
      clear hn hs1 hn0 hr ma hperm hnd hall hcnt hkl HNN HSS HF HGG hrun c0 c1 f0 f1
      go_wp2
      rename World => w4
      go_loopw [17] (fun vc wr => ∃ (d2 : List (Int × Value)) (c : Nat), vc = .int .i64 (c : Int) ∧ Ext w h wr h3 ∧ RangeIs Ki wr w1.heap.size w4.heap.size F d2 ∧ MapIs Ki wr (w1.heap.size + 1) G ∧ BoxAt wr w.heap.size 25 #[.string ⟨#[]⟩, .string ⟨#[]⟩] ∧
        Aside (c = ((d2.map (·.1)).map fun c => (P.countP fun p => decide (p.1 = c)) * (P.countP fun p => decide (p.2 = c))).sum)) (fun _ wr => F.length - visN wr w4.heap.size)
      case atStart => exact ⟨[], 0, rfl, hx, hri, mb, hb, ⟨rfl⟩⟩
      case round =>
        clear hx hri mb hb hrun2 hnx
        obtain ⟨d2, c, rfl, hx, hr, mb, hb, HC2⟩ := hrel
        have hbA : ∀ c : Int, (P.countP fun p => decide (p.1 = c)) * (P.countP fun p => decide (p.2 = c)) ≤ 400000000 := fun c => Nat.mul_le_mul (Nat.le_trans List.countP_le_length HPL2) (Nat.le_trans List.countP_le_length HPL2)
        have hcb : c ≤ 20000 * 400000000 := by
          rw [HC2.out]
          refine Nat.le_trans (Pl.sum_le _ 400000000 _ fun c _ => hbA c) (Nat.mul_le_mul_right _ ?_)
          rw [List.length_map]; exact Nat.le_trans hr.le HFL.out
        rcases hr.next 0 with ⟨hperm, hnx⟩ | ⟨p, w', hp, hq, hnx0, hr', hg, hsz, hent0⟩
        · have hcc : c = Pl.chanceP P := by
            rw [HC2.out]
            exact HCH.out _ hr.nodup fun c v h => List.mem_map.2 ⟨(c, v), hperm.symm.subset h, rfl⟩
          obtain ⟨nn, hnn⟩ : ∃ nn, nn = n * n := ⟨_, rfl⟩
          obtain ⟨sm, hsm⟩ : ∃ sm, sm = s * n := ⟨_, rfl⟩
          have e1 : (n : Int) * (n : Int) = (nn : Int) := by rw [hnn]; simp
          have e2 : (s : Int) * (n : Int) = (sm : Int) := by rw [hsm]; simp
          have b1 : nn ≤ 400000000 := by rw [hnn]; exact Nat.mul_le_mul hn2 hn2
          have b2 : sm ≤ 400000000 := by rw [hsm]; exact Nat.mul_le_mul (Nat.le_trans hsn hn2) hn2
          have w1' : IntKind.i64.wrap (nn : Int) = (nn : Int) := IntWalk.i64_in _ (by omega)
          have w2' : IntKind.i64.wrap (sm : Int) = (sm : Int) := IntWalk.i64_in _ (by omega)
          have HRc : Aside (R = if c = nn then ((ratOf 1 1).1, 0) else ratOf ((sm : Int) - (c : Int)) ((nn : Int) - (c : Int))) := ⟨by
            rw [HRn.out, ← hcc, ← hnn, e1, e2]⟩
          have hcl := hb.lt
          have hTab := HT3.out _ hx.below
          by_cases hcn : c = nn
          · have CF := Aside.mk (fraction_any h3 _ hx.sub hTab 1 1 (by constructor <;> decide) (by constructor <;> decide))
            have HR2 := Aside.mk (HRc.out.trans (if_pos hcn))
            have ecn : ((c : Int) == (nn : Int)) = true := by rw [hcn]; simp
            obtain ⟨R1, hR1⟩ : ∃ R1, R1 = ratOf 1 1 := ⟨_, rfl⟩
            unfold FracR at CF
            rw [← hR1] at CF HR2
            obtain ⟨⟨a1, a2⟩, a3⟩ := R1
            have HX7 := Aside.mk hx
            have HB7 := Aside.mk hb
            clear hcc hnn hsm hcn hR1 hx hr mb hb hTab hperm HRc hbA hcb HC2
            go_wp2_with fail
            refine CF.out.mono ?_
            rintro e w7 ⟨rfl, hb7⟩
            have bb := HB7.out.below hb7
            have c0 := bb.cell 0
            have c1 := bb.cell 1
            have f0 := bb.frozen 0
            have f1 := bb.frozen 1
            simp only [List.getElem?_toArray, List.getElem?_cons_zero, List.getElem?_cons_succ] at c0 c1
            have hcl7 := bb.lt
            have X := Aside.mk (((HX7.out.below' hb7).setCell (p := ⟨w.heap.size, 0, none⟩) (Nat.le_refl _) HN0.out (.string ⟨a1.toArray⟩)).setCell (p := ⟨w.heap.size, 1, none⟩) (Nat.le_refl _) HN0.out (.string ⟨a2.toArray⟩))
            clear bb hb7
            go_wp2
            refine bodyPost_ret (v := .tuple #[.agg #[.string ⟨a1.toArray⟩, .string ⟨a2.toArray⟩], .int .i64 0]) (by simp [results, Tryd.results5, go_sem, c0, c1]) rfl ?_
            exact KapR.of HR2.out X.out
          · have HR2 := Aside.mk (HRc.out.trans (if_neg hcn))
            have ecn : ((c : Int) == (nn : Int)) = false := by rw [beq_eq_false_iff_ne]; omega
            obtain ⟨D1, hD1⟩ : ∃ D1, D1 = (sm : Int) - (c : Int) := ⟨_, rfl⟩
            obtain ⟨D2, hD2⟩ : ∃ D2, D2 = (nn : Int) - (c : Int) := ⟨_, rfl⟩
            have w3' : IntKind.i64.wrap ((sm : Int) - (c : Int)) = D1 := by rw [hD1]; exact IntWalk.i64_in _ (by omega)
            have w4' : IntKind.i64.wrap ((nn : Int) - (c : Int)) = D2 := by rw [hD2]; exact IntWalk.i64_in _ (by omega)
            have CF := Aside.mk (ratioOf_any h3 _ hx.sub hTab D1 D2 (by constructor <;> omega) (by constructor <;> omega))
            unfold RatR ratV bS at CF
            obtain ⟨R1, hR1⟩ : ∃ R1, R1 = ratOf D1 D2 := ⟨_, rfl⟩
            rw [← hD1, ← hD2, ← hR1] at HR2
            rw [← hR1] at CF
            obtain ⟨⟨a1, a2⟩, a3⟩ := R1
            have HX7 := Aside.mk hx
            have HB7 := Aside.mk hb
            clear hcc hnn hsm hcn hR1 hx hr mb hb hTab hperm HRc hbA hcb HC2 hD1 hD2
            go_wp2_with fail
            refine CF.out.mono ?_
            rintro e w7 ⟨rfl, hb7⟩
            have bb := HB7.out.below hb7
            have c0 := bb.cell 0
            have c1 := bb.cell 1
            have f0 := bb.frozen 0
            have f1 := bb.frozen 1
            simp only [List.getElem?_toArray, List.getElem?_cons_zero, List.getElem?_cons_succ] at c0 c1
            have hcl7 := bb.lt
            have X := Aside.mk (((HX7.out.below' hb7).setCell (p := ⟨w.heap.size, 0, none⟩) (Nat.le_refl _) HN0.out (.string ⟨a1.toArray⟩)).setCell (p := ⟨w.heap.size, 1, none⟩) (Nat.le_refl _) HN0.out (.string ⟨a2.toArray⟩))
            clear bb hb7
            go_wp2
            refine bodyPost_ret (v := .tuple #[.agg #[.string ⟨a1.toArray⟩, .string ⟨a2.toArray⟩], .int .i64 a3]) (by simp [results, Tryd.results5, go_sem, c0, c1]) rfl ?_
            exact KapR.of HR2.out X.out
        · obtain ⟨k0, v0⟩ := p
          obtain ⟨ka, hka⟩ : ∃ ka, ka = P.countP fun p => decide (p.1 = k0) := ⟨_, rfl⟩
          obtain ⟨kb, hkb⟩ : ∃ kb, kb = P.countP fun p => decide (p.2 = k0) := ⟨_, rfl⟩
          obtain ⟨kk, hkk⟩ : ∃ kk, kk = ka * kb := ⟨_, rfl⟩
          have hv0 := HFV.out k0 v0 hp
          rw [← hka] at hv0
          subst hv0
          have rk0 : inRange .i64 k0 := HFO.out _ hp
          have hkk1 : (ka : Int) * (kb : Int) = (kk : Int) := by rw [hkk]; simp
          have hkk2 : kk ≤ 400000000 := by rw [hkk, hka, hkb]; exact hbA k0
          have hnx : (Instr.next (.pointer (some ⟨w4.heap.size, 0, none⟩)) false 0).run Tryd.prog wr = .ok (.tuple #[.bool true, .int .i64 k0, .int .i64 (ka : Int)]) w' := hnx0
          have hent : (Instr.entry (.pointer (some ⟨w4.heap.size, 0, none⟩))).run Tryd.prog w' = .ok (.tuple #[.int .i64 k0, .int .i64 (ka : Int)]) w' := hent0
          have hv1 := hr.vis
          have hx := hx.grown hg fun k e => by injection e with e; subst e; exact ⟨by omega, HNR2.out⟩
          have mb := mb.grown hg (by simp; omega)
          have hb := hb.grown hg (by simp; omega)
          have hv6 := hr'.vis
          have hle6 := hr'.le
          rw [List.length_append] at hv6 hle6
          have HVV : Aside (visN wr w4.heap.size = d2.length ∧ visN w' w4.heap.size = d2.length + 1 ∧ d2.length + 1 ≤ F.length) := ⟨⟨hv1, hv6, hle6⟩⟩
          have L1 : (Instr.lookup 39 (.map (some (w1.heap.size + 1))) (.int .i64 k0) false).run Tryd.prog w' = .ok (.int .i64 (kb : Int)) w' := by
            have := run_look mb Tryd.underlying39 (zeroInt _) (x := k0) rk0 false
            rw [HGV.out k0, ← hkb] at this; exact this
          have ew1 : IntKind.i64.wrap (kk : Int) = (kk : Int) := IntWalk.i64_in _ (by omega)
          have ew2 : IntKind.i64.wrap ((c : Int) + (kk : Int)) = (c : Int) + (kk : Int) := IntWalk.i64_in _ (by omega)
          have HC6 : Aside (c + kk = (((d2 ++ [(k0, Value.int .i64 (ka : Int))]).map (·.1)).map fun c => (P.countP fun p => decide (p.1 = c)) * (P.countP fun p => decide (p.2 = c))).sum) := ⟨by
            rw [List.map_append, List.map_append, List.sum_append, ← HC2.out, hkk, hka, hkb]; simp⟩
          have X6 := Aside.mk hx
          have R6 := Aside.mk hr'
          have B6 := Aside.mk mb
          have BB6 := Aside.mk hb
          clear hnx0 hent0 hx hr hr' mb hb hka hkb hkk hg hsz hq hp hv1 hv6 hle6 hbA HC2
          go_wp2
          go_roundw
          case rel => exact ⟨_, c + kk, by simp, X6.out, R6.out, B6.out, BB6.out, HC6⟩
          case measure => have := HVV.out; omega
    · obtain ⟨⟨pa, pb⟩, pv⟩ := p
      obtain ⟨cN, hcN⟩ : ∃ cN, cN = P.count (pa, pb) := ⟨_, rfl⟩
      have hpv := (HCM.out.val (pa, pb) pv hp).1
      rw [← hcN] at hpv
      subst hpv
      obtain ⟨rpa, rpb⟩ : inRange .i64 pa ∧ inRange .i64 pb := HOK.out _ hp
      have hcle : cN ≤ 20000 := by rw [hcN]; exact Nat.le_trans List.count_le_length HPL2
      have hkl : (done.map (·.1)).length ≤ 20000 := by rw [List.length_map]; exact Nat.le_trans hr.le HML.out
      have hbnd : ∀ q, cntK P (done.map (·.1)) q ≤ 400000000 := fun q => Nat.le_trans (cntK_le _ _ _) (Nat.mul_le_mul hkl HPL2)
      obtain ⟨f0, hf0⟩ : ∃ f0, f0 = cntK P (done.map (·.1)) (fun p => decide (p.1 = pa)) := ⟨_, rfl⟩
      obtain ⟨g0, hg0⟩ : ∃ g0, g0 = cntK P (done.map (·.1)) (fun p => decide (p.2 = pb)) := ⟨_, rfl⟩
      have bf0 : f0 ≤ 400000000 := by rw [hf0]; exact hbnd _
      have bg0 : g0 ≤ 400000000 := by rw [hg0]; exact hbnd _
      have bn : n ≤ 400000000 := by rw [HNN.out]; exact hbnd _
      have bs : s ≤ 400000000 := by rw [HSS.out]; exact hbnd _
      have hv1 := hr.vis
      have hBM := HBM.out
      have hnx : (Instr.next (.pointer (some ⟨w3.heap.size, 0, none⟩)) false 0).run Tryd.prog wr = .ok (.tuple #[.bool true, .agg #[.int .i64 pa, .int .i64 pb], .int .i64 (cN : Int)]) w' := hnx0
      have hent : (Instr.entry (.pointer (some ⟨w3.heap.size, 0, none⟩))).run Tryd.prog w' = .ok (.tuple #[.agg #[.int .i64 pa, .int .i64 pb], .int .i64 (cN : Int)]) w' := hent0
      clear hnx0 hent0
      have hwr : w3.heap.size < wr.heap.size := hr.lt
      have hx := (hx.grown hg fun k e => by injection e with e; subst e; exact ⟨by omega, HNR.out⟩).alloc (.cells #[.int .i64 pa, .int .i64 pb] 43 (0, 0))
      have ma := (ma.grown hg (by simp; omega)).alloc (.cells #[.int .i64 pa, .int .i64 pb] 43 (0, 0))
      have mb := (mb.grown hg (by simp; omega)).alloc (.cells #[.int .i64 pa, .int .i64 pb] 43 (0, 0))
      have hb := (hb.grown hg (by simp; omega)).alloc (.cells #[.int .i64 pa, .int .i64 pb] 43 (0, 0))
      have hr := hr'.alloc (.cells #[.int .i64 pa, .int .i64 pb] 43 (0, 0))
      have hbp := BoxAt.new w' #[.int .i64 pa, .int .i64 pb] 43
      have L1 : (Instr.lookup 39 (.map (some w1.heap.size)) (.int .i64 pa) false).run Tryd.prog (w'.alloc (.cells #[.int .i64 pa, .int .i64 pb] 43 (0, 0))) = .ok (.int .i64 (f0 : Int)) (w'.alloc (.cells #[.int .i64 pa, .int .i64 pb] 43 (0, 0))) := by
        have := run_look ma Tryd.underlying39 (zeroInt _) (x := pa) rpa false
        rw [HF.out.look pa, ← hf0] at this; exact this
      obtain ⟨w5, hu50, ma5, hg5, hs5⟩ := run_put ma Tryd.underlying39 (x := pa) rpa (.int .i64 ((f0 : Int) + (cN : Int)))
      have hu5 : (Instr.mapUpdate 39 (.map (some w1.heap.size)) (.int .i64 pa) (.int .i64 ((f0 : Int) + (cN : Int)))).run Tryd.prog (w'.alloc (.cells #[.int .i64 pa, .int .i64 pb] 43 (0, 0))) = .ok () w5 := hu50
      clear hu50
      have hx5 := hx.grown hg5 fun k e => by injection e with e; subst e; exact ⟨by omega, HN1.out⟩
      have mb5 := mb.grown hg5 (by simp)
      have hb5 := hb.grown hg5 (by simp; omega)
      have hr5 := hr.grown hg5 (by simp; omega) (by simp; omega)
      have hbp5 := hbp.grown hg5 (by simp; omega)
      have L2 : (Instr.lookup 39 (.map (some (w1.heap.size + 1))) (.int .i64 pb) false).run Tryd.prog w5 = .ok (.int .i64 (g0 : Int)) w5 := by
        have := run_look mb5 Tryd.underlying39 (zeroInt _) (x := pb) rpb false
        rw [HGG.out.look pb, ← hg0] at this; exact this
      obtain ⟨w6, hu60, mb6, hg6, hs6⟩ := run_put mb5 Tryd.underlying39 (x := pb) rpb (.int .i64 ((g0 : Int) + (cN : Int)))
      have hu6 : (Instr.mapUpdate 39 (.map (some (w1.heap.size + 1))) (.int .i64 pb) (.int .i64 ((g0 : Int) + (cN : Int)))).run Tryd.prog w5 = .ok () w6 := hu60
      clear hu60
      have hx6 := hx5.grown hg6 fun k e => by injection e with e; subst e; exact ⟨by omega, HN2.out⟩
      have ma6 := ma5.grown hg6 (by simp)
      have hb6 := hb5.grown hg6 (by simp; omega)
      have hr6 := hr5.grown hg6 (by simp; omega) (by simp; omega)
      have hbp6 := hbp5.grown hg6 (by simp; omega)
      have z0 : w5.cell? ⟨w'.heap.size, 1, none⟩ = some (.int .i64 pb) := hbp5.cell 1
      have z1 : w6.cell? ⟨w'.heap.size, 0, none⟩ = some (.int .i64 pa) := hbp6.cell 0
      have z2 : w6.cell? ⟨w'.heap.size, 1, none⟩ = some (.int .i64 pb) := hbp6.cell 1
      have hv6 := hr6.vis
      have hle6 := hr6.le
      rw [List.length_append] at hv6 hle6
      have HVV : Aside (visN wr w3.heap.size = done.length ∧ visN w6 w3.heap.size = done.length + 1 ∧ done.length + 1 ≤ m.length) := ⟨⟨hv1, hv6, hle6⟩⟩
      have ew1 : IntKind.i64.wrap ((f0 : Int) + (cN : Int)) = (f0 : Int) + (cN : Int) := IntWalk.i64_in _ (by omega)
      have ew2 : IntKind.i64.wrap ((g0 : Int) + (cN : Int)) = (g0 : Int) + (cN : Int) := IntWalk.i64_in _ (by omega)
      have ew3 : IntKind.i64.wrap ((n : Int) + (cN : Int)) = (n : Int) + (cN : Int) := IntWalk.i64_in _ (by omega)
      have ew4 : IntKind.i64.wrap ((s : Int) + (cN : Int)) = (s : Int) + (cN : Int) := IntWalk.i64_in _ (by omega)
      have ks' : (done ++ [((pa, pb), Value.int .i64 (cN : Int))]).map (·.1) = done.map (·.1) ++ [(pa, pb)] := by simp
      have HF6 : Aside (SumM (mput F pa (.int .i64 ((f0 : Int) + (cN : Int)))) P ((done ++ [((pa, pb), Value.int .i64 (cN : Int))]).map (·.1)) Prod.fst) := ⟨by
        rw [ks']; exact HF.out.step (pa, pb) ma.nodup (by rw [hf0, hcN]) ma5.nodup⟩
      have HG6 : Aside (SumM (mput G pb (.int .i64 ((g0 : Int) + (cN : Int)))) P ((done ++ [((pa, pb), Value.int .i64 (cN : Int))]).map (·.1)) Prod.snd) := ⟨by
        rw [ks']; exact HGG.out.step (pa, pb) mb.nodup (by rw [hg0, hcN]) mb6.nodup⟩
      have HN6 : Aside (n + cN = cntK P ((done ++ [((pa, pb), Value.int .i64 (cN : Int))]).map (·.1)) (fun _ => true)) := ⟨by
        rw [ks', cntK_snoc, ← HNN.out, hcN]; rfl⟩
      have HS6 : Aside (s + (if pa = pb then cN else 0) = cntK P ((done ++ [((pa, pb), Value.int .i64 (cN : Int))]).map (·.1)) (fun p => decide (p.1 = p.2))) := ⟨by
        rw [ks', cntK_snoc, ← HSS.out, hcN]; simp⟩
      have X6 := Aside.mk hx6
      have R6 := Aside.mk hr6
      have A6 := Aside.mk ma6
      have B6 := Aside.mk mb6
      have BB6 := Aside.mk hb6
      clear hx hx5 hx6 hr hr5 hr6 hr' ma ma5 ma6 mb mb5 mb6 hb hb5 hb6 hbp hbp5 hbp6 hf0 hg0 hcN hg hg5 hg6 hs5 hs6 hsz hq hp hv1 hv6 hle6 ks' hBM HF HGG HNN HSS bf0 bg0 bn bs hbnd hkl
      by_cases hab : pa = pb
      · have hs7 : Aside (s + cN = _) := ⟨(by rw [if_pos hab] : s + cN = s + (if pa = pb then cN else 0)).trans HS6.out⟩
        have heq : (pa == pb) = true := by rw [beq_iff_eq]; exact hab
        clear hab
        go_wp2
        go_roundw
        case rel => exact ⟨_, _, _, n + cN, s + cN, by simp, by simp, X6.out, R6.out, A6.out, B6.out, BB6.out, HN6, hs7, HF6, HG6⟩
        case measure => have := HVV.out; omega
      · have hs7 : Aside (s = _) := ⟨(by rw [if_neg hab]; rfl : s = s + (if pa = pb then cN else 0)).trans HS6.out⟩
        have heq : (pa == pb) = false := by rw [beq_eq_false_iff_ne]; exact hab
        clear hab
        go_wp2
        go_roundw
        case rel => exact ⟨_, _, _, n + cN, s, by simp, by simp, X6.out, R6.out, A6.out, B6.out, BB6.out, HN6, hs7, HF6, HG6⟩
        case measure => have := HVV.out; omega
end Go.Proofs.YtaakpcmflladaaaDoor
