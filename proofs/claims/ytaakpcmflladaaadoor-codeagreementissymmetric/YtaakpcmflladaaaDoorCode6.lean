/- code.common. -/
import Derived.Test.YtaakpcmflladaaaDoorCommonP
set_option linter.all false
namespace Go.Proofs.YtaakpcmflladaaaDoor
open Go.RowKit Hv Go.Proofs
def CommonR (w : World) (h : View) (l : List (Int × Int)) (e : Ending) (w' : World) : Prop := ∃ h' bm m, e = .returned (.map (some bm)) ∧ Ext w h w' h' ∧ MapIn Kp h' bm m ∧ Counts m l
theorem CommonR.of {w w' : World} {h h' : View} {l l' : List (Int × Int)} {bm : Nat} {m : List ((Int × Int) × Value)} (hl : l = l') (x : Ext w h w' h') (hm : MapIn Kp h' bm m) (hc : Counts m l) : CommonR w h l' (.returned (.map (some bm))) w' := ⟨h', bm, m, rfl, x, hm, hl ▸ hc⟩
theorem ok_pair_range {p : Int × Int} (h : inRange .i64 p.1 ∧ inRange .i64 p.2) : Kp.ok p := h
set_option maxRecDepth 100000 in
set_option maxHeartbeats 3200000 in
theorem common_any (h : View) (w : World) (hs : Sub h w) (v : Value) (cs : List Cod) (hv : Sl h tCod v cs) (hl : cs.length ≤ 20000) (a b : Int) (gs : List (List Cod)) (hgs : gs = grp cs cs.length) (hgl : gs.length ≤ 20000) :
    Calls Tryd.prog 10 #[v, .int .i64 a, .int .i64 b] w (CommonR w h (pairsOf a b gs)) := by
  have hx0 := (Ext.refl hs).alloc (.map #[] 0)
  have hm0 := MapIs.new Kp w
  have CC := Aside.mk (cases_any h _ hx0.sub v cs hv hl)
  rw [← hgs] at CC
  have HS := Aside.mk hs
  clear hgs hv
  have hmm := @run_makeMap Tryd.prog
  go_enter Tryd.func10, Tryd.ntmps10
  go_wp2_with fail
  refine CC.out.mono ?_
  rintro e w1 ⟨h1, V, rfl, x1, ⟨A, c, rfl, hl1, hl2, hsl⟩⟩
  have hm1 := hm0.below x1.below
  have hx1 := hx0.trans x1
  have hnb : h1 w.heap.size = none := (x1.old _ (by simp)).trans (hs.none_ge (Nat.le_refl _))
  have HNB := Aside.mk hnb
  clear hm0 hx0 hnb x1 hmm
  go_wp2
  go_loopw [17] (fun i wr => ∃ (k : Nat) (m : List ((Int × Int) × Value)), k ≤ gs.length ∧ i = .int .i64 k ∧ Ext w h wr h1 ∧ MapIs Kp wr w.heap.size m ∧ Aside (Counts m (pairsOf a b (gs.take k)))) (fun i _ => gs.length - (intOf i).toNat)
  case atStart => exact ⟨0, [], Nat.zero_le _, rfl, hx1, hm1, ⟨by simpa [pairsOf] using Counts.nil⟩⟩
  case round =>
    clear hx1 hm1
    obtain ⟨k, m, hk, rfl, hx, hm, HC⟩ := hrel
    by_cases hlt : k < gs.length
    · obtain ⟨b', off', ds, rfl, ⟨vg, rfl, ⟨A2, c2, rfl, g1, g2, gsl⟩⟩, hcl⟩ := hsl.at_ k hlt
      have hc0 : wr.cell? ⟨b', off' + k, none⟩ = some (.slice A2 gs[k].length c2) := by
        have := hx.sub.cell (hcl 0 _ rfl)
        simpa [show (tSl tCod).sz = 1 from rfl] using this
      obtain ⟨g, hg⟩ : ∃ g, g = gs[k] := ⟨_, rfl⟩
      rw [← hg] at hc0 g1 gsl
      have HP := Aside.mk (show pairsOf a b (gs.take (k + 1)) = _ by rw [List.take_succ_eq_append_getElem hlt, pairsOf_snoc, ← hg])
      rename World => w2
      have hx2 := hx.alloc (.cells #[.int .i64 0, .int .i64 0] 43 (0, 0))
      have hm2 := hm.alloc (.cells #[.int .i64 0, .int .i64 0] 43 (0, 0))
      have hb2 := BoxAt.new w2 #[.int .i64 0, .int .i64 0] 43
      have hbl : w.heap.size ≤ w2.heap.size := hx.ge
      have hbn : h1 w2.heap.size = none := hx.sub.none_ge (Nat.le_refl _)
      have HBN := Aside.mk hbn
      clear hcl hg hm hx hbn
      go_wp2
      go_loopw [24] (fun i wr => ∃ (j : Nat) (p1 p2 : Int), j ≤ g.length ∧ i = .int .i64 j ∧ Ext w h wr h1 ∧ MapIs Kp wr w.heap.size m ∧ BoxAt wr w2.heap.size 43 #[.int .i64 p1, .int .i64 p2] ∧ inRange .i64 p1 ∧ inRange .i64 p2 ∧ Aside ((p1, p2) = pairOf a b (g.take j))) (fun i _ => g.length - (intOf i).toNat)
      case atStart => exact ⟨0, 0, 0, Nat.zero_le _, rfl, hx2, hm2, hb2, by constructor <;> decide, by constructor <;> decide, ⟨by simp [pairOf]⟩⟩
      case round =>
        clear hx2 hm2 hb2
        obtain ⟨j, p1, p2, hj, rfl, hx, hm, hb, rp1, rp2, HQ⟩ := hrel
        by_cases hjt : j < g.length
        · obtain ⟨b2, off2, u, hu, rfl, c0, c1, c2', r1, r2, r3⟩ := cod_at gsl hx.sub j hjt
          have HPS := Aside.mk (show pairOf a b (g.take (j + 1)) = pStep a b (pairOf a b (g.take j)) u by rw [List.take_succ_eq_append_getElem hjt, pairOf_snoc, ← hu])
          have hne : wr.heap.size ≠ (⟨w2.heap.size, 0, none⟩ : Addr).block := by have := hb.lt; show _ ≠ w2.heap.size; omega
          have hxx := hx.alloc (.cells #[.int .i64 u.cas, .int .i64 u.coder, .int .i64 u.code] 71 (0, 0))
          have hmm2 := hm.alloc (.cells #[.int .i64 u.cas, .int .i64 u.coder, .int .i64 u.code] 71 (0, 0))
          have hbb := hb.alloc (.cells #[.int .i64 u.cas, .int .i64 u.coder, .int .i64 u.code] 71 (0, 0))
          have hyy := BoxAt.new wr #[.int .i64 u.cas, .int .i64 u.coder, .int .i64 u.code] 71
          have k0 : (wr.alloc (.cells #[.int .i64 u.cas, .int .i64 u.coder, .int .i64 u.code] 71 (0, 0))).cell? ⟨w2.heap.size, 0, none⟩ = some (.int .i64 p1) := hbb.cell 0
          have k1 : (wr.alloc (.cells #[.int .i64 u.cas, .int .i64 u.coder, .int .i64 u.code] 71 (0, 0))).cell? ⟨w2.heap.size, 1, none⟩ = some (.int .i64 p2) := hbb.cell 1
          clear hu hx hm hb
          by_cases ha : u.coder = a <;> by_cases hb1 : u.coder = b
          · -- 1 1
            have hq : Aside ((u.code, u.code) = pairOf a b (g.take (j + 1))) := ⟨by rw [HPS.out, ← HQ.out]; unfold pStep; rw [if_pos ha, if_pos hb1]⟩
            have ea : (u.coder == a) = true := by rw [beq_iff_eq]; exact ha
            have eb : (u.coder == b) = true := by rw [beq_iff_eq]; exact hb1
            clear ha hb1
            have fa : (wr.alloc (.cells #[.int .i64 u.cas, .int .i64 u.coder, .int .i64 u.code] 71 (0, 0))).frozen? ⟨w2.heap.size, 0, none⟩ = false := hbb.frozen 0
            have x3 := hxx.setCell (p := ⟨w2.heap.size, 0, none⟩) hbl HBN.out (.int .i64 u.code)
            have m3 := hmm2.setCell ⟨w2.heap.size, 0, none⟩ (.int .i64 u.code)
            have b3 := hbb.set 0 (.int .i64 u.code)
            have y3 := hyy.far (p := ⟨w2.heap.size, 0, none⟩) hne (.int .i64 u.code)
            have z1 : ((wr.alloc (.cells #[.int .i64 u.cas, .int .i64 u.coder, .int .i64 u.code] 71 (0, 0))).setCell ⟨w2.heap.size, 0, none⟩ (.int .i64 u.code)).cell? ⟨wr.heap.size, 1, none⟩ = some (.int .i64 u.coder) := y3.cell 1
            have z2 : ((wr.alloc (.cells #[.int .i64 u.cas, .int .i64 u.coder, .int .i64 u.code] 71 (0, 0))).setCell ⟨w2.heap.size, 0, none⟩ (.int .i64 u.code)).cell? ⟨wr.heap.size, 2, none⟩ = some (.int .i64 u.code) := y3.cell 2
            have fb : ((wr.alloc (.cells #[.int .i64 u.cas, .int .i64 u.coder, .int .i64 u.code] 71 (0, 0))).setCell ⟨w2.heap.size, 0, none⟩ (.int .i64 u.code)).frozen? ⟨w2.heap.size, 1, none⟩ = false := b3.frozen 1
            have x4 := x3.setCell (p := ⟨w2.heap.size, 1, none⟩) hbl HBN.out (.int .i64 u.code)
            have m4 := m3.setCell ⟨w2.heap.size, 1, none⟩ (.int .i64 u.code)
            have b4 := b3.set 1 (.int .i64 u.code)
            have X4 := Aside.mk x4
            have M4 := Aside.mk m4
            have B4 := Aside.mk b4
            clear x3 m3 b3 y3 x4 m4 b4 hxx hmm2 hbb hyy
            go_wp2
            go_roundw
            case rel => exact ⟨j + 1, u.code, u.code, by omega, by simp, X4.out, M4.out, B4.out, r3, r3, hq⟩
            case measure => simp [intOf] <;> omega
          · -- 1 0
            have hq : Aside ((u.code, p2) = pairOf a b (g.take (j + 1))) := ⟨by rw [HPS.out, ← HQ.out]; unfold pStep; rw [if_pos ha, if_neg hb1]⟩
            have ea : (u.coder == a) = true := by rw [beq_iff_eq]; exact ha
            have eb : (u.coder == b) = false := by rw [beq_eq_false_iff_ne]; exact hb1
            clear ha hb1
            have fa : (wr.alloc (.cells #[.int .i64 u.cas, .int .i64 u.coder, .int .i64 u.code] 71 (0, 0))).frozen? ⟨w2.heap.size, 0, none⟩ = false := hbb.frozen 0
            have x3 := hxx.setCell (p := ⟨w2.heap.size, 0, none⟩) hbl HBN.out (.int .i64 u.code)
            have m3 := hmm2.setCell ⟨w2.heap.size, 0, none⟩ (.int .i64 u.code)
            have b3 := hbb.set 0 (.int .i64 u.code)
            have y3 := hyy.far (p := ⟨w2.heap.size, 0, none⟩) hne (.int .i64 u.code)
            have z1 : ((wr.alloc (.cells #[.int .i64 u.cas, .int .i64 u.coder, .int .i64 u.code] 71 (0, 0))).setCell ⟨w2.heap.size, 0, none⟩ (.int .i64 u.code)).cell? ⟨wr.heap.size, 1, none⟩ = some (.int .i64 u.coder) := y3.cell 1
            have z2 : ((wr.alloc (.cells #[.int .i64 u.cas, .int .i64 u.coder, .int .i64 u.code] 71 (0, 0))).setCell ⟨w2.heap.size, 0, none⟩ (.int .i64 u.code)).cell? ⟨wr.heap.size, 2, none⟩ = some (.int .i64 u.code) := y3.cell 2
            have x4 := x3
            have m4 := m3
            have b4 := b3
            have X4 := Aside.mk x4
            have M4 := Aside.mk m4
            have B4 := Aside.mk b4
            clear x3 m3 b3 y3 x4 m4 b4 hxx hmm2 hbb hyy
            go_wp2
            go_roundw
            case rel => exact ⟨j + 1, u.code, p2, by omega, by simp, X4.out, M4.out, B4.out, r3, rp2, hq⟩
            case measure => simp [intOf] <;> omega
          · -- 0 1
            have hq : Aside ((p1, u.code) = pairOf a b (g.take (j + 1))) := ⟨by rw [HPS.out, ← HQ.out]; unfold pStep; rw [if_neg ha, if_pos hb1]⟩
            have ea : (u.coder == a) = false := by rw [beq_eq_false_iff_ne]; exact ha
            have eb : (u.coder == b) = true := by rw [beq_iff_eq]; exact hb1
            clear ha hb1
            have x3 := hxx
            have m3 := hmm2
            have b3 := hbb
            have y3 := hyy
            have fb : (wr.alloc (.cells #[.int .i64 u.cas, .int .i64 u.coder, .int .i64 u.code] 71 (0, 0))).frozen? ⟨w2.heap.size, 1, none⟩ = false := b3.frozen 1
            have x4 := x3.setCell (p := ⟨w2.heap.size, 1, none⟩) hbl HBN.out (.int .i64 u.code)
            have m4 := m3.setCell ⟨w2.heap.size, 1, none⟩ (.int .i64 u.code)
            have b4 := b3.set 1 (.int .i64 u.code)
            have X4 := Aside.mk x4
            have M4 := Aside.mk m4
            have B4 := Aside.mk b4
            clear x3 m3 b3 y3 x4 m4 b4 hxx hmm2 hbb hyy
            go_wp2
            go_roundw
            case rel => exact ⟨j + 1, p1, u.code, by omega, by simp, X4.out, M4.out, B4.out, rp1, r3, hq⟩
            case measure => simp [intOf] <;> omega
          · -- 0 0
            have hq : Aside ((p1, p2) = pairOf a b (g.take (j + 1))) := ⟨by rw [HPS.out, ← HQ.out]; unfold pStep; rw [if_neg ha, if_neg hb1]⟩
            have ea : (u.coder == a) = false := by rw [beq_eq_false_iff_ne]; exact ha
            have eb : (u.coder == b) = false := by rw [beq_eq_false_iff_ne]; exact hb1
            clear ha hb1
            have x3 := hxx
            have m3 := hmm2
            have b3 := hbb
            have y3 := hyy
            have x4 := x3
            have m4 := m3
            have b4 := b3
            have X4 := Aside.mk x4
            have M4 := Aside.mk m4
            have B4 := Aside.mk b4
            clear x3 m3 b3 y3 x4 m4 b4 hxx hmm2 hbb hyy
            go_wp2
            go_roundw
            case rel => exact ⟨j + 1, p1, p2, by omega, by simp, X4.out, M4.out, B4.out, rp1, rp2, hq⟩
            case measure => simp [intOf] <;> omega
        · have hjl : j = g.length := by omega
          subst hjl
          rw [List.take_length] at HQ
          have k0 : wr.cell? ⟨w2.heap.size, 0, none⟩ = some (.int .i64 p1) := hb.cell 0
          have k1 : wr.cell? ⟨w2.heap.size, 1, none⟩ = some (.int .i64 p2) := hb.cell 1
          have HP := Aside.mk (show pairsOf a b (gs.take (k + 1)) = pairsOf a b (gs.take k) ++ (if okPair (p1, p2) then [(p1, p2)] else []) by rw [HP.out, HQ.out])
          by_cases z1 : p1 = 0
          · have hc : Aside (Counts m (pairsOf a b (gs.take (k + 1)))) := ⟨by
              rw [HP.out, if_neg (by rw [z1]; simp [okPair]), List.append_nil]; exact HC.out⟩
            have e1 : (p1 != 0) = false := by rw [z1]; rfl
            have X := Aside.mk hx
            have M := Aside.mk hm
            clear z1 hx hm hb
            go_wp2
            go_roundw
            case rel => exact ⟨k + 1, m, hlt, by simp, X.out, M.out, hc⟩
            case measure => simp [intOf] <;> omega
          have e1 : (p1 != 0) = true := by rw [bne_iff_ne]; exact z1
          by_cases z2 : p2 = 0
          · have hc : Aside (Counts m (pairsOf a b (gs.take (k + 1)))) := ⟨by
              rw [HP.out, if_neg (by rw [z2]; simp [okPair]), List.append_nil]; exact HC.out⟩
            have e2 : (p2 != 0) = false := by rw [z2]; rfl
            have X := Aside.mk hx
            have M := Aside.mk hm
            clear z1 z2 hx hm hb
            go_wp2
            go_roundw
            case rel => exact ⟨k + 1, m, hlt, by simp, X.out, M.out, hc⟩
            case measure => simp [intOf] <;> omega
          have e2 : (p2 != 0) = true := by rw [bne_iff_ne]; exact z2
          obtain ⟨n0, hn0⟩ : ∃ n0, n0 = (pairsOf a b (gs.take k)).count (p1, p2) := ⟨_, rfl⟩
          have hnn : n0 ≤ 20000 := by
            rw [hn0]
            refine Nat.le_trans List.count_le_length (Nat.le_trans (pairsOf_len _ _ _) ?_)
            rw [List.length_take]; omega
          have hv0 : (lk m (p1, p2)).getD (.int .i64 0) = .int .i64 (n0 : Int) := by rw [hn0]; exact HC.out.look hm.nodup _
          have hc : Aside (Counts (mput m (p1, p2) (.int .i64 ((n0 : Int) + 1))) (pairsOf a b (gs.take (k + 1)))) := ⟨by
            rw [HP.out, if_pos (by simp [okPair, z1, z2]), hn0]; exact HC.out.step _⟩
          obtain ⟨m1, hm1⟩ : ∃ m1, m1 = mput m (p1, p2) ((lk m (p1, p2)).getD (.int .i64 0)) := ⟨_, rfl⟩
          have HLK : Aside (∀ W, MapIs Kp W w.heap.size m ∨ MapIs Kp W w.heap.size m1 → (Instr.lookup 40 (.map (some w.heap.size)) (.agg #[.int .i64 p1, .int .i64 p2]) false).run Tryd.prog W = .ok (.int .i64 (n0 : Int)) W) := ⟨fun W hW => by
            rcases hW with hW | hW
            · have := run_look hW Tryd.underlying40 (zeroInt W) (x := (p1, p2)) ⟨rp1, rp2⟩ false
              rw [hv0] at this; exact this
            · have := run_look hW Tryd.underlying40 (zeroInt W) (x := (p1, p2)) ⟨rp1, rp2⟩ false
              rw [hm1] at this hW
              rw [lk_mput_self hm.nodup hW.nodup, hv0] at this; exact this⟩
          have HM1 := Aside.mk hm1
          have HV0 := Aside.mk hv0
          have ew : IntKind.i64.wrap ((n0 : Int) + 1) = (n0 : Int) + 1 := IntWalk.i64_in _ (by omega)
          have hbp : w2.heap.size ≠ w.heap.size := fun e => hm.ne_box hb e.symm
          clear hn0 hv0 hm1 z1 z2 HP HQ HC
          go_wp2
          refine wp_region_mix (fun W => W.cell? ⟨w2.heap.size, 0, none⟩ = some (.int .i64 p1) ∧ W.cell? ⟨w2.heap.size, 1, none⟩ = some (.int .i64 p2) ∧ (MapIs Kp W w.heap.size m ∨ MapIs Kp W w.heap.size m1)) [4] 6 (by kernel_rfl) (by kernel_rfl) (by decide) ⟨k0, k1, .inl hm.drew⟩ ?_
          show wpMix _ _ _ _ _ [0, 1, 2, 3, 4, 5] _ _
          iterate 4
            refine mix_e rfl rfl rfl ?_
            apply Exists.intro
            constructor
            · rintro W ⟨q0, q1, q2⟩
              have q3 := HLK.out W q2
              clear q2
              go_simp
              rfl
            simp only [Act.put, List.setIfInBounds_toArray, List.set_cons_zero, List.set_cons_succ]
          refine mix_w rfl rfl rfl ?_
          refine wpList_entry (x := (p1, p2)) hm.drew Tryd.underlying40 zeroInt ⟨rp1, rp2⟩ rfl rfl rfl rfl ?_
          intro st w5 hg5 hs5 hm5 hst5
          rw [HV0.out, ← HV0.out, ← HM1.out] at hm5
          have q0 := cell_grown (cell_drew k0) hg5 (by simpa using hbp.symm)
          have q1 := cell_grown (cell_drew k1) hg5 (by simpa using hbp.symm)
          refine wpList_nil (onlyN ⟨rfl, ⟨q0, q1, .inr hm5⟩, ?_⟩)
          simp only [Act.put, List.setIfInBounds_toArray, List.set_cons_zero, List.set_cons_succ]
          refine mix_e rfl rfl rfl ?_
          apply Exists.intro
          constructor
          · rintro W ⟨q0, q1, q2⟩
            clear q2
            go_simp
            rfl
          simp only [Act.put, List.setIfInBounds_toArray, List.set_cons_zero, List.set_cons_succ]
          refine mix_nil ?_
          obtain ⟨w6, hr6, hm6, hg6, hs6⟩ := hst5 w5 (.int .i64 ((n0 : Int) + 1)) rfl
          show wpList _ _ _ [_] _ _
          refine wpList_estore rfl rfl rfl rfl rfl hr6 ?_
          refine wpList_nil (onlyN ?_)
          have X : Aside (Ext w h w6 h1) := ⟨(hx.drew.grown hg5 fun b e => by injection e with e; subst e; exact ⟨Nat.le_refl _, HNB.out⟩).grown hg6 fun b e => by injection e with e; subst e; exact ⟨Nat.le_refl _, HNB.out⟩⟩
          have M := Aside.mk hm6
          clear hx hm hb hg5 hs5 hm5 hst5 hr6 hm6 hg6 hs6 k0 k1 q0 q1
          go_wp2
          go_roundw
          case rel => exact ⟨k + 1, _, hlt, by simp, X.out, M.out, hc⟩
          case measure => simp [intOf] <;> omega
    · have hkl : k = gs.length := by omega
      subst hkl
      rw [List.take_length] at HC
      obtain ⟨h2, x2, l2, m2, _⟩ := hm.publish hx (Nat.le_refl _) HNB.out
      have X := Aside.mk x2
      have M := Aside.mk m2
      clear x2 m2 l2 hm hx
      go_wp2
      go_ret
      exact CommonR.of rfl X.out M.out HC.out
end Go.Proofs.YtaakpcmflladaaaDoor
