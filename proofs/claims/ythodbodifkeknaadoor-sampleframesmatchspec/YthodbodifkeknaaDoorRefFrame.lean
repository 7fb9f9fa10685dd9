/- canvassref5.CheckFrame. -/
import Derived.Test.YthodbodifkeknaaDoorRefName
import Derived.Test.YthodbodifkeknaaDoorFrame2
set_option linter.all false
namespace Go.Proofs.YthodbodifkeknaaDoor
open Go.RowKit Hv Go.Proofs
def RChk (w : World) (h : View) (l : List Unit4) (e : Ending) (w' : World) : Prop := e = .returned (.int .i64 (frameF l)) ∧ ∃ h', Ext w h w' h'
theorem RChk.of {w w' : World} {h h' : View} {l : List Unit4} {n : Int} (hf : frameF l = n) (x : Ext w h w' h') : RChk w h l (.returned (.int .i64 n)) w' := ⟨by rw [hf], h', x⟩
theorem frame_many {l : List Unit4} (h : 5000 < l.length) : frameF l = 2 := by unfold frameF; rw [if_pos h]
theorem frame_end {l : List Unit4} (hl : l.length ≤ 5000) (h : unitsF l = 0) : frameF l = if 40 < (namesD l).length then 2 else 0 := by
  unfold frameF; rw [if_neg (by omega), h]; rfl
set_option maxRecDepth 100000 in
set_option maxHeartbeats 3200000 in
theorem rcheck_any (h : View) (w : World) (hs : Sub h w) (ht : TabW w) (v : Value) (l : List Unit4) (hv : Sl h tUnit v l) :
    Calls Tryd.prog 7 #[v] w (RChk w h l) := by
  have hv0 := hv
  obtain ⟨A, c, rfl, hl1, hl2, hsl⟩ := hv
  have HV0 := Aside.mk hv0
  clear hv0
  have hx := Ext.refl hs
  by_cases hb : 5000 < l.length
  · have hb' : (5000 : Int) < (l.length : Int) := by omega
    have E := Aside.mk (frame_many hb)
    go_enter Tryd.func7, Tryd.ntmps7
    go_wp2
    go_ret
    exact RChk.of E.out (hx)
  have hb' : (l.length : Int) ≤ 5000 := by omega
  have hb2 : l.length ≤ 5000 := by omega
  have FU := Aside.mk (@frame_unit l hb2)
  have HT := Aside.mk ht
  clear ht
  go_enter Tryd.func7, Tryd.ntmps7
  go_wp2
  go_loopw [3, 4, 10] (fun _ _ i wr => ∃ (k : Nat), k ≤ l.length ∧ i = .int .i64 k ∧ Ext w h wr h ∧ Aside (∀ i < k, unitF l i = 0)) (fun _ _ i _ => l.length - (intOf i).toNat)
  case atStart => exact ⟨0, Nat.zero_le _, rfl, hx, ⟨by simp⟩⟩
  case round =>
    obtain ⟨k, hk, rfl, hx, HU⟩ := hrel
    by_cases hlt : k < l.length
    · obtain ⟨b, off, u, hu, rfl, c0, c1, c2, c3, r1, r2, r3, r4⟩ := unit_at hsl hx.sub k hlt
      have HE := Aside.mk hu
      obtain ⟨bk, hbk⟩ : ∃ bk, bk = decide (0 < k ∧ u.id ≤ (match l[k-1]? with | some p => p.id | none => 0)) := ⟨_, rfl⟩
      have HF := Aside.mk (unitF_eq hlt hu hbk)
      have HB := Aside.mk hbk
      have HX := Aside.mk (fun (n : Int) (hn : n ≠ 0) (e : unitF l k = n) => FU.out ((unitsF_bad hlt HU.out (by rw [e]; exact hn)).trans e) hn)
      clear hu hbk
      obtain ⟨r1a, r1b⟩ := r1
      by_cases h1 : u.id < 1
      · have e := HX.out 1 (by decide) (by rw [HF.out, if_pos h1])
        have E := Aside.mk e
        clear e
        go_wp2
        go_ret
        exact RChk.of E.out (hx.alloc _)
      have HF := Aside.mk (HF.out.trans (if_neg h1))
      obtain ⟨nm, hnm⟩ : ∃ nm, nm = nameB u.st.data.toList := ⟨_, rfl⟩
      obtain ⟨ob1, hob1⟩ : ∃ ob1, outB u.cl 0 5000 = ob1 := ⟨_, rfl⟩
      obtain ⟨ob2, hob2⟩ : ∃ ob2, outB u.size 1 1000000 = ob2 := ⟨_, rfl⟩
      have CN := fun W hW => rname_any u.st W hW r2
      rw [← hnm] at CN
      rw [← hnm, hob1, hob2] at HF
      have HW : Aside (TabW (wr.alloc (.cells #[.int .i64 u.id, .string u.st, .int .i64 u.cl, .int .i64 u.size] 45)).drew) := ⟨HT.out.below (hx.alloc _).drew.below⟩
      have CN := Aside.mk (CN _ HW.out)
      have HO1 := Aside.mk hob1
      have HO2 := Aside.mk hob2
      clear hnm hob1 hob2
      have hbx : wr.heap.size < (wr.alloc (.cells #[.int .i64 u.id, .string u.st, .int .i64 u.cl, .int .i64 u.size] 45)).heap.size := by simp
      have HBX := Aside.mk (BoxAt.new wr #[.int .i64 u.id, .string u.st, .int .i64 u.cl, .int .i64 u.size] 45)
      by_cases hk0 : 0 < k
      case' pos =>
        obtain ⟨b', off', p, hp, hbb, d0, _, _, _, q1, _⟩ := unit_at hsl hx.sub (k - 1) (by omega)
        injection hbb with hbb
        injection hbb with hb1 hb2 _
        subst hb1
        subst hb2
        have hkb : decide ((0 : Int) < (k : Int)) = true := by simp; omega
        have hbk : bk = decide (u.id ≤ p.id) := by
          rw [HB.out, List.getElem?_eq_getElem (by omega : k - 1 < l.length), ← hp]; simp [hk0]
        have HP := Aside.mk hp
        clear hp
        have e1 : IntKind.i64.wrap ((k : Int) - 1) = (k : Int) - 1 := IntWalk.i64_in _ (by omega)
        have e2 : ((k : Int) - 1).toNat = k - 1 := by omega
        have e3 : (0 : Int) ≤ (k : Int) - 1 := by omega
        have e4 : (k : Int) - 1 < (l.length : Int) := by omega
        have e5 : (1 : Int) ≤ (k : Int) := by omega
        have hpleb : decide (u.id ≤ p.id) = bk := hbk.symm
        clear hbk
        go_wp2_with fail
        refine wp_region_mix (fun W => W.cell? ⟨wr.heap.size, 0, none⟩ = some (.int .i64 u.id) ∧ W.cell? ⟨b, off + (k - 1) * 4, none⟩ = some (.int .i64 p.id)) [] 14 (by kernel_rfl) (by kernel_rfl) (by decide) ⟨by rw [World.cell?_drew]; exact cell_new _ _ _ _ 0, cell_alloc d0 _⟩ ?_
        show wpMix _ _ _ _ _ [0, 1, 2, 3, 4, 5, 6, 7, 8, 9, 10, 11, 12, 13] _ _
        iterate 14
          refine mix_e rfl rfl ?hg ?_
          (case hg => go_simp; done)
          apply Exists.intro
          constructor
          · rintro W ⟨q0, q2⟩
            go_simp
            rfl
          simp only [Act.put, List.setIfInBounds_toArray, List.set_cons_zero, List.set_cons_succ]
        refine mix_nil (wpList_nil (onlyN ?_))
        clear e1 e2 e3 e4 e5
      case' neg =>
        have hkb : decide ((0 : Int) < (k : Int)) = false := by simp; omega
        have hbk : bk = false := by rw [HB.out]; simp [hk0]
        subst hbk
        clear HB
        go_wp2_with fail
        refine wp_region_mix (fun W => W.cell? ⟨wr.heap.size, 0, none⟩ = some (.int .i64 u.id) ∧ True) [] 14 (by kernel_rfl) (by kernel_rfl) (by decide) ⟨by rw [World.cell?_drew]; exact cell_new _ _ _ _ 0, trivial⟩ ?_
        show wpMix _ _ _ _ _ [0, 1, 2, 3, 4, 5, 6, 7, 8, 9, 10, 11, 12, 13] _ _
        iterate 14
          first
            | (refine mix_skip rfl rfl ?hg ?_
               (case hg => go_simp; done)
               simp only [Act.put, List.setIfInBounds_toArray, List.set_cons_zero, List.set_cons_succ])
            | (refine mix_e rfl rfl ?hg ?_
               (case hg => go_simp; done)
               apply Exists.intro
               constructor
               · rintro W ⟨q0, q2⟩
                 go_simp
                 rfl
               simp only [Act.put, List.setIfInBounds_toArray, List.set_cons_zero, List.set_cons_succ])
        refine mix_nil (wpList_nil (onlyN ?_))
      case' pos =>
        clear HB
        cases bk
        rotate_left
        · have E := Aside.mk (HX.out 7 (by decide) (by rw [HF.out]; rfl))
          go_wp2
          go_ret
          exact RChk.of E.out ((hx.alloc _).drew)
      all_goals
        have HF2 := HF.out
        rw [if_neg Bool.false_ne_true] at HF2
        cases nm
        · have E := Aside.mk (HX.out 5 (by decide) (by rw [HF2]; rfl))
          clear HF2
          go_wp2_with (go_at_call 15; refine CN.out.mono ?_; rintro e w2 ⟨rfl, hb2⟩)
          go_ret
          exact RChk.of E.out ((hx.alloc _).drew.below' hb2)
        rw [if_neg (by decide)] at HF2
        have HG := Aside.mk HF2
        clear HF2
        by_cases z1 : u.cl < 0
        · have E := Aside.mk (HX.out 1 (by decide) (by rw [HG.out, ← HO1.out, if_pos (.inl (by simp [outB]; omega))]))
          go_wp2_with (go_at_call 15; refine CN.out.mono ?_; rintro e w2 ⟨rfl, hb2⟩; have d2 := (HBX.out.drew.below hb2).cell 2; have d3 := (HBX.out.drew.below hb2).cell 3; simp only [List.getElem?_toArray, List.getElem?_cons_zero, List.getElem?_cons_succ] at d2 d3)
          go_ret
          exact RChk.of E.out ((hx.alloc _).drew.below' hb2)
        by_cases z2 : 5000 < u.cl
        · have E := Aside.mk (HX.out 1 (by decide) (by rw [HG.out, ← HO1.out, if_pos (.inl (by simp [outB]; omega))]))
          go_wp2_with (go_at_call 15; refine CN.out.mono ?_; rintro e w2 ⟨rfl, hb2⟩; have d2 := (HBX.out.drew.below hb2).cell 2; have d3 := (HBX.out.drew.below hb2).cell 3; simp only [List.getElem?_toArray, List.getElem?_cons_zero, List.getElem?_cons_succ] at d2 d3)
          go_ret
          exact RChk.of E.out ((hx.alloc _).drew.below' hb2)
        by_cases z3 : u.size < 1
        · have E := Aside.mk (HX.out 1 (by decide) (by rw [HG.out, ← HO2.out, if_pos (.inr (by simp [outB]; omega))]))
          go_wp2_with (go_at_call 15; refine CN.out.mono ?_; rintro e w2 ⟨rfl, hb2⟩; have d2 := (HBX.out.drew.below hb2).cell 2; have d3 := (HBX.out.drew.below hb2).cell 3; simp only [List.getElem?_toArray, List.getElem?_cons_zero, List.getElem?_cons_succ] at d2 d3)
          go_ret
          exact RChk.of E.out ((hx.alloc _).drew.below' hb2)
        by_cases z4 : 1000000 < u.size
        · have E := Aside.mk (HX.out 1 (by decide) (by rw [HG.out, ← HO2.out, if_pos (.inr (by simp [outB]; omega))]))
          go_wp2_with (go_at_call 15; refine CN.out.mono ?_; rintro e w2 ⟨rfl, hb2⟩; have d2 := (HBX.out.drew.below hb2).cell 2; have d3 := (HBX.out.drew.below hb2).cell 3; simp only [List.getElem?_toArray, List.getElem?_cons_zero, List.getElem?_cons_succ] at d2 d3)
          go_ret
          exact RChk.of E.out ((hx.alloc _).drew.below' hb2)
        have E : Aside (unitF l k = 0) := ⟨by rw [HG.out, ← HO1.out, ← HO2.out, if_neg (by simp [outB]; omega)]⟩
        go_wp2_with (go_at_call 15; refine CN.out.mono ?_; rintro e w2 ⟨rfl, hb2⟩; have d2 := (HBX.out.drew.below hb2).cell 2; have d3 := (HBX.out.drew.below hb2).cell 3; simp only [List.getElem?_toArray, List.getElem?_cons_zero, List.getElem?_cons_succ] at d2 d3)
        have HU2 : Aside (∀ i < k + 1, unitF l i = 0) := ⟨fun i hi => by
          by_cases e : i = k
          · rw [e]; exact E.out
          · exact HU.out i (by omega)⟩
        go_roundw
        case rel => exact ⟨k + 1, hlt, by simp <;> omega, (hx.alloc _).drew.below' hb2, HU2⟩
        case measure => simp [intOf]; omega
    · have hkl : k = l.length := by omega
      subst hkl
      have hu0 : unitsF l = 0 := unitsF_good HU.out
      have hf := frame_end hb2 hu0
      have HF := Aside.mk hf
      have CS := Aside.mk (names_any h wr hx.sub _ l (HV0.out) hb2)
      clear hu0 hf HU
      by_cases h40 : 40 < (namesD l).length
      · have h40b : (40 : Int) < ((namesD l).length : Int) := by omega
        have E := Aside.mk (HF.out.trans (if_pos h40))
        go_wp2_with (go_at_call 10; refine CS.out.mono ?_; rintro e w2 ⟨h2, _, rfl, x2, A2, cc2, rfl, hl3, hc3, hsl3⟩)
        go_ret
        exact RChk.of E.out (hx.trans x2)
      · have h40b : ((namesD l).length : Int) ≤ 40 := by omega
        have E := Aside.mk (HF.out.trans (if_neg h40))
        go_wp2_with (go_at_call 10; refine CS.out.mono ?_; rintro e w2 ⟨h2, _, rfl, x2, A2, cc2, rfl, hl3, hc3, hsl3⟩)
        go_ret
        exact RChk.of E.out (hx.trans x2)
end Go.Proofs.YthodbodifkeknaaDoor
