/- sample.layersOf: a frame is checked, and divided into strata. -/
import Derived.Test.YthodbodifkeknaaDoorFrame1
set_option linter.all false
namespace Go.Proofs.YthodbodifkeknaaDoor
open Go.RowKit Hv Go.Proofs
theorem unitF_eq {l : List Unit4} {i : Nat} (hi : i < l.length) {u : Unit4} (hu : u = l[i]) {b : Bool} (hb : b = decide (0 < i ∧ u.id ≤ (match l[i-1]? with | some p => p.id | none => 0))) :
    unitF l i = (if u.id < 1 then 1 else if b then 7 else if nameB u.st.data.toList = false then 5 else if outB u.cl 0 5000 ∨ outB u.size 1 1000000 then 1 else 0) := by
  rw [unitF_at hi, ← hu, hb]
  simp only [decide_eq_true_eq, outB]
  congr 4
  simp only [eq_iff_iff]
  omega
def LayR (w : World) (h : View) (l : List Unit4) (e : Ending) (w' : World) : Prop := ∃ h' r, e = .returned (.tuple #[r, .int .i64 (frameF l)]) ∧ Ext w h w' h' ∧ Sl h' tLayer r (layersR l)
theorem LayR.bad {w w' : World} {h h' : View} {l : List Unit4} {n : Int} (hf : frameF l = n) (hn : n ≠ 0) (x : Ext w h w' h') : LayR w h l (.returned (.tuple #[.slice none 0 0, .int .i64 n])) w' := by
  refine ⟨h', .slice none 0 0, by rw [hf], x, ?_⟩
  unfold layersR; rw [hf, if_neg hn]; exact Sl.nil
theorem LayR.good {w w' : World} {h h' : View} {l : List Unit4} {r : Value} (hf : frameF l = 0) (x : Ext w h w' h') (s : Sl h' tLayer r (layersL l)) : LayR w h l (.returned (.tuple #[r, .int .i64 0])) w' := by
  refine ⟨h', r, by rw [hf], x, ?_⟩
  unfold layersR; rw [if_pos hf]; exact s
theorem frame_unit {l : List Unit4} (hl : l.length ≤ 5000) {n : Int} (h : unitsF l = n) (hn : n ≠ 0) : frameF l = n := by
  unfold frameF; rw [if_neg (by omega), h, if_pos hn]
theorem layersL_len (l : List Unit4) : (layersL l).length = (namesD l).length := by simp [layersL]
set_option maxRecDepth 100000 in
set_option maxHeartbeats 3200000 in
theorem layers_ok (HK : KeysS) (HS : SortedS) (HL : LayerOfS) (h : View) (w : World) (hs : Sub h w) (v : Value) (l : List Unit4) (hv : Sl h tUnit v l) (hb : l.length ≤ 5000) :
    Calls Tryd.prog 9 #[v] w (LayR w h l) := by
  obtain ⟨A, c, rfl, hl1, hl2, hsl⟩ := hv
  have hx := Ext.refl hs
  have hmm := @run_makeMap Tryd.prog
  have hb' : ¬ 5000 < (l.length : Int) := by omega
  have FU := Aside.mk (@frame_unit l hb)
  go_enter Tryd.func9, Tryd.ntmps9
  go_wp2
  go_loopw [3, 5, 6, 16] (fun _ _ u i wr => ∃ (k : Nat) (m : List (ByteArray × Value)), k ≤ l.length ∧ i = .int .i64 k ∧ Ext w h wr h ∧ MapIs Ks wr w.heap.size m ∧ Grp wr h w.heap.size m (l.take k) ∧ Aside (∀ i < k, unitF l i = 0)) (fun _ _ _ i _ => l.length - (intOf i).toNat)
  case atStart => exact ⟨0, [], Nat.zero_le _, rfl, hx.alloc _, MapIs.new _ _, ⟨by simp, by simp, by simp⟩, ⟨by simp⟩⟩
  case round =>
    obtain ⟨k, m, hk, rfl, hx, hm, hg, HU⟩ := hrel
    by_cases hlt : k < l.length
    · obtain ⟨b, off, u, hu, rfl, c0, c1, c2, c3, r1, r2, r3, r4⟩ := unit_at hsl hx.sub k hlt
      have HE := Aside.mk hu
      obtain ⟨bk, hbk⟩ : ∃ bk, bk = decide (0 < k ∧ u.id ≤ (match l[k-1]? with | some p => p.id | none => 0)) := ⟨_, rfl⟩
      have HF := Aside.mk (unitF_eq hlt hu hbk)
      have HB := Aside.mk hbk
      have HX := Aside.mk (fun (n : Int) (hn : n ≠ 0) (e : unitF l k = n) => FU.out ((unitsF_bad hlt HU.out (by rw [e]; exact hn)).trans e) hn)
      clear hu hbk
      obtain ⟨r1a, r1b⟩ := r1
      by_cases h1 : u.id < 1
      · have e := HX.out 1 (by decide) (by rw [HF.out, if_pos h1])
        have E := Aside.mk e
        clear e
        go_wp2
        go_ret2
        exact LayR.bad E.out (by decide) (hx.alloc _)
      have HF := Aside.mk (HF.out.trans (if_neg h1))
      obtain ⟨nm, hnm⟩ : ∃ nm, nm = nameB u.st.data.toList := ⟨_, rfl⟩
      obtain ⟨ob1, hob1⟩ : ∃ ob1, outB u.cl 0 5000 = ob1 := ⟨_, rfl⟩
      obtain ⟨ob2, hob2⟩ : ∃ ob2, outB u.size 1 1000000 = ob2 := ⟨_, rfl⟩
      have CN := fun W => name_any u.st W r2
      rw [← hnm] at CN
      rw [← hnm, hob1, hob2] at HF
      have CN := Aside.mk CN
      clear hnm
      have hbx : wr.heap.size < (wr.alloc (.cells #[.int .i64 u.id, .string u.st, .int .i64 u.cl, .int .i64 u.size] 45)).heap.size := by simp
      by_cases hk0 : 0 < k
      case' pos =>
        obtain ⟨b', off', p, hp, hbb, d0, _, _, _, q1, _⟩ := unit_at hsl hx.sub (k - 1) (by omega)
        injection hbb with hbb
        injection hbb with hb1 hb2 _
        subst hb1
        subst hb2
        have hkb : decide ((0 : Int) < (k : Int)) = true := by simp; omega
        have hbk : bk = decide (u.id ≤ p.id) := by
          rw [HB.out, List.getElem?_eq_getElem (by omega : k - 1 < l.length), ← hp]; simp [hk0]
        have HP := Aside.mk hp
        clear hp
        have e1 : IntKind.i64.wrap ((k : Int) - 1) = (k : Int) - 1 := IntWalk.i64_in _ (by omega)
        have e2 : ((k : Int) - 1).toNat = k - 1 := by omega
        have e3 : (0 : Int) ≤ (k : Int) - 1 := by omega
        have e4 : (k : Int) - 1 < (l.length : Int) := by omega
        have e5 : (1 : Int) ≤ (k : Int) := by omega
        have hpleb : decide (u.id ≤ p.id) = bk := hbk.symm
        clear hbk
        go_wp2_with fail
        refine wp_region_mix (fun W => W.cell? ⟨wr.heap.size, 0, none⟩ = some (.int .i64 u.id) ∧ W.cell? ⟨b, off + (k - 1) * 4, none⟩ = some (.int .i64 p.id)) [] 14 (by kernel_rfl) (by kernel_rfl) (by decide) ⟨by rw [World.cell?_drew]; exact cell_new _ _ _ _ 0, cell_alloc d0 _⟩ ?_
        show wpMix _ _ _ _ _ [0, 1, 2, 3, 4, 5, 6, 7, 8, 9, 10, 11, 12, 13] _ _
        iterate 14
          refine mix_e rfl rfl ?hg ?_
          (case hg => go_simp; done)
          apply Exists.intro
          constructor
          · rintro W ⟨q0, q2⟩
            go_simp
            rfl
          simp only [Act.put, List.setIfInBounds_toArray, List.set_cons_zero, List.set_cons_succ]
        refine mix_nil (wpList_nil (onlyN ?_))
        clear e1 e2 e3 e4 e5
      case' neg =>
        have hkb : decide ((0 : Int) < (k : Int)) = false := by simp; omega
        have hbk : bk = false := by rw [HB.out]; simp [hk0]
        subst hbk
        clear HB
        go_wp2_with fail
        refine wp_region_mix (fun W => W.cell? ⟨wr.heap.size, 0, none⟩ = some (.int .i64 u.id) ∧ True) [] 14 (by kernel_rfl) (by kernel_rfl) (by decide) ⟨by rw [World.cell?_drew]; exact cell_new _ _ _ _ 0, trivial⟩ ?_
        show wpMix _ _ _ _ _ [0, 1, 2, 3, 4, 5, 6, 7, 8, 9, 10, 11, 12, 13] _ _
        iterate 14
          first
            | (refine mix_skip rfl rfl ?hg ?_
               (case hg => go_simp; done)
               simp only [Act.put, List.setIfInBounds_toArray, List.set_cons_zero, List.set_cons_succ])
            | (refine mix_e rfl rfl ?hg ?_
               (case hg => go_simp; done)
               apply Exists.intro
               constructor
               · rintro W ⟨q0, q2⟩
                 go_simp
                 rfl
               simp only [Act.put, List.setIfInBounds_toArray, List.set_cons_zero, List.set_cons_succ])
        refine mix_nil (wpList_nil (onlyN ?_))
      case' pos =>
        clear HB
        cases bk
        rotate_left
        · have E := Aside.mk (HX.out 7 (by decide) (by rw [HF.out]; rfl))
          go_wp2
          go_ret2
          exact LayR.bad E.out (by decide) (hx.alloc _).drew
      all_goals
        have HF2 := HF.out
        rw [if_neg Bool.false_ne_true] at HF2
        cases nm
        · have E := Aside.mk (HX.out 5 (by decide) (by rw [HF2]; rfl))
          clear HF2
          go_wp2_with (go_at_call 16; refine (CN.out _).mono ?_; rintro e w' ⟨rfl, rfl⟩)
          go_ret2
          exact LayR.bad E.out (by decide) (hx.alloc _).drew
        cases ob1
        rotate_left
        · have E := Aside.mk (HX.out 1 (by decide) (by rw [HF2]; rfl))
          clear HF2
          go_wp2_with (first | (go_at_call 16; refine (CN.out _).mono ?_; rintro e w' ⟨rfl, rfl⟩) | (go_at_call 17; refine (outside_any _ _ _ _).mono ?_; rintro e w' ⟨rfl, rfl⟩))
          go_ret2
          exact LayR.bad E.out (by decide) (hx.alloc _).drew
        cases ob2
        rotate_left
        · have E := Aside.mk (HX.out 1 (by decide) (by rw [HF2]; rfl))
          clear HF2
          go_wp2_with (first | (go_at_call 16; refine (CN.out _).mono ?_; rintro e w' ⟨rfl, rfl⟩) | (go_at_call 17; refine (outside_any _ _ _ _).mono ?_; rintro e w' ⟨rfl, rfl⟩))
          go_ret2
          exact LayR.bad E.out (by decide) (hx.alloc _).drew
        have E := Aside.mk (HF2.trans (by rfl) : unitF l k = 0)
        clear HF2
        go_wp2_with (first | (go_at_call 16; refine (CN.out _).mono ?_; rintro e w' ⟨rfl, rfl⟩) | (go_at_call 17; refine (outside_any _ _ _ _).mono ?_; rintro e w' ⟨rfl, rfl⟩))
        have hnn := hm.nodup
        have hltm : w.heap.size < wr.heap.size := hm.lt
        obtain ⟨v0, hv0⟩ : ∃ v0, v0 = (lk m u.st).getD (.slice none 0 0) := ⟨_, rfl⟩
        have hv0lt : ∀ g, v0.ownBlock = some g → g < wr.heap.size := by rw [hv0]; exact fun g e => ((hg.now u.st).lt g e).2
        have F : Ext w h (wr.alloc (.cells #[.int .i64 u.id, .string u.st, .int .i64 u.cl, .int .i64 u.size] 45)).drew h ∧ Grp (wr.alloc (.cells #[.int .i64 u.id, .string u.st, .int .i64 u.cl, .int .i64 u.size] 45)).drew h w.heap.size m (l.take k) ∧ MapIs Ks (wr.alloc (.cells #[.int .i64 u.id, .string u.st, .int .i64 u.cl, .int .i64 u.size] 45)).drew w.heap.size m ∧ (∀ j, (wr.alloc (.cells #[.int .i64 u.id, .string u.st, .int .i64 u.cl, .int .i64 u.size] 45)).drew.cell? ⟨wr.heap.size, j, none⟩ = #[Value.int .i64 u.id, .string u.st, .int .i64 u.cl, .int .i64 u.size][j]?) ∧ wr.heap.size < (wr.alloc (.cells #[.int .i64 u.id, .string u.st, .int .i64 u.cl, .int .i64 u.size] 45)).drew.heap.size :=
          ⟨(hx.alloc _).drew, hg.block (fun p hp g e => Below.heap_alloc wr _ g ((hg.own p hp).lt g e).2), (hm.alloc _).drew, fun j => cell_new _ _ _ _ j, hbx⟩
        clear hg hm hbx c0 c1 c2 c3
        revert F
        generalize (wr.alloc (.cells #[.int .i64 u.id, .string u.st, .int .i64 u.cl, .int .i64 u.size] 45)).drew = W0
        rintro ⟨hx0, hg0, hm0, hc0, hW0⟩
        have b0 := hc0 0
        have b1 := hc0 1
        have b2 := hc0 2
        have b3 := hc0 3
        clear hc0
        have hlk := fun (W : World) (hW : MapIs Ks W w.heap.size m) => (show (Instr.lookup 47 (.map (some w.heap.size)) (.string u.st) false).run Tryd.prog W = .ok v0 W by rw [hv0]; exact run_look hW Tryd.underlying47 (zeroUnits W) (x := u.st) r2 false)
        have HV := Aside.mk hv0
        clear hv0
        refine wp_region_mix (fun W => W.cell? ⟨wr.heap.size, 0, none⟩ = some (.int .i64 u.id) ∧ W.cell? ⟨wr.heap.size, 1, none⟩ = some (.string u.st) ∧ W.cell? ⟨wr.heap.size, 2, none⟩ = some (.int .i64 u.cl) ∧ W.cell? ⟨wr.heap.size, 3, none⟩ = some (.int .i64 u.size) ∧ MapIs Ks W w.heap.size m) [8, 9] 10 (by kernel_rfl) (by kernel_rfl) (by decide) ⟨b0, b1, b2, b3, hm0.drew⟩ ?_
        show wpMix _ _ _ _ _ [0, 1, 2, 3, 4, 5, 6, 7, 8, 9] _ _
        iterate 8
          refine mix_e rfl rfl rfl ?_
          apply Exists.intro
          constructor
          · rintro W ⟨e0, e1, e2, e3, e4⟩
            have e5 := hlk W e4
            go_simp
            rfl
          simp only [Act.put, List.setIfInBounds_toArray, List.set_cons_zero, List.set_cons_succ]
        refine mix_w rfl rfl rfl ?_
        go_wp2
        refine ⟨rfl, ⟨cell_alloc b0 _, cell_alloc b1 _, cell_alloc b2 _, cell_alloc b3 _, hm0.drew.alloc _⟩, ?_⟩
        refine mix_w rfl rfl rfl ?_
        have ho : Own W0 h w.heap.size 45 tUnit v0 (ofB (l.take k) u.st) := by rw [HV.out]; exact hg0.now u.st
        have hlen : (ofB (l.take k) u.st).length ≤ l.length := Nat.le_trans (ofB_le _ _) (by rw [List.length_take]; omega)
        refine wpList_app1 (t := tUnit) slUnit (by decide) rfl rfl ho.drew hx0.sub.drew rfl u rfl rfl (tUnit_mk ⟨r1a, r1b⟩ r2 r3 r4) (by omega) (by omega) (by have := hx0.ge; simp; omega) ?_
        intro v' w1 ho' hgr hs' hnew
        have hrow : ∀ {g : Nat}, g = wr.heap.size → v0.ownBlock ≠ some g := fun {g} e e2 => by have := hv0lt g e2; omega
        have hm1 : MapIs Ks w1 w.heap.size m := (hm0.drew.alloc _).grown hgr (own_not_map ho hm0)
        have q0 := cell_grown (cell_alloc (cell_drew b0) _) hgr (hrow rfl)
        have q1 := cell_grown (cell_alloc (cell_drew b1) _) hgr (hrow rfl)
        have q2 := cell_grown (cell_alloc (cell_drew b2) _) hgr (hrow rfl)
        have q3 := cell_grown (cell_alloc (cell_drew b3) _) hgr (hrow rfl)
        refine wpList_nil (onlyN ⟨rfl, ⟨q0, q1, q2, q3, hm1⟩, ?_⟩)
        refine mix_nil ?_
        show wpList _ _ _ [_] _ _
        refine wpList_put hm1 Tryd.underlying47 (x := u.st) r2 rfl rfl rfl rfl rfl ?_
        intro w2 hm2 hg2 hsz2
        refine wpList_nil (onlyN ?_)
        have hx2 : Ext w h w2 h := by
          have hxa : Ext w h w1 h := (hx0.drew.alloc _).grown hgr fun g e => ⟨(ho.lt g e).1, ho.2 g e⟩
          exact hxa.grown hg2 fun g e => by cases e; exact ⟨Nat.le_refl _, hs.none_ge (Nat.le_refl _)⟩
        have hgN : Grp w2 h w.heap.size (mput m u.st v') (l.take (k + 1)) := by
          rw [take_snoc l k hlt, ← HE.out]
          rw [HV.out] at hgr hnew
          exact (show Grp W0.drew h w.heap.size m (l.take k) from hg0.block fun p hp g e => rfl).step hm0.drew hnn ho' hgr hnew hm1 hg2
        have HU2 : Aside (∀ i < k + 1, unitF l i = 0) := ⟨fun i hi => by
          by_cases e : i = k
          · rw [e]; exact E.out
          · exact HU.out i (by omega)⟩
        clear hlk ho ho' hnew hgr hg2 q0 q1 q2 q3 b0 b1 b2 b3 hm1 hm0 hg0 hx0 hv0lt hrow
        simp only [Act.put, List.setIfInBounds_toArray, List.set_cons_zero, List.set_cons_succ]
        go_wp2
        go_roundw
        case rel => exact ⟨k + 1, _, hlt, by simp <;> omega, hx2, hm2, hgN, HU2⟩
        case measure => simp [intOf]; omega
    · have hkl : k = l.length := by omega
      subst hkl
      rw [List.take_length] at hg
      have hu0 : unitsF l = 0 := unitsF_good HU.out
      have hnn := hm.nodup
      have hcnt := hg.count hnn
      have hnames := hg.names hnn
      have hok := ok_of_units hu0
      have hmem : ∀ n ∈ namesD l, ∃ v, (n, v) ∈ m := by
        intro n hn
        rw [← hnames] at hn
        obtain ⟨p, hp, rfl⟩ := List.mem_map.1 ((List.mergeSort_perm _ _).mem_iff.1 hn)
        exact ⟨p.2, hp⟩
      have hf : frameF l = if 40 < m.length then 2 else 0 := by unfold frameF; rw [if_neg (by omega), hu0, hcnt]; rfl
      obtain ⟨h2, hx2, hle2, hpub⟩ := hg.publish hx hnn
      have HM := Aside.mk hmem
      have HP := Aside.mk hpub
      have HOK := Aside.mk hok
      have CS := Aside.mk (HS h2 wr w.heap.size m hx2.sub hm)
      rw [hnames] at CS
      have HF := Aside.mk hf
      have HC := Aside.mk hcnt
      clear hg hu0 hcnt hnames hmem hf HU hpub hok
      have hesl := run_mlen hm Tryd.underlying47 3
      by_cases h40 : 40 < m.length
      · have h40b : (40 : Int) < (m.length : Int) := by omega
        have E := Aside.mk (HF.out.trans (if_pos h40))
        go_wp2
        go_ret2
        exact LayR.bad E.out (by decide) hx
      have h40b : (m.length : Int) ≤ 40 := by omega
      have E := Aside.mk (HF.out.trans (if_neg h40))
      have hnl : (namesD l).length ≤ 40 := by rw [← HC.out]; omega
      go_wp2_with (first | (go_at_call 19; refine (HK _ _).mono ?_; rintro e w' ⟨rfl, rfl⟩) | (go_at_call 18; refine (CS.out (by omega)).mono ?_; rintro e w' ⟨h3, _, rfl, hx3, A3, cc3, rfl, hl3, hc3, hsl3⟩))
      have x3 : Ext w h _ h3 := (hx2.alloc _).trans hx3
      have hm3 : MapIs Ks _ w.heap.size m := (hm.alloc _).below hx3.below
      clear hx2 hx hm hesl
      go_loopw [7, 9, 71] (fun out _ i wr => ∃ (j : Nat) (h' : View), j ≤ (namesD l).length ∧ i = .int .i64 j ∧ Ext w h wr h' ∧ View.le h3 h' ∧ MapIs Ks wr w.heap.size m ∧ Own wr h' w.heap.size 37 tLayer out ((layersL l).take j)) (fun _ _ i _ => (namesD l).length - (intOf i).toNat)
      case atStart => exact ⟨0, h3, Nat.zero_le _, rfl, x3, View.le.refl _, hm3, Own.nil⟩
      case round =>
        obtain ⟨j, h', hj, rfl, x, hle', hm, ho⟩ := hrel
        by_cases hlt : j < (namesD l).length
        · obtain ⟨n, hn⟩ : ∃ n, n = (namesD l)[j] := ⟨_, rfl⟩
          obtain ⟨b, off, ds, rfl, hK, hc⟩ := (hsl3.mono hle').at_ j hlt
          rw [← hn] at hK
          obtain ⟨rfl, hns⟩ := hK
          have c0 := x.sub.cell (hc 0 _ rfl)
          simp only [show tStr.sz = 1 from rfl, Nat.add_zero, Nat.mul_one] at c0
          obtain ⟨v, hv⟩ := HM.out n (by rw [hn]; exact List.getElem_mem _)
          have hsv := ((HP.out _ hv).mono hx3.le).mono hle'
          have hlk : (Instr.lookup 47 (.map (some w.heap.size)) (.string n) false).run Tryd.prog wr = .ok v wr := by
            have := run_look hm Tryd.underlying47 (zeroUnits wr) (x := n) hns false
            rw [lk_of_mem hnn hv] at this; exact this
          have CL := Aside.mk (HL h' wr n v (ofB l n) x.sub hsv hns (Nat.le_trans (ofB_le _ _) hb) (fun u hu => HOK.out u ((List.mem_filter.1 hu).1)))
          have HN := Aside.mk hn
          have hlen : ((layersL l).take j).length ≤ 40 := by rw [List.length_take]; omega
          have hsnoc := Aside.mk (take_snoc (layersL l) j (by rw [layersL_len]; exact hlt))
          rw [show (layersL l)[j]'(by rw [layersL_len]; exact hlt) = layerL n (ofB l n) by rw [hn]; simp [layersL]] at hsnoc
          clear hn hc hv hsv
          go_wp2_with (first | (go_at_call 20; refine CL.out.mono ?_; rintro e w' ⟨h4, v1, v2, rfl, x4, K4⟩) | (at_builtin; refine wpList_app1 (t := tLayer) slLayer (by decide) rfl rfl (ho.ext x4) x4.sub rfl (layerL n (ofB l n)) rfl rfl K4 (by omega) (by omega) (by have := x.ge; have := x4.ge; omega) ?_; intro v' w2 ho' hg hs' hnew))
          have x5 : Ext w h w2 h4 := ((x.trans x4).alloc _).grown hg fun g e => ⟨((ho.ext x4).lt g e).1, (ho.ext x4).2 g e⟩
          have hm5 : MapIs Ks w2 w.heap.size m := ((hm.below x4.below).alloc _).grown hg (own_not_map ho hm)
          clear hg hs' hnew hlk
          go_roundw
          case rel => exact ⟨j + 1, h4, hlt, by simp <;> omega, x5, hle'.trans x4.le, hm5, by rw [hsnoc.out]; exact ho'⟩
          case measure => simp [intOf]; omega
        · have hjl : (layersL l).take j = layersL l := List.take_of_length_le (by rw [layersL_len]; omega)
          rw [hjl] at ho
          obtain ⟨h5, x5, _, s5, _⟩ := ho.publish x (Nat.le_refl _)
          have S5 := Aside.mk s5
          have X5 := Aside.mk x5
          clear ho x5 s5 hjl
          go_wp2
          go_ret2
          exact LayR.good E.out X5.out S5.out
end Go.Proofs.YthodbodifkeknaaDoor
