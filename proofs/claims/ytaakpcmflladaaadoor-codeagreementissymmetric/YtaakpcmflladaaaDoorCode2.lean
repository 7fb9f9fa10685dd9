/- code.nodesFault. -/
import Derived.Test.YtaakpcmflladaaaDoorCode1
import Derived.Test.YtaakpcmflladaaaDoorFirstP
set_option linter.all false
namespace Go.Proofs.YtaakpcmflladaaaDoor
open Go.RowKit Hv Go.Proofs
/-- The error of node number i. -/
def nodeF (l : List Node) (i : Nat) : Int :=
  match l[i]? with
  | none => 0
  | some u => if outC u.code 1 999 = true then 1 else if 0 < i ∧ u.code ≤ (match l[i-1]? with | some p => p.code | none => 0) then 7 else if 60 < u.title.size then 2 else if titleB u.title.data.toList = false then 3 else 0
def nodesF (l : List Node) : Int := if l.length = 0 then 9 else if 600 < l.length then 2 else Pl.firstG (nodeF l) l.length 0
theorem nodeF_eq {l : List Node} {i : Nat} (hi : i < l.length) {u : Node} (hu : u = l[i]) {b ob tb : Bool} (hb : b = decide (0 < i ∧ u.code ≤ (match l[i-1]? with | some p => p.code | none => 0))) (ho : ob = outC u.code 1 999) (ht : tb = titleB u.title.data.toList) :
    nodeF l i = (if ob then 1 else if b then 7 else if 60 < u.title.size then 2 else if tb = false then 3 else 0) := by
  unfold nodeF
  rw [List.getElem?_eq_getElem hi, ← hu, hb, ho, ht]
  simp only [decide_eq_true_eq]
def NodesR (w : World) (h : View) (l : List Node) (e : Ending) (w' : World) : Prop := e = .returned (.int .i64 (nodesF l)) ∧ Ext w h w' h
theorem NodesR.of {w w' : World} {h : View} {l : List Node} {n : Int} (hn : nodesF l = n) (x : Ext w h w' h) : NodesR w h l (.returned (.int .i64 n)) w' := ⟨by rw [hn], x⟩
theorem nodesF_at {l : List Node} (h0 : l.length ≠ 0) (hl : ¬ 600 < l.length) {k : Nat} (hk : k < l.length) (hz : ∀ i < k, nodeF l i = 0) (n : Int) (hn : n ≠ 0) (e : nodeF l k = n) : nodesF l = n := by
  unfold nodesF
  rw [if_neg h0, if_neg hl, Pl.firstG_bad hk hz (by rw [e]; exact hn), e]
theorem nodesF_good {l : List Node} (h0 : l.length ≠ 0) (hl : ¬ 600 < l.length) (hz : ∀ i < l.length, nodeF l i = 0) : nodesF l = 0 := by
  unfold nodesF
  rw [if_neg h0, if_neg hl, Pl.firstG_good hz]
set_option maxRecDepth 100000 in
set_option maxHeartbeats 3200000 in
theorem nodes_any (h : View) (w : World) (hs : Sub h w) (v : Value) (l : List Node) (hv : Sl h tNode v l) : Calls Tryd.prog 27 #[v] w (NodesR w h l) := by
  obtain ⟨A, c, rfl, hl1, hl2, hsl⟩ := hv
  have hx := Ext.refl hs
  by_cases h0 : l.length = 0
  · have E := Aside.mk (show nodesF l = 9 by unfold nodesF; rw [if_pos h0])
    go_enter Tryd.func27, Tryd.ntmps27
    go_wp2
    go_ret
    exact NodesR.of E.out hx
  have h0b : ((l.length : Int) == 0) = false := by rw [beq_eq_false_iff_ne]; omega
  by_cases hl : 600 < l.length
  · have E := Aside.mk (show nodesF l = 2 by unfold nodesF; rw [if_neg h0, if_pos hl])
    clear h0
    go_enter Tryd.func27, Tryd.ntmps27
    go_wp2
    go_ret
    exact NodesR.of E.out hx
  have FU := Aside.mk (@nodesF_at l h0 hl)
  have FG := Aside.mk (@nodesF_good l h0 hl)
  clear h0
  go_enter Tryd.func27, Tryd.ntmps27
  go_wp2
  go_loopw [13] (fun i wr => ∃ (k : Nat), k ≤ l.length ∧ i = .int .i64 k ∧ Ext w h wr h ∧ Aside (∀ i < k, nodeF l i = 0)) (fun i _ => l.length - (intOf i).toNat)
  case atStart => exact ⟨0, Nat.zero_le _, rfl, hx, ⟨by simp⟩⟩
  case round =>
    obtain ⟨k, hk, rfl, hx, HU⟩ := hrel
    by_cases hlt : k < l.length
    · obtain ⟨b, off, u, hu, rfl, c0, c1, c2, r1, r2, r3⟩ := node_at hsl hx.sub k hlt
      have HE := Aside.mk hu
      obtain ⟨bk, hbk⟩ : ∃ bk, bk = decide (0 < k ∧ u.code ≤ (match l[k-1]? with | some p => p.code | none => 0)) := ⟨_, rfl⟩
      obtain ⟨ob, hob⟩ : ∃ ob, ob = outC u.code 1 999 := ⟨_, rfl⟩
      obtain ⟨tb, htb⟩ : ∃ tb, tb = titleB u.title.data.toList := ⟨_, rfl⟩
      have HF := Aside.mk (nodeF_eq hlt hu hbk hob htb)
      have HB := Aside.mk hbk
      have HX := Aside.mk (fun (n : Int) (hn : n ≠ 0) (e : nodeF l k = n) => FU.out hlt HU.out n hn e)
      have CT := Aside.mk (fun (W : World) => title_any u.title W r3)
      rw [← htb] at CT
      have CO := Aside.mk (fun (W : World) => outC_any u.code 1 999 W)
      rw [← hob] at CO
      clear hu hbk hob htb
      cases ob
      rotate_left
      · have E := Aside.mk (HX.out 1 (by decide) (by rw [HF.out]; rfl))
        go_wp2_with (go_at_call 22; refine (CO.out _).mono ?_; rintro e w' ⟨rfl, rfl⟩)
        go_ret
        exact NodesR.of E.out (hx.alloc _)
      have HF := Aside.mk (HF.out.trans (if_neg Bool.false_ne_true))
      by_cases hk0 : 0 < k
      case' pos =>
        obtain ⟨b', off', p, hp, hbb, d0, _, _, q1, _⟩ := node_at hsl hx.sub (k - 1) (by omega)
        injection hbb with hbb
        injection hbb with hb1 hb2 _
        subst hb1
        subst hb2
        have hkb : decide ((0 : Int) < (k : Int)) = true := by simp; omega
        have hbk : bk = decide (u.code ≤ p.code) := by
          rw [HB.out, List.getElem?_eq_getElem (by omega : k - 1 < l.length), ← hp]; simp [hk0]
        have HP := Aside.mk hp
        clear hp
        have e1 : IntKind.i64.wrap ((k : Int) - 1) = (k : Int) - 1 := IntWalk.i64_in _ (by omega)
        have e2 : ((k : Int) - 1).toNat = k - 1 := by omega
        have e3 : (0 : Int) ≤ (k : Int) - 1 := by omega
        have e4 : (k : Int) - 1 < (l.length : Int) := by omega
        have e5 : (1 : Int) ≤ (k : Int) := by omega
        have hpleb : decide (u.code ≤ p.code) = bk := hbk.symm
        clear hbk
        go_wp2_with (go_at_call 22; refine (CO.out _).mono ?_; rintro e w' ⟨rfl, rfl⟩)
        refine wp_region_mix (fun W => W.cell? ⟨wr.heap.size, 0, none⟩ = some (.int .i64 u.code) ∧ W.cell? ⟨b, off + (k - 1) * 3, none⟩ = some (.int .i64 p.code)) [] 14 (by kernel_rfl) (by kernel_rfl) (by decide) ⟨by rw [World.cell?_drew]; exact cell_new _ _ _ _ 0, cell_alloc d0 _⟩ ?_
        show wpMix _ _ _ _ _ [0, 1, 2, 3, 4, 5, 6, 7, 8, 9, 10, 11, 12, 13] _ _
        iterate 14
          refine mix_e rfl rfl ?hg ?_
          (case hg => go_simp; done)
          apply Exists.intro
          constructor
          · rintro W ⟨q0, q2⟩
            go_simp
            rfl
          simp only [Act.put, List.setIfInBounds_toArray, List.set_cons_zero, List.set_cons_succ]
        refine mix_nil (wpList_nil (onlyN ?_))
        clear e1 e2 e3 e4 e5
      case' neg =>
        have hkb : decide ((0 : Int) < (k : Int)) = false := by simp; omega
        have hbk : bk = false := by rw [HB.out]; simp [hk0]
        subst hbk
        clear HB
        go_wp2_with (go_at_call 22; refine (CO.out _).mono ?_; rintro e w' ⟨rfl, rfl⟩)
        refine wp_region_mix (fun W => W.cell? ⟨wr.heap.size, 0, none⟩ = some (.int .i64 u.code) ∧ True) [] 14 (by kernel_rfl) (by kernel_rfl) (by decide) ⟨by rw [World.cell?_drew]; exact cell_new _ _ _ _ 0, trivial⟩ ?_
        show wpMix _ _ _ _ _ [0, 1, 2, 3, 4, 5, 6, 7, 8, 9, 10, 11, 12, 13] _ _
        iterate 14
          first
            | (refine mix_skip rfl rfl ?hg ?_
               (case hg => go_simp; done)
               simp only [Act.put, List.setIfInBounds_toArray, List.set_cons_zero, List.set_cons_succ])
            | (refine mix_e rfl rfl ?hg ?_
               (case hg => go_simp; done)
               apply Exists.intro
               constructor
               · rintro W ⟨q0, q2⟩
                 go_simp
                 rfl
               simp only [Act.put, List.setIfInBounds_toArray, List.set_cons_zero, List.set_cons_succ])
        refine mix_nil (wpList_nil (onlyN ?_))
      case' pos =>
        clear HB
        cases bk
        rotate_left
        · have E := Aside.mk (HX.out 7 (by decide) (by rw [HF.out]; rfl))
          go_wp2
          go_ret
          exact NodesR.of E.out (hx.alloc _).drew
      all_goals
        have HF2 := HF.out
        rw [if_neg Bool.false_ne_true] at HF2
        have HF2 := Aside.mk HF2
        by_cases h60 : 60 < u.title.size
        · have E := Aside.mk (HX.out 2 (by decide) (by rw [HF2.out, if_pos h60]))
          go_wp2
          go_ret
          exact NodesR.of E.out (hx.alloc _).drew
        cases tb
        · have E := Aside.mk (HX.out 3 (by decide) (by rw [HF2.out, if_neg h60]; rfl))
          go_wp2_with (go_at_call 36; refine (CT.out _).mono ?_; rintro e w' ⟨rfl, rfl⟩)
          go_ret
          exact NodesR.of E.out (hx.alloc _).drew
        · have E : nodeF l k = 0 := by rw [HF2.out, if_neg h60]; rfl
          have HU2 : Aside (∀ i < k + 1, nodeF l i = 0) := ⟨fun i hi => by
            by_cases e : i = k
            · rw [e]; exact E
            · exact HU.out i (by omega)⟩
          clear E
          go_wp2_with (go_at_call 36; refine (CT.out _).mono ?_; rintro e w' ⟨rfl, rfl⟩)
          go_roundw
          case rel => exact ⟨k + 1, hlt, by simp, (hx.alloc _).drew, HU2⟩
          case measure => simp [intOf] <;> omega
    · have hkl : k = l.length := by omega
      subst hkl
      have E := Aside.mk (FG.out HU.out)
      go_wp2
      go_ret
      exact NodesR.of E.out hx
end Go.Proofs.YtaakpcmflladaaaDoor
