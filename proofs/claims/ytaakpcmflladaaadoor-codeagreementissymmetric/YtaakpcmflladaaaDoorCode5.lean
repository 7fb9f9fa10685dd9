/- code.cases. -/
import Derived.Test.YtaakpcmflladaaaDoorCode4
import Derived.Test.YtaakpcmflladaaaDoorRowz
set_option linter.all false
namespace Go.Proofs.YtaakpcmflladaaaDoor
open Go.RowKit Hv Go.Proofs
theorem slRow : SlT Tryd.prog 68 23 1 24 := SlT.of Tryd.underlying68 (by kernel_rfl)
theorem slCod : SlT Tryd.prog 23 71 3 24 := SlT.of Tryd.underlying23 (by kernel_rfl)
def newC (cs : List Cod) (k : Nat) (u : Cod) : Bool := decide (k = 0) || (match cs[k-1]? with | some p => (u.cas != p.cas) | none => true)
def addLast (gs : List (List Cod)) (u : Cod) : List (List Cod) := gs.dropLast ++ [gs.getLastD [] ++ [u]]
theorem addLast_eq (A : List (List Cod)) (x : List Cod) (u : Cod) : addLast (A ++ [x]) u = A ++ [x ++ [u]] := by
  unfold addLast
  rw [List.dropLast_concat, List.getLastD_concat]
/-- The codings of each case, of the first k codings. -/
def grp (cs : List Cod) : Nat → List (List Cod)
  | 0 => []
  | k + 1 => match cs[k]? with
    | none => grp cs k
    | some u => addLast (if newC cs k u then grp cs k ++ [[]] else grp cs k) u
theorem grp_new {cs : List Cod} {k : Nat} (hk : k < cs.length) {u : Cod} (hu : u = cs[k]) (hn : newC cs k u = true) : grp cs (k + 1) = grp cs k ++ [[] ++ [u]] := by
  rw [grp, List.getElem?_eq_getElem hk]
  simp only []
  rw [← hu, hn, if_pos rfl, addLast_eq]
theorem grp_old {cs : List Cod} {k : Nat} (hk : k < cs.length) {u : Cod} (hu : u = cs[k]) (hn : newC cs k u = false) {A : List (List Cod)} {x : List Cod} (hA : grp cs k = A ++ [x]) : grp cs (k + 1) = A ++ [x ++ [u]] := by
  rw [grp, List.getElem?_eq_getElem hk]
  simp only []
  rw [← hu, hn, if_neg Bool.false_ne_true, hA, addLast_eq]
theorem split_last {α : Type} (L : List α) (h : 0 < L.length) : ∃ L0 x, L = L0 ++ [x] := by
  exact ⟨L.dropLast, L.getLast (by intro e; rw [e] at h; simp at h), (List.dropLast_concat_getLast _).symm⟩
set_option maxRecDepth 100000 in
set_option maxHeartbeats 3200000 in
theorem cases_any (h : View) (w : World) (hs : Sub h w) (v : Value) (cs : List Cod) (hv : Sl h tCod v cs) (hl : cs.length ≤ 20000) :
    Calls Tryd.prog 23 #[v] w fun e w' => ∃ h' V, e = .returned V ∧ Ext w h w' h' ∧ Sl h' (tSl tCod) V (grp cs cs.length) := by
  obtain ⟨A, c, rfl, hl1, hl2, hsl⟩ := hv
  have hx := Ext.refl hs
  go_enter Tryd.func23, Tryd.ntmps23
  go_wp2
  go_loopw [3, 8] (fun V i wr => ∃ (k : Nat) (L : List (List Cod × Value)), k ≤ cs.length ∧ i = .int .i64 k ∧ Ext w h wr h ∧ Rowz wr h w.heap.size 23 71 tCod V L ∧ Aside (L.map (·.1) = grp cs k) ∧ L.length ≤ k ∧ (0 < k → 0 < L.length) ∧ Aside (∀ p ∈ L, p.1.length ≤ k)) (fun _ i _ => cs.length - (intOf i).toNat)
  case atStart => exact ⟨0, [], Nat.zero_le _, rfl, hx, Rowz.nil, ⟨rfl⟩, Nat.le_refl _, by omega, ⟨by simp⟩⟩
  case round =>
    obtain ⟨k, L, hk, rfl, hx, hr, HG, hL, hL0, HP⟩ := hrel
    by_cases hlt : k < cs.length
    · obtain ⟨b, off, u, hu, rfl, c0, c1, c2, r1, r2, r3⟩ := cod_at hsl hx.sub k hlt
      have HN := Aside.mk (fun hn => grp_new hlt hu hn)
      have HO := Aside.mk (fun hn => @grp_old cs k hlt u hu hn)
      have HU := Aside.mk hu
      clear hu
      have HR0 : Aside (∀ p ∈ L, ∀ g, p.2.ownBlock = some g → g < wr.heap.size) := ⟨fun p hp g hg => ((hr.ins p hp).lt g hg).2⟩
      have hx := hx.alloc (.cells #[.int .i64 u.cas, .int .i64 u.coder, .int .i64 u.code] 71 (0, 0))
      have hr := hr.alloc (.cells #[.int .i64 u.cas, .int .i64 u.coder, .int .i64 u.code] 71 (0, 0))
      have hb := BoxAt.new wr #[.int .i64 u.cas, .int .i64 u.coder, .int .i64 u.code] 71
      obtain ⟨nb, hnb⟩ : ∃ nb, nb = newC cs k u := ⟨_, rfl⟩
      by_cases hk0 : k = 0
      case' pos =>
        have hcn : Aside (newC cs k u = true) := ⟨by unfold newC; rw [hk0]; rfl⟩
        have ek : ((k : Int) == 0) = true := by rw [hk0]; rfl
        clear hnb hk0
        go_wp2
        refine wp_region_mix (fun W => W.cell? ⟨wr.heap.size, 0, none⟩ = some (.int .i64 u.cas) ∧ True) [] 13 (by kernel_rfl) (by kernel_rfl) (by decide) ⟨by rw [World.cell?_drew]; exact cell_new _ _ _ _ 0, trivial⟩ ?_
        show wpMix _ _ _ _ _ [0, 1, 2, 3, 4, 5, 6, 7, 8, 9, 10, 11, 12] _ _
        iterate 13
          first
            | (refine mix_skip rfl rfl ?hg ?_
               (case hg => go_simp; done)
               simp only [Act.put, List.setIfInBounds_toArray, List.set_cons_zero, List.set_cons_succ])
            | (refine mix_e rfl rfl ?hg ?_
               (case hg => go_simp; done)
               apply Exists.intro
               constructor
               · rintro W ⟨q0, q2⟩
                 go_simp
                 rfl
               simp only [Act.put, List.setIfInBounds_toArray, List.set_cons_zero, List.set_cons_succ])
        refine mix_nil (wpList_nil (onlyN ?_))
      case' neg =>
        obtain ⟨b', off', p, hp, hbb, d0, d1, d2, q1, q2, q3⟩ := cod_at hsl (hx.sub) (k - 1) (by omega)
        injection hbb with hbb
        injection hbb with hb1 hb2 _
        subst hb1
        subst hb2
        have hcn := Aside.mk hnb.symm
        have hnb2 : (u.cas != p.cas) = nb := by
          rw [hnb]; unfold newC
          rw [List.getElem?_eq_getElem (by omega : k - 1 < cs.length), ← hp]
          simp [hk0]
        clear hnb
        have ek : ((k : Int) == 0) = false := by rw [beq_eq_false_iff_ne]; omega
        have e1 : IntKind.i64.wrap ((k : Int) - 1) = (k : Int) - 1 := IntWalk.i64_in _ (by omega)
        have e2 : ((k : Int) - 1).toNat = k - 1 := by omega
        have e3 : (0 : Int) ≤ (k : Int) - 1 := by omega
        have e4 : (k : Int) - 1 < (cs.length : Int) := by omega
        have e5 : (1 : Int) ≤ (k : Int) := by omega
        clear hp
        go_wp2
        refine wp_region_mix (fun W => W.cell? ⟨wr.heap.size, 0, none⟩ = some (.int .i64 u.cas) ∧ W.cell? ⟨b, off + (k - 1) * 3, none⟩ = some (.int .i64 p.cas)) [] 13 (by kernel_rfl) (by kernel_rfl) (by decide) ⟨by rw [World.cell?_drew]; exact cell_new _ _ _ _ 0, d0⟩ ?_
        show wpMix _ _ _ _ _ [0, 1, 2, 3, 4, 5, 6, 7, 8, 9, 10, 11, 12] _ _
        iterate 13
          refine mix_e rfl rfl ?hg ?_
          (case hg => go_simp; done)
          apply Exists.intro
          constructor
          · rintro W ⟨q0, q2⟩
            go_simp
            rfl
          simp only [Act.put, List.setIfInBounds_toArray, List.set_cons_zero, List.set_cons_succ]
        refine mix_nil (wpList_nil (onlyN ?_))
        clear e1 e2 e3 e4 e5 d0 d1 d2 ek
        cases nb
      case' pos | true =>
        have hL7 : L.length ≤ k := hL
        go_wp2_with (at_builtin; go_loud (refine wpList_app1 (t := tRaw) slRow (by decide) rfl rfl hr.drew.own hx.sub.drew rfl (.slice none 0 0) rfl (by simp) ⟨rfl, rfl⟩ (by rw [List.length_map]; omega) (by rw [List.length_map]; omega) (by simp; have := hx.ge; simp at this; omega) ?_); intro V7 W7 ho7 hg7 hs7 hn7)
        have hx7 : Ext w h W7 h := (hx.drew.alloc _).grown hg7 fun g e => ⟨(hr.own.lt g e).1, hr.own.out g e⟩
        have hb7 := (hb.drew.alloc _).grown hg7 (hr.own.ne_box hb (by decide))
        have hr7 := hr.drew.more (by decide) ho7 hg7
        have HP7 : Aside (∀ p ∈ L ++ [(([] : List Cod), Value.slice none 0 0)], p.1.length ≤ k) := ⟨fun p hp => by
          rcases List.mem_append.1 hp with hp | hp
          · exact HP.out p hp
          · obtain rfl := List.mem_singleton.1 hp
            exact Nat.zero_le _⟩
        obtain ⟨L7, hL8⟩ : ∃ L7, L7 = L := ⟨_, rfl⟩
        obtain ⟨x7, hx8⟩ : ∃ x7 : List Cod, x7 = [] := ⟨_, rfl⟩
        have HG7 : Aside ((L7.map (·.1)) ++ [x7 ++ [u]] = grp cs (k + 1)) := ⟨by rw [hx8, hL8, HN.out hcn.out, HG.out]⟩
        rw [← hL8] at hr7 hL7 HP7
        rw [← hx8] at hr7 HP7
        clear ho7 hg7 hs7 hn7 HN HO HG
        obtain ⟨v7, hv8⟩ : ∃ v7, v7 = Value.slice none 0 0 := ⟨_, rfl⟩
        rw [← hv8] at hr7 HP7
        have HB7 : Aside (v7.ownBlock ≠ some wr.heap.size) := ⟨by rw [hv8]; simp [Value.ownBlock]⟩
        clear HR0 hL8 hx8 hv8 hr hx hb hcn hL hL0 HP
      case' false =>
        have hL1 := hL0 (by omega)
        obtain ⟨L7, ⟨x7, v7⟩, hLL⟩ := split_last L hL1
        subst hLL
        have HG7 : Aside ((L7.map (·.1)) ++ [x7 ++ [u]] = grp cs (k + 1)) := ⟨by
          have e := HG.out
          rw [List.map_append] at e
          exact (HO.out hcn.out e.symm).symm⟩
        have hL7 : L7.length ≤ k := by rw [List.length_append] at hL; omega
        have hx7 := hx.drew
        have hb7 := hb.drew
        have hr7 := hr.drew
        have HP7 := HP
        have HB7 : Aside (v7.ownBlock ≠ some wr.heap.size) := ⟨fun e => by have := HR0.out (x7, v7) (by simp) _ e; omega⟩
        clear HR0 HN HO HG hr hx hb hcn hL hL0 HP hL1
        go_wp2
        revert hx7 hr7 hb7
        generalize (wr.alloc (.cells #[.int .i64 u.cas, .int .i64 u.coder, .int .i64 u.code] 71 (0, 0))).drew = W7
        intro hx7 hb7 hr7
      all_goals
        have hbl7 := hb7.lt
        have hxl7 : x7.length ≤ k := HP7.out (x7, v7) (by simp)
        have HP8 : Aside (∀ p ∈ L7, p.1.length ≤ k + 1) := ⟨fun p hp => Nat.le_succ_of_le (HP7.out p (List.mem_append_left _ hp))⟩
        clear HP7
        obtain ⟨g, cap, m, j, rfl, hj, hm, hbg, hgl, hhg, hcg, hbox⟩ := hr7.top
        have HJ := Aside.mk hj
        have b0 : W7.cell? ⟨wr.heap.size, 0, none⟩ = some (.int .i64 u.cas) := hb7.cell 0
        have b1 : W7.cell? ⟨wr.heap.size, 1, none⟩ = some (.int .i64 u.coder) := hb7.cell 1
        have b2 : W7.cell? ⟨wr.heap.size, 2, none⟩ = some (.int .i64 u.code) := hb7.cell 2
        have e1 : IntKind.i64.wrap ((m : Int) - 1) = (m : Int) - 1 := IntWalk.i64_in _ (by omega)
        have e2 : ((m : Int) - 1).toNat = j := by omega
        have e3 : (0 : Int) ≤ (m : Int) - 1 := by omega
        have e4 : (m : Int) - 1 < (m : Int) := by omega
        have e5 : (1 : Int) ≤ (m : Int) := by omega
        clear hj hm
        refine wp_region_mix (fun W => W.cell? ⟨wr.heap.size, 0, none⟩ = some (.int .i64 u.cas) ∧ W.cell? ⟨wr.heap.size, 1, none⟩ = some (.int .i64 u.coder) ∧ W.cell? ⟨wr.heap.size, 2, none⟩ = some (.int .i64 u.code) ∧ W.cell? ⟨g, j, none⟩ = some v7) [11, 12] 14 (by kernel_rfl) (by kernel_rfl) (by decide) ⟨b0, b1, b2, hcg⟩ ?_
        show wpMix _ _ _ _ _ [0, 1, 2, 3, 4, 5, 6, 7, 8, 9, 10, 11, 12, 13] _ _
        iterate 11
          refine mix_e rfl rfl rfl ?_
          apply Exists.intro
          constructor
          · rintro W ⟨q0, q1, q2, q3⟩
            go_simp
            rfl
          simp only [Act.put, List.setIfInBounds_toArray, List.set_cons_zero, List.set_cons_succ]
        refine mix_w rfl rfl rfl ?_
        go_wp2
        refine ⟨rfl, ⟨cell_alloc b0 _, cell_alloc b1 _, cell_alloc b2 _, cell_alloc hcg _⟩, ?_⟩
        refine mix_w rfl rfl rfl ?_
        have ho : Own W7 h w.heap.size 71 tCod v7 x7 := hr7.ins (x7, v7) (by simp)
        refine wpList_app1 (t := tCod) slCod (by decide) rfl rfl ho.drew hx7.sub.drew rfl u rfl rfl (tCod_mk r1 r2 r3) (by omega) (by omega) (by have := hx7.ge; simp; omega) ?_
        intro v' w3 ho' hgr hs' hnew
        obtain ⟨A', L', c', rfl⟩ : ∃ A' L' c', v' = .slice A' L' c' := by
          obtain ⟨A', c', e, _⟩ := ho'.sl
          exact ⟨_, _, c', e⟩
        have hgo : v7.ownBlock ≠ some g := by obtain ⟨c, hc⟩ := hbox; exact ho.ne_box hc (by decide)
        have q0 := cell_grown (cell_alloc (cell_drew b0) _) hgr HB7.out
        have q1 := cell_grown (cell_alloc (cell_drew b1) _) hgr HB7.out
        have q2 := cell_grown (cell_alloc (cell_drew b2) _) hgr HB7.out
        have q3 := cell_grown (cell_alloc (cell_drew hcg) _) hgr hgo
        have fg : w3.frozen? ⟨g, j, none⟩ = false := by
          obtain ⟨c, hc⟩ := hbox
          exact ((hc.drew.alloc _).grown hgr hgo).frozen j
        have hr8 := hr7.drew.last (by decide) ⟨A', L', c', rfl⟩ ho' hgr hnew rfl
        rw [← HJ.out] at hr8
        have hx8 : Ext w h (w3.setCell ⟨g, j, none⟩ (.slice A' L' c')) h := ((hx7.drew.alloc _).grown hgr fun k e => ⟨(ho.lt k e).1, ho.out k e⟩).setCell hbg hhg _
        have HR8 := Aside.mk hr8
        have HX8 := Aside.mk hx8
        refine wpList_nil (onlyN ⟨rfl, ⟨q0, q1, q2, q3⟩, ?_⟩)
        clear hr8 hx8 ho' hgr hs' hnew b0 b1 b2 hcg hbox hgo ho hr7 hx7 hb7
        simp only [Act.put, List.setIfInBounds_toArray, List.set_cons_zero, List.set_cons_succ]
        refine mix_e rfl rfl rfl ?_
        apply Exists.intro
        constructor
        · rintro W ⟨q0, q1, q2, q3⟩
          go_simp
          rfl
        simp only [Act.put, List.setIfInBounds_toArray, List.set_cons_zero, List.set_cons_succ]
        refine mix_nil ?_
        show wpList _ _ _ [_] _ _
        go_wp2_with fail
        refine onlyN ?_
        go_wp2
        go_roundw
        case rel => exact ⟨k + 1, L7 ++ [(x7 ++ [u], .slice A' L' c')], hlt, by simp, HX8.out, HR8.out, ⟨by rw [← HG7.out]; simp⟩, by simp; omega, by simp, ⟨fun p hp => by
          rcases List.mem_append.1 hp with hp | hp
          · exact HP8.out p hp
          · obtain rfl := List.mem_singleton.1 hp
            simp; omega⟩⟩
        case measure => simp [intOf]; omega
    · have hkl : k = cs.length := by omega
      subst hkl
      obtain ⟨h', x', l', s'⟩ := hr.publish hx (by decide)
      rw [HG.out] at s'
      have S := Aside.mk s'
      have X := Aside.mk x'
      clear s' x' hr hx l'
      go_wp2
      go_ret
      exact ⟨h', _, rfl, X.out, S.out⟩
end Go.Proofs.YtaakpcmflladaaaDoor
