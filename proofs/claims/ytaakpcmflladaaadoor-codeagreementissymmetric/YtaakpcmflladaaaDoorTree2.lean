/- code.treeOf: a frame is checked. -/
import Derived.Test.YtaakpcmflladaaaDoorTree1
set_option linter.all false
namespace Go.Proofs.YtaakpcmflladaaaDoor
open Go.RowKit Hv Go.Proofs
structure TreeIn (h : View) (bt : Nat) (l : List Node) : Prop where
  ex : ∃ A cc ba bl, h bt = some (.cells #[.slice A l.length cc, .map (some ba), .map (some bl)] 81 (0, 0)) ∧ Sl h tNode (.slice A l.length cc) l ∧ MapIn Ki h ba (atL l) ∧ MapIn Ki h bl (levM l l.length)
theorem TreeIn.mono {h h' : View} {bt : Nat} {l : List Node} (t : TreeIn h bt l) (hl : View.le h h') : TreeIn h' bt l := by
  obtain ⟨A, cc, ba, bl, h1, h2, h3, h4⟩ := t
  exact ⟨A, cc, ba, bl, hl _ _ h1, h2.mono hl, h3.mono hl, h4.mono hl⟩
def TreeR (w : World) (h : View) (l : List Node) (e : Ending) (w' : World) : Prop := ∃ h' p, e = .returned (.tuple #[p, .int .i64 (treeF l)]) ∧ Ext w h w' h' ∧ (treeF l = 0 → ∃ bt, p = .pointer (some ⟨bt, 0, none⟩) ∧ TreeIn h' bt l)
theorem TreeR.bad {w w' : World} {h h' : View} {l : List Node} {n : Int} {p : Value} (hf : treeF l = n) (hn : n ≠ 0) (x : Ext w h w' h') : TreeR w h l (.returned (.tuple #[p, .int .i64 n])) w' := ⟨h', p, by rw [hf], x, fun e => absurd (hf.symm.trans e) hn⟩
theorem TreeR.good {w w' : World} {h h' : View} {l : List Node} {bt : Nat} (hf : treeF l = 0) (x : Ext w h w' h') (t : TreeIn h' bt l) : TreeR w h l (.returned (.tuple #[.pointer (some ⟨bt, 0, none⟩), .int .i64 0])) w' := ⟨h', _, by rw [hf], x, fun _ => ⟨bt, rfl, t⟩⟩
theorem inL_take {l : List Node} (r : Rise l) {k : Nat} (hk : k < l.length) : inL (l.take k) l[k].code = false := by
  cases h : inL (l.take k) l[k].code
  · rfl
  · obtain ⟨i, hi, e⟩ := inL_at h
    rw [List.length_take] at hi
    rw [List.getElem_take] at e
    have := r.inj (by omega) hk e
    omega
theorem atL_put {l : List Node} (r : Rise l) {k : Nat} (hk : k < l.length) : mput (atL (l.take k)) l[k].code (.int .i64 (k : Int)) = atL (l.take (k + 1)) := by
  rw [List.take_succ_eq_append_getElem hk, atL_snoc, mput_new (lk_none.1 (atL_none (inL_take r hk))), List.length_take, Nat.min_eq_left (by omega)]
theorem levM_put {l : List Node} (r : Rise l) (hr : ∀ n ∈ l, 1 ≤ n.code ∧ n.code ≤ 999) {k : Nat} (hk : k < l.length) {s : Nat} (hs : upF l l.length l[k].code = some s) : mput (levM l k) l[k].code (.int .i64 (s : Int)) = levM l (k + 1) := by
  have hlev : lev l l[k].code = s := by unfold lev; rw [hs]; rfl
  rw [mput_new]
  · unfold levM
    rw [List.take_succ_eq_append_getElem hk, List.map_append, hlev.symm]; rfl
  · intro p hp e
    unfold levM at hp
    rcases List.mem_cons.1 hp with rfl | hp
    · have := hr l[k] (List.getElem_mem hk)
      have e' : (0 : Int) = l[k].code := e
      omega
    · obtain ⟨n, hn, rfl⟩ := List.mem_map.1 hp
      obtain ⟨i, hi, rfl⟩ := List.getElem_of_mem hn
      rw [List.length_take] at hi
      rw [List.getElem_take] at e
      have := r.inj (by omega) hk e
      omega
theorem nmF_at {l : List Node} {k : Nat} (hk : k < l.length) {u : Node} (hu : u = l[k]) : nmF l k = if u.parent ≠ 0 ∧ inL l u.parent = false then 5 else 0 := by
  unfold nmF; rw [List.getElem?_eq_getElem hk, ← hu]
theorem lpF_at {l : List Node} {k : Nat} (hk : k < l.length) {u : Node} (hu : u = l[k]) : lpF l k = if upF l l.length u.code = none then 18 else 0 := by
  unfold lpF; rw [List.getElem?_eq_getElem hk, ← hu]
theorem lvF_at {l : List Node} {k : Nat} (hk : k < l.length) {u : Node} (hu : u = l[k]) : lvF l k = if 8 < lev l u.code then 2 else 0 := by
  unfold lvF; rw [List.getElem?_eq_getElem hk, ← hu]
theorem at_look {l : List Node} (r : Rise l) (c : Int) : ∃ j : Int, (lk (atL l) c).getD (.int .i64 0) = .int .i64 j ∧ (lk (atL l) c).isSome = inL l c := by
  cases h : inL l c
  · exact ⟨0, by rw [atL_none h]; rfl, by rw [atL_none h]; rfl⟩
  · obtain ⟨i, hi, _, e⟩ := atL_some r h
    exact ⟨i, by rw [e]; rfl, by rw [e]; rfl⟩
theorem levM_nodup {l : List Node} (r : Rise l) (hr : ∀ n ∈ l, 1 ≤ n.code ∧ n.code ≤ 999) : ((levM l l.length).map (·.1)).Nodup := by
  unfold levM
  rw [List.take_length, List.map_cons, List.map_map, List.nodup_cons]
  refine ⟨fun h => ?_, ?_⟩
  · obtain ⟨n, hn, e⟩ := List.mem_map.1 h
    have := hr n hn
    have e' : n.code = 0 := e
    omega
  · unfold List.Nodup
    rw [List.pairwise_map, List.pairwise_iff_getElem]
    intro i j hi hj hij e
    have := r i j hi hj hij
    have e' : l[i].code = l[j].code := e
    omega
theorem levM_lk {l : List Node} (r : Rise l) (hr : ∀ n ∈ l, 1 ≤ n.code ∧ n.code ≤ 999) {c : Int} (h : inL l c = true) : lk (levM l l.length) c = some (.int .i64 (lev l c : Int)) := by
  refine lk_of_mem (levM_nodup r hr) ?_
  obtain ⟨n, hn, rfl⟩ := inL_iff.1 h
  unfold levM
  rw [List.take_length]
  exact List.mem_cons_of_mem _ (List.mem_map.2 ⟨n, hn, rfl⟩)
theorem inL_get {l : List Node} {k : Nat} (hk : k < l.length) : inL l l[k].code = true := inL_iff.2 ⟨_, List.getElem_mem hk, rfl⟩
set_option maxRecDepth 100000 in
set_option maxHeartbeats 3200000 in
theorem tree_any (h : View) (w : World) (hs : Sub h w) (v : Value) (l : List Node) (hv : Sl h tNode v l) : Calls Tryd.prog 13 #[v] w (TreeR w h l) := by
  have CN := Aside.mk (nodes_any h w hs v l hv)
  have HV := Aside.mk hv
  obtain ⟨A, c, rfl, hl1, hl2, hsl⟩ := hv
  obtain ⟨nf, hnf⟩ : ∃ nf, nf = nodesF l := ⟨_, rfl⟩
  unfold NodesR at CN
  rw [← hnf] at CN
  by_cases hn0 : nf = 0
  rotate_left
  · have E := Aside.mk (show treeF l = nf by unfold treeF; rw [← hnf, if_pos hn0])
    have hnb : (nf != 0) = true := by rw [bne_iff_ne]; exact hn0
    clear hnf
    go_enter Tryd.func13, Tryd.ntmps13
    go_wp2_with (go_at_call 27; refine CN.out.mono ?_; rintro e w2 ⟨rfl, x2⟩)
    go_ret2
    exact TreeR.bad E.out hn0 x2
  subst hn0
  have g := good_of hnf.symm
  have TF : treeF l = if Pl.firstG (nmF l) l.length 0 ≠ 0 then 5 else if Pl.firstG (lpF l) l.length 0 ≠ 0 then 18 else if Pl.firstG (lvF l) l.length 0 ≠ 0 then 2 else 0 := by
    unfold treeF; rw [← hnf]; rfl
  have hll := g.le
  have G := Aside.mk g
  have TF := Aside.mk TF
  have hmm := @run_makeMap Tryd.prog
  have HS := Aside.mk hs
  clear hnf g
  go_enter Tryd.func13, Tryd.ntmps13
  go_wp2_with (go_at_call 27; refine CN.out.mono ?_; rintro e w2 ⟨rfl, x2⟩)
  have hm1 : MapIs Ki ((w2.alloc (.map #[] 0)).alloc (.map #[] 0)) (w2.heap.size + 1) [] := by
    have := MapIs.new Ki (w2.alloc (.map #[] 0)); rwa [World.size_alloc] at this
  obtain ⟨w3, hr3, hm3, hg3, hs3⟩ := run_put hm1 Tryd.underlying39 (x := (0 : Int)) (show inRange .i64 0 by constructor <;> decide) (.int .i64 0)
  rw [show Instr.mapUpdate 39 (.map (some (w2.heap.size + 1))) (.int .i64 0) (.int .i64 0) = Instr.mapUpdate 39 (.map (some (w2.heap.size + 1))) (Ki.ek 0) (.int .i64 0) from rfl, hr3]
  simp only [Result.andThen]
  rw [Oper.upon_skip]
  have ha3 : MapIs Ki w3 w2.heap.size [] := ((MapIs.new Ki w2).alloc _).grown hg3 (by simp)
  have x3 : Ext w h w3 h := ((x2.alloc _).alloc _).grown hg3 fun b e => by
    injection e with e; subst e
    have := x2.ge
    exact ⟨by omega, hs.none_ge (by omega)⟩
  have hm3 : MapIs Ki w3 (w2.heap.size + 1) (levM l 0) := hm3
  obtain ⟨ba, hba⟩ : ∃ ba, ba = w2.heap.size := ⟨_, rfl⟩
  have hba2 : w2.heap.size + 1 = ba + 1 := by rw [hba]
  have hge2 := x2.ge
  rw [← hba] at ha3 hge2
  rw [hba2] at hm3
  have hlt3 := hm3.lt
  rw [← hba]
  have X3 := Aside.mk x3
  have HA3 := Aside.mk ha3
  have HM3 := Aside.mk hm3
  clear hm1 hr3 hg3 hs3 hba hba2 x2 x3 ha3 hm3
  go_wp2
  go_loopw [29] (fun i wr => ∃ (k : Nat), k ≤ l.length ∧ i = .int .i64 k ∧ Ext w h wr h ∧ BoxAt wr w3.heap.size 81 #[.slice A l.length c, .map (some ba), .map (some (ba + 1))] ∧ MapIs Ki wr ba (atL (l.take k)) ∧ MapIs Ki wr (ba + 1) (levM l 0)) (fun i _ => l.length - (intOf i).toNat)
  case atStart =>
    exact ⟨0, Nat.zero_le _, rfl, X3.out.alloc _, BoxAt.new w3 _ _, HA3.out.alloc _, HM3.out.alloc _⟩
  case round =>
    obtain ⟨k, hk, rfl, hx, hb, ha, hm⟩ := hrel
    by_cases hlt : k < l.length
    · obtain ⟨b, off, u, hu, rfl, c0, c1, c2, r1, r2, r3⟩ := node_at hsl hx.sub k hlt
      have HP := Aside.mk (atL_put G.out.rise hlt)
      rw [← hu] at HP
      have hblt := hb.lt
      have hb2 := hb.alloc (.cells #[.int .i64 u.code, .int .i64 u.parent, .string u.title] 36 (0, 0))
      have k1 : (wr.alloc (.cells #[.int .i64 u.code, .int .i64 u.parent, .string u.title] 36 (0, 0))).cell? ⟨w3.heap.size, 1, none⟩ = some (.map (some ba)) := hb2.cell 1
      have k2 : (wr.alloc (.cells #[.int .i64 u.code, .int .i64 u.parent, .string u.title] 36 (0, 0))).cell? ⟨wr.heap.size, 0, none⟩ = some (.int .i64 u.code) := cell_new wr _ _ _ 0
      have ha2 := Aside.mk ((ha.alloc (.cells #[.int .i64 u.code, .int .i64 u.parent, .string u.title] 36 (0, 0))))
      have hm2 := Aside.mk ((hm.alloc (.cells #[.int .i64 u.code, .int .i64 u.parent, .string u.title] 36 (0, 0))))
      have hx2 := Aside.mk ((hx.alloc (.cells #[.int .i64 u.code, .int .i64 u.parent, .string u.title] 36 (0, 0))))
      have hbb := Aside.mk hb2
      clear hu ha hm hx hb2 hb
      go_wp2
      revert k1 k2 ha2 hm2 hx2 hbb
      generalize (wr.alloc (.cells #[.int .i64 u.code, .int .i64 u.parent, .string u.title] 36 (0, 0))) = W0
      intro k1 k2 ha2 hm2 hx2 hbb
      refine wp_region_mix (fun W => W.cell? ⟨w3.heap.size, 1, none⟩ = some (.map (some ba)) ∧ W.cell? ⟨wr.heap.size, 0, none⟩ = some (.int .i64 u.code)) [7] 8 (by kernel_rfl) (by kernel_rfl) (by decide) ⟨k1, k2⟩ ?_
      show wpMix _ _ _ _ _ [0, 1, 2, 3, 4, 5, 6, 7] _ _
      iterate 7
        refine mix_e rfl rfl rfl ?_
        apply Exists.intro
        constructor
        · rintro W ⟨q0, q1⟩
          go_simp
          rfl
        simp only [Act.put, List.setIfInBounds_toArray, List.set_cons_zero, List.set_cons_succ]
      refine mix_w rfl rfl rfl ?_
      refine wpList_put (K := Ki) ha2.out.drew Tryd.underlying39 (x := u.code) r1 rfl rfl rfl rfl rfl ?_
      intro W1 hm5 hg5 hs5
      have x5 := Aside.mk (hx2.out.drew.grown hg5 fun b e => by injection e with e; subst e; exact ⟨hge2, HS.out.none_ge hge2⟩)
      have b5 := Aside.mk (hbb.out.drew.grown hg5 (by simp; omega))
      have m5 := Aside.mk (hm2.out.drew.grown hg5 (by simp))
      have a5 : Aside (MapIs Ki W1 ba (atL (l.take (k + 1)))) := ⟨by rw [← HP.out]; exact hm5⟩
      refine wpList_nil (onlyN ⟨rfl, ⟨hg5.cell k1 (by simp; omega), hg5.cell k2 (by simp; omega)⟩, ?_⟩)
      refine mix_nil (wpList_nil (onlyN ?_))
      clear hm5 hg5 hs5 k1 k2 ha2 hm2 hx2 hbb
      simp only [Act.put, List.setIfInBounds_toArray, List.set_cons_zero, List.set_cons_succ]
      go_wp2
      go_roundw
      case rel => exact ⟨k + 1, by omega, by simp, x5.out, b5.out, a5.out, m5.out⟩
      case measure => simp [intOf] <;> omega
    · have hkl : k = l.length := by omega
      subst hkl
      rw [List.take_length] at ha
      go_wp2
      go_loopw [44] (fun i wr => ∃ (k : Nat), k ≤ l.length ∧ i = .int .i64 k ∧ Ext w h wr h ∧ BoxAt wr w3.heap.size 81 #[.slice A l.length c, .map (some ba), .map (some (ba + 1))] ∧ MapIs Ki wr ba (atL l) ∧ MapIs Ki wr (ba + 1) (levM l 0) ∧ Aside (∀ i < k, nmF l i = 0)) (fun i _ => l.length - (intOf i).toNat)
      case atStart => exact ⟨0, Nat.zero_le _, rfl, hx, hb, ha, hm, ⟨by simp⟩⟩
      case round =>
        clear hx hb ha hm
        obtain ⟨k, hk, rfl, hx, hb, ha, hm, HU⟩ := hrel
        by_cases hlt : k < l.length
        · obtain ⟨b, off, u, hu, rfl, c0, c1, c2, r1, r2, r3⟩ := node_at hsl hx.sub k hlt
          have HNM := Aside.mk (nmF_at hlt hu)
          obtain ⟨j, hj, hjs⟩ := at_look G.out.rise u.parent
          obtain ⟨ib, hib⟩ : ∃ ib, ib = inL l u.parent := ⟨_, rfl⟩
          rw [← hib] at HNM hjs
          have hlkW := fun (W : World) (hW : MapIs Ki W ba (atL l)) => (show (Instr.lookup 39 (.map (some ba)) (.int .i64 u.parent) true).run Tryd.prog W = .ok (.tuple #[.int .i64 j, .bool ib]) W by
            have := run_look hW Tryd.underlying39 (zeroInt W) (x := u.parent) r2 true
            rw [if_pos rfl, hj, hjs] at this; exact this)
          have HLK := Aside.mk hlkW
          have hblt := hb.lt
          have hb2 := hb.alloc (.cells #[.int .i64 u.code, .int .i64 u.parent, .string u.title] 36 (0, 0))
          have k1 : (wr.alloc (.cells #[.int .i64 u.code, .int .i64 u.parent, .string u.title] 36 (0, 0))).cell? ⟨w3.heap.size, 1, none⟩ = some (.map (some ba)) := hb2.cell 1
          have k2 : (wr.alloc (.cells #[.int .i64 u.code, .int .i64 u.parent, .string u.title] 36 (0, 0))).cell? ⟨wr.heap.size, 1, none⟩ = some (.int .i64 u.parent) := cell_new wr _ _ _ 1
          have ha2 := Aside.mk ((ha.alloc (.cells #[.int .i64 u.code, .int .i64 u.parent, .string u.title] 36 (0, 0))))
          have hm2 := Aside.mk ((hm.alloc (.cells #[.int .i64 u.code, .int .i64 u.parent, .string u.title] 36 (0, 0))))
          have hx2 := Aside.mk ((hx.alloc (.cells #[.int .i64 u.code, .int .i64 u.parent, .string u.title] 36 (0, 0))))
          have hbb := Aside.mk hb2
          clear hu ha hm hx hb2 hb hlkW hj hjs hib
          go_wp2
          revert k1 k2 ha2 hm2 hx2 hbb
          generalize (wr.alloc (.cells #[.int .i64 u.code, .int .i64 u.parent, .string u.title] 36 (0, 0))) = W0
          intro k1 k2 ha2 hm2 hx2 hbb
          refine wp_region_mix (fun W => W.cell? ⟨w3.heap.size, 1, none⟩ = some (.map (some ba)) ∧ W.cell? ⟨wr.heap.size, 1, none⟩ = some (.int .i64 u.parent) ∧ MapIs Ki W ba (atL l)) [] 12 (by kernel_rfl) (by kernel_rfl) (by decide) ⟨k1, k2, ha2.out.drew⟩ ?_
          show wpMix _ _ _ _ _ [0, 1, 2, 3, 4, 5, 6, 7, 8, 9, 10, 11] _ _
          iterate 12
            refine mix_e rfl rfl rfl ?_
            apply Exists.intro
            constructor
            · rintro W ⟨q0, q1, q2⟩
              have q3 := HLK.out W q2
              go_simp
              rfl
            simp only [Act.put, List.setIfInBounds_toArray, List.set_cons_zero, List.set_cons_succ]
          refine mix_nil (wpList_nil (onlyN ?_))
          have FIN : Aside (Ext w h W0.drew h ∧ BoxAt W0.drew w3.heap.size 81 #[.slice (some ⟨b, off, none⟩) l.length c, .map (some ba), .map (some (ba + 1))] ∧ MapIs Ki W0.drew ba (atL l) ∧ MapIs Ki W0.drew (ba + 1) (levM l 0)) := ⟨hx2.out.drew, hbb.out.drew, ha2.out.drew, hm2.out.drew⟩
          clear ha2 hm2 hx2 hbb
          by_cases hp0 : u.parent = 0
          · have HU2 : Aside (∀ i < k + 1, nmF l i = 0) := ⟨fun i hi => by
              by_cases e : i = k
              · rw [e, HNM.out, if_neg (fun hh => hh.1 hp0)]
              · exact HU.out i (by omega)⟩
            have hpb : (u.parent != 0) = false := by rw [hp0]; rfl
            clear hp0
            go_wp2
            go_roundw
            case rel => exact ⟨k + 1, by omega, by simp, FIN.out.1, FIN.out.2.1, FIN.out.2.2.1, FIN.out.2.2.2, HU2⟩
            case measure => simp [intOf] <;> omega
          · have hpb : (u.parent != 0) = true := by rw [bne_iff_ne]; exact hp0
            cases ib
            · have E : Aside (treeF l = 5) := ⟨by
                rw [TF.out, if_pos]
                rw [Pl.firstG_bad hlt HU.out (by rw [HNM.out, if_pos ⟨hp0, rfl⟩]; decide), HNM.out, if_pos ⟨hp0, rfl⟩]
                decide⟩
              clear hp0
              go_wp2
              go_ret2
              exact TreeR.bad E.out (by decide) FIN.out.1
            · have HU2 : Aside (∀ i < k + 1, nmF l i = 0) := ⟨fun i hi => by
                by_cases e : i = k
                · rw [e, HNM.out, if_neg (fun hh => by cases hh.2)]
                · exact HU.out i (by omega)⟩
              clear hp0
              go_wp2
              go_roundw
              case rel => exact ⟨k + 1, by omega, by simp, FIN.out.1, FIN.out.2.1, FIN.out.2.2.1, FIN.out.2.2.2, HU2⟩
              case measure => simp [intOf] <;> omega
        · have hkl : k = l.length := by omega
          subst hkl
          have TF2 : Aside (treeF l = if Pl.firstG (lpF l) l.length 0 ≠ 0 then 18 else if Pl.firstG (lvF l) l.length 0 ≠ 0 then 2 else 0) := ⟨by
            rw [TF.out, Pl.firstG_good HU.out, if_neg (by simp)]⟩
          have PO := Aside.mk (parOk_of HU.out)
          go_wp2
          go_loopw [68] (fun i wr => ∃ (k : Nat), k ≤ l.length ∧ i = .int .i64 k ∧ Ext w h wr h ∧ BoxAt wr w3.heap.size 81 #[.slice A l.length c, .map (some ba), .map (some (ba + 1))] ∧ MapIs Ki wr ba (atL l) ∧ MapIs Ki wr (ba + 1) (levM l k) ∧ Aside (∀ i < k, lpF l i = 0)) (fun i _ => l.length - (intOf i).toNat)
          case atStart => exact ⟨0, Nat.zero_le _, rfl, hx, hb, ha, hm, ⟨by simp⟩⟩
          case round =>
            clear hx hb ha hm HU
            obtain ⟨k, hk, rfl, hx, hb, ha, hm, HU⟩ := hrel
            by_cases hlt : k < l.length
            · obtain ⟨b, off, u, hu, rfl, c0, c1, c2, r1, r2, r3⟩ := node_at hsl hx.sub k hlt
              have HLP := Aside.mk (lpF_at hlt hu)
              have hin : inL l u.code = true := by rw [hu]; exact inL_get hlt
              have HP := Aside.mk (fun (s : Nat) (hs : upF l l.length u.code = some s) => (show mput (levM l k) u.code (.int .i64 (s : Int)) = levM l (k + 1) by
                rw [hu] at hs ⊢; exact levM_put G.out.rise G.out.range hlt hs))
              have hblt := hb.lt
              have hb2 := hb.alloc (.cells #[.int .i64 u.code, .int .i64 u.parent, .string u.title] 36 (0, 0))
              have ha2 := (ha.alloc (.cells #[.int .i64 u.code, .int .i64 u.parent, .string u.title] 36 (0, 0)))
              have hm2 := (hm.alloc (.cells #[.int .i64 u.code, .int .i64 u.parent, .string u.title] 36 (0, 0)))
              have hx2 := (hx.alloc (.cells #[.int .i64 u.code, .int .i64 u.parent, .string u.title] 36 (0, 0)))
              have CM := Aside.mk (measure_any h _ hx2.sub l (some ⟨b, off, none⟩) c w3.heap.size ba (ba + 1) (levM l k) HV.out hb2 ha2 hm2 G.out PO.out u.code hin r1)
              unfold MeasR at CM
              have HA2 := Aside.mk ha2
              have HM2 := Aside.mk hm2
              have HX2 := Aside.mk hx2
              have HB2 := Aside.mk hb2
              clear hu ha hm hx hb2 hb ha2 hm2 hx2 hin
              go_wp2_with fail
              refine CM.out.mono ?_
              rintro e w5 (⟨hu5, rfl, n, rfl⟩ | ⟨s, hu5, rfl, hm5, hg5, hs5⟩)
              · have E : Aside (treeF l = 18) := ⟨by
                  rw [TF2.out, if_pos]
                  rw [Pl.firstG_bad hlt HU.out (by rw [HLP.out, if_pos hu5]; decide), HLP.out, if_pos hu5]
                  decide⟩
                clear hu5
                go_wp2
                go_ret2
                exact TreeR.bad E.out (by decide) (HX2.out.drewN n)
              · have HU2 : Aside (∀ i < k + 1, lpF l i = 0) := ⟨fun i hi => by
                  by_cases e : i = k
                  · rw [e, HLP.out, if_neg (by rw [hu5]; simp)]
                  · exact HU.out i (by omega)⟩
                have m5 : Aside (MapIs Ki w5 (ba + 1) (levM l (k + 1))) := ⟨by rw [← HP.out s hu5]; exact hm5⟩
                have x5 := Aside.mk (HX2.out.grown hg5 fun b e => by injection e with e; subst e; exact ⟨by omega, HS.out.none_ge (by omega)⟩)
                have b5 := Aside.mk (HB2.out.grown hg5 (by simp; omega))
                have a5 := Aside.mk (HA2.out.grown hg5 (by simp))
                clear hu5 hm5 hg5 hs5
                go_wp2
                go_roundw
                case rel => exact ⟨k + 1, by omega, by simp, x5.out, b5.out, a5.out, m5.out, HU2⟩
                case measure => simp [intOf] <;> omega
            · have hkl : k = l.length := by omega
              subst hkl
              have TF3 : Aside (treeF l = if Pl.firstG (lvF l) l.length 0 ≠ 0 then 2 else 0) := ⟨by
                rw [TF2.out, Pl.firstG_good HU.out, if_neg (by simp)]⟩
              go_wp2
              go_loopw [80] (fun i wr => ∃ (k : Nat), k ≤ l.length ∧ i = .int .i64 k ∧ Ext w h wr h ∧ BoxAt wr w3.heap.size 81 #[.slice A l.length c, .map (some ba), .map (some (ba + 1))] ∧ MapIs Ki wr ba (atL l) ∧ MapIs Ki wr (ba + 1) (levM l l.length) ∧ Aside (∀ i < k, lvF l i = 0)) (fun i _ => l.length - (intOf i).toNat)
              case atStart => exact ⟨0, Nat.zero_le _, rfl, hx, hb, ha, hm, ⟨by simp⟩⟩
              case round =>
                clear hx hb ha hm HU
                obtain ⟨k, hk, rfl, hx, hb, ha, hm, HU⟩ := hrel
                by_cases hlt : k < l.length
                · obtain ⟨b, off, u, hu, rfl, c0, c1, c2, r1, r2, r3⟩ := node_at hsl hx.sub k hlt
                  have HLV := Aside.mk (lvF_at hlt hu)
                  have hin : inL l u.code = true := by rw [hu]; exact inL_get hlt
                  have hlev := levM_lk G.out.rise G.out.range hin
                  obtain ⟨lv, hlv⟩ : ∃ lv, lv = lev l u.code := ⟨_, rfl⟩
                  rw [← hlv] at HLV hlev
                  have hlkW := fun (W : World) (hW : MapIs Ki W (ba + 1) (levM l l.length)) => (show (Instr.lookup 39 (.map (some (ba + 1))) (.int .i64 u.code) false).run Tryd.prog W = .ok (.int .i64 (lv : Int)) W by
                    have := run_look hW Tryd.underlying39 (zeroInt W) (x := u.code) r1 false
                    rw [hlev] at this; exact this)
                  have HLK := Aside.mk hlkW
                  have hblt := hb.lt
                  have hb2 := hb.alloc (.cells #[.int .i64 u.code, .int .i64 u.parent, .string u.title] 36 (0, 0))
                  have k1 : (wr.alloc (.cells #[.int .i64 u.code, .int .i64 u.parent, .string u.title] 36 (0, 0))).cell? ⟨w3.heap.size, 2, none⟩ = some (.map (some (ba + 1))) := hb2.cell 2
                  have k2 : (wr.alloc (.cells #[.int .i64 u.code, .int .i64 u.parent, .string u.title] 36 (0, 0))).cell? ⟨wr.heap.size, 0, none⟩ = some (.int .i64 u.code) := cell_new wr _ _ _ 0
                  have ha2 := Aside.mk ((ha.alloc (.cells #[.int .i64 u.code, .int .i64 u.parent, .string u.title] 36 (0, 0))))
                  have hm2 := Aside.mk ((hm.alloc (.cells #[.int .i64 u.code, .int .i64 u.parent, .string u.title] 36 (0, 0))))
                  have hx2 := Aside.mk ((hx.alloc (.cells #[.int .i64 u.code, .int .i64 u.parent, .string u.title] 36 (0, 0))))
                  have hbb := Aside.mk hb2
                  clear hu ha hm hx hb2 hb hlkW hin hlev hlv
                  go_wp2
                  revert k1 k2 ha2 hm2 hx2 hbb
                  generalize (wr.alloc (.cells #[.int .i64 u.code, .int .i64 u.parent, .string u.title] 36 (0, 0))) = W0
                  intro k1 k2 ha2 hm2 hx2 hbb
                  refine wp_region_mix (fun W => W.cell? ⟨w3.heap.size, 2, none⟩ = some (.map (some (ba + 1))) ∧ W.cell? ⟨wr.heap.size, 0, none⟩ = some (.int .i64 u.code) ∧ MapIs Ki W (ba + 1) (levM l l.length)) [] 8 (by kernel_rfl) (by kernel_rfl) (by decide) ⟨k1, k2, hm2.out.drew⟩ ?_
                  show wpMix _ _ _ _ _ [0, 1, 2, 3, 4, 5, 6, 7] _ _
                  iterate 8
                    refine mix_e rfl rfl rfl ?_
                    apply Exists.intro
                    constructor
                    · rintro W ⟨q0, q1, q2⟩
                      have q3 := HLK.out W q2
                      go_simp
                      rfl
                    simp only [Act.put, List.setIfInBounds_toArray, List.set_cons_zero, List.set_cons_succ]
                  refine mix_nil (wpList_nil (onlyN ?_))
                  have FIN : Aside (Ext w h W0.drew h ∧ BoxAt W0.drew w3.heap.size 81 #[.slice (some ⟨b, off, none⟩) l.length c, .map (some ba), .map (some (ba + 1))] ∧ MapIs Ki W0.drew ba (atL l) ∧ MapIs Ki W0.drew (ba + 1) (levM l l.length)) := ⟨hx2.out.drew, hbb.out.drew, ha2.out.drew, hm2.out.drew⟩
                  clear ha2 hm2 hx2 hbb
                  by_cases h8 : 8 < lv
                  · have E : Aside (treeF l = 2) := ⟨by
                      rw [TF3.out, if_pos]
                      rw [Pl.firstG_bad hlt HU.out (by rw [HLV.out, if_pos h8]; decide), HLV.out, if_pos h8]
                      decide⟩
                    go_wp2
                    go_ret2
                    exact TreeR.bad E.out (by decide) FIN.out.1
                  · have HU2 : Aside (∀ i < k + 1, lvF l i = 0) := ⟨fun i hi => by
                      by_cases e : i = k
                      · rw [e, HLV.out, if_neg h8]
                      · exact HU.out i (by omega)⟩
                    go_wp2
                    go_roundw
                    case rel => exact ⟨k + 1, by omega, by simp, FIN.out.1, FIN.out.2.1, FIN.out.2.2.1, FIN.out.2.2.2, HU2⟩
                    case measure => simp [intOf] <;> omega
                · have hkl : k = l.length := by omega
                  subst hkl
                  have E : Aside (treeF l = 0) := ⟨by rw [TF3.out, Pl.firstG_good HU.out, if_neg (by simp)]⟩
                  obtain ⟨h1, x1, l1, m1, o1⟩ := ha.publish hx hge2 (HS.out.none_ge hge2)
                  obtain ⟨h2, x2, l2, m2, o2⟩ := hm.publish x1 (by omega) ((o1 _ (by omega)).trans (HS.out.none_ge (by omega)))
                  obtain ⟨h3, x3, l3, m3, o3⟩ := x2.addBlock hb (by omega) ((o2 _ (by omega)).trans ((o1 _ (by omega)).trans (HS.out.none_ge (by omega))))
                  have X := Aside.mk x3
                  have T : Aside (TreeIn h3 w3.heap.size l) := ⟨⟨A, c, ba, ba + 1, m3, ((HV.out.mono l1).mono l2).mono l3, (m1.mono l2).mono l3, m2.mono l3⟩⟩
                  clear x1 x2 x3 m1 m2 m3 o1 o2 o3 l1 l2 l3 ha hm hb hx
                  go_wp2
                  go_ret2
                  exact TreeR.good E.out X.out T.out
end Go.Proofs.YtaakpcmflladaaaDoor
