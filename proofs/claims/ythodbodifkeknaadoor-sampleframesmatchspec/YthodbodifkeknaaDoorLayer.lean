/- sample.layerOf: a stratum is divided into clusters. -/
import Derived.Test.YthodbodifkeknaaDoorKeysI
set_option linter.all false
namespace Go.Proofs.YthodbodifkeknaaDoor
open Go.RowKit Hv Go.Proofs
theorem zeroCluP (w : World) : (zeroValue 62).run Tryd.prog w = .ok (.pointer none) w := by kernel_rfl
set_option maxRecDepth 100000 in
set_option maxHeartbeats 3200000 in
theorem layerOf_ok : LayerOfS := by
  intro h w n v l hs hv hns hb hok
  obtain ⟨A, c, rfl, hl1, hl2, hsl⟩ := hv
  have hx := Ext.refl hs
  have hmm := @run_makeMap Tryd.prog
  have HOK := Aside.mk hok
  clear hok
  go_enter Tryd.func20, Tryd.ntmps20
  go_wp2
  go_loopw [8, 9, 18] (fun _ _ i wr => ∃ (k : Nat) (m : List (Int × Value)) (gb : Int → Nat) (vs : Int → Value), k ≤ l.length ∧ i = .int .i64 k ∧ Ext w h wr h ∧ MapIs Ki wr (w.heap.size + 1 + 1) m ∧ CG wr h w.heap.size m (l.take k) gb vs ∧
      Aside (∀ x, (∃ p ∈ m, p.1 = x) ↔ ∃ u ∈ l.take k, u.cl = x) ∧ BoxAt wr w.heap.size 37 #[.string ⟨#[]⟩, .slice none 0 0, .int .i64 0, .slice none 0 0] ∧
      BoxAt wr (w.heap.size + 1) 37 #[.string n, .slice A l.length c, .int .i64 (totalL (l.take k)), .slice none 0 0]) (fun _ _ i _ => l.length - (intOf i).toNat)
  case atStart =>
    refine ⟨0, [], fun _ => 0, fun _ => .bool false, Nat.zero_le _, rfl, ((hx.alloc _).alloc _).alloc _, ?_, CG.nil, ⟨by simp⟩, ((BoxAt.new _ _ _).alloc _).alloc _, ?_⟩
    · have := MapIs.new Ki ((w.alloc (.cells #[.string ⟨#[]⟩, .slice none 0 0, .int .i64 0, .slice none 0 0] 37)).alloc (.cells #[.string n, .slice A l.length c, .int .i64 0, .slice none 0 0] 37))
      simpa using this
    · have := (BoxAt.new (w.alloc (.cells #[.string ⟨#[]⟩, .slice none 0 0, .int .i64 0, .slice none 0 0] 37)) #[.string n, .slice A l.length c, .int .i64 0, .slice none 0 0] 37).alloc (.map #[] 0)
      simpa [totalL] using this
  case round =>
    obtain ⟨k, m, gb, vs, hk, rfl, hx, hm, hg, HK, x4, x5⟩ := hrel
    by_cases hlt : k < l.length
    · obtain ⟨b, off, u, hu, rfl, c0, c1, c2, c3, r1, r2, r3, r4⟩ := unit_at hsl hx.sub k hlt
      have HE := Aside.mk hu
      have hou := HOK.out u (by rw [hu]; exact List.getElem_mem _)
      clear hu
      obtain ⟨tk, htk⟩ : ∃ tk, tk = totalL (l.take k) := ⟨_, rfl⟩
      have htb := total_bound (l := l.take k) fun x hx => HOK.out x (List.mem_of_mem_take hx)
      rw [← htk] at x5 htb
      have e1 : IntKind.i64.wrap (tk + u.size) = tk + u.size := IntWalk.i64_in _ (by unfold okUnit at hou; rw [List.length_take] at htb; omega)
      have HT := Aside.mk htk
      clear htk
      have y2 : wr.cell? ⟨w.heap.size + 1, 2, none⟩ = some (.int .i64 tk) := x5.cell 2
      have f5 := x5.frozen 2
      have l5 := x5.lt
      have n5 : ¬ w.heap.size + 1 = wr.heap.size := by omega
      have n5' : ¬ wr.heap.size = w.heap.size + 1 := by omega
      have FX : Ext w h ((wr.setCell ⟨w.heap.size + 1, 2, none⟩ (.int .i64 (tk + u.size))).alloc (.cells #[.int .i64 u.id, .string u.st, .int .i64 u.cl, .int .i64 u.size] 45)) h ∧ CG ((wr.setCell ⟨w.heap.size + 1, 2, none⟩ (.int .i64 (tk + u.size))).alloc (.cells #[.int .i64 u.id, .string u.st, .int .i64 u.cl, .int .i64 u.size] 45)) h w.heap.size m (l.take k) gb vs ∧ BoxAt ((wr.setCell ⟨w.heap.size + 1, 2, none⟩ (.int .i64 (tk + u.size))).alloc (.cells #[.int .i64 u.id, .string u.st, .int .i64 u.cl, .int .i64 u.size] 45)) w.heap.size 37 #[.string ⟨#[]⟩, .slice none 0 0, .int .i64 0, .slice none 0 0] ∧
          BoxAt ((wr.setCell ⟨w.heap.size + 1, 2, none⟩ (.int .i64 (tk + u.size))).alloc (.cells #[.int .i64 u.id, .string u.st, .int .i64 u.cl, .int .i64 u.size] 45)) (w.heap.size + 1) 37 #[.string n, .slice (some ⟨b, off, none⟩) l.length c, .int .i64 (tk + u.size), .slice none 0 0] ∧ BoxAt ((wr.setCell ⟨w.heap.size + 1, 2, none⟩ (.int .i64 (tk + u.size))).alloc (.cells #[.int .i64 u.id, .string u.st, .int .i64 u.cl, .int .i64 u.size] 45)) wr.heap.size 45 #[.int .i64 u.id, .string u.st, .int .i64 u.cl, .int .i64 u.size] := by
        refine ⟨(hx.setCell (by simp) (hs.none_ge (by simp)) _).alloc _, (hg.far x5 (by decide) (by decide) _ _).alloc _, (x4.far (by simp) _).alloc _, (x5.set 2 _).alloc _, ?_⟩
        have := BoxAt.new (wr.setCell ⟨w.heap.size + 1, 2, none⟩ (.int .i64 (tk + u.size))) #[.int .i64 u.id, .string u.st, .int .i64 u.cl, .int .i64 u.size] 45
        rwa [size_set] at this
      have FA := Aside.mk FX
      clear FX
      cases hlk : lk m u.cl
      case' none =>
        go_wp2_with (first | (at_lookup; refine wpList_look (K := Ki) ((hm.setCell _ _).alloc _) Tryd.underlying61 (zeroCluP _) (x := u.cl) r3 rfl rfl rfl rfl ?_) | (at_mapUpdate; refine wpList_put (K := Ki) (((hm.setCell _ _).alloc _).alloc _) Tryd.underlying61 (x := u.cl) r3 rfl rfl rfl rfl rfl ?_; intro w1 hm1 hg1 hsz1))
        have F : ∃ (W1 : World) (m1 : List (Int × Value)) (gb1 : Int → Nat) (vs1 : Int → Value) (g : Nat), w1 = W1 ∧ wr.heap.size + 1 = g ∧ gb1 u.cl = g ∧ Ext w h W1 h ∧ MapIs Ki W1 (w.heap.size + 1 + 1) m1 ∧ CG W1 h w.heap.size m1 (l.take k) gb1 vs1 ∧ (u.cl, Value.pointer (some ⟨g, 0, none⟩)) ∈ m1 ∧
          Aside (∀ x, (∃ p ∈ m1, p.1 = x) ↔ ∃ u ∈ l.take (k + 1), u.cl = x) ∧ BoxAt W1 w.heap.size 37 #[.string ⟨#[]⟩, .slice none 0 0, .int .i64 0, .slice none 0 0] ∧
          BoxAt W1 (w.heap.size + 1) 37 #[.string n, .slice (some ⟨b, off, none⟩) l.length c, .int .i64 (tk + u.size), .slice none 0 0] ∧ BoxAt W1 wr.heap.size 45 #[.int .i64 u.id, .string u.st, .int .i64 u.cl, .int .i64 u.size] ∧ (∀ k, (vs1 u.cl).ownBlock = some k → k < wr.heap.size) := by
          obtain ⟨f1, f2, f3, f4, f6⟩ := FA.out
          have hno : ¬ ∃ u' ∈ l.take k, u'.cl = u.cl := fun ⟨u', hu', e⟩ => by
            obtain ⟨p, hp, e2⟩ := (HK.out u.cl).2 ⟨u', hu', e⟩
            exact lk_none.1 hlk p hp e2
          have hsz : ((wr.setCell ⟨w.heap.size + 1, 2, none⟩ (.int .i64 (tk + u.size))).alloc (.cells #[.int .i64 u.id, .string u.st, .int .i64 u.cl, .int .i64 u.size] 45)).heap.size = wr.heap.size + 1 := by simp [size_set]
          have hadd := f2.add (lk_none.1 hlk) (inClu_none hno) f1.ge
          rw [hsz] at hadd
          have hmx := ((hm.setCell ⟨w.heap.size + 1, 2, none⟩ (.int .i64 (tk + u.size))).alloc (.cells #[.int .i64 u.id, .string u.st, .int .i64 u.cl, .int .i64 u.size] 45)).alloc (.cells #[.int .i64 u.cl, .int .i64 0, .slice none 0 0] 64)
          refine ⟨w1, m ++ [(u.cl, .pointer (some ⟨wr.heap.size + 1, 0, none⟩))], _, _, wr.heap.size + 1, rfl, rfl, upd_self _ _ _, (f1.alloc _).grown hg1 (fun k e => by injection e with e; subst e; exact ⟨by omega, hs.none_ge (by omega)⟩), ?_, hadd.grown hmx hg1, by simp, ⟨?_⟩, (f3.alloc _).grown hg1 (by simp <;> omega), (f4.alloc _).grown hg1 (by simp <;> omega), (f6.alloc _).grown hg1 ?_, fun k hk => by rw [upd_self] at hk; simp [Value.ownBlock] at hk⟩
          · rw [← mput_new (lk_none.1 hlk)]; exact hm1
          · intro x
            rw [take_snoc l k hlt, ← HE.out]
            constructor
            · rintro ⟨p, hp, rfl⟩
              rcases List.mem_append.1 hp with hp | hp
              · obtain ⟨z, hz, e⟩ := (HK.out p.1).1 ⟨p, hp, rfl⟩
                exact ⟨z, by simp [hz], e⟩
              · rw [List.mem_singleton.1 hp]; exact ⟨u, by simp, rfl⟩
            · rintro ⟨z, hz, rfl⟩
              rcases List.mem_append.1 hz with hz | hz
              · obtain ⟨p, hp, e⟩ := (HK.out z.cl).2 ⟨z, hz, rfl⟩
                exact ⟨p, by simp [hp], e⟩
              · rw [List.mem_singleton.1 hz]; exact ⟨_, List.mem_append_right _ (List.mem_singleton.2 rfl), rfl⟩
          · intro e; injection e with e
            exact hmx.ne_box (f6.alloc _) e
        clear FA hm hg hx x4 x5 y2 f5 l5 n5 n5' hm1 hg1 hsz1 c0 c1 c2 c3 e1
      case' some v0 =>
        have hv0 : v0 = .pointer (some ⟨gb u.cl, 0, none⟩) := hg.ptr _ (lk_some_mem hlk)
        subst hv0
        go_wp2_with (first | (at_lookup; refine wpList_look (K := Ki) ((hm.setCell _ _).alloc _) Tryd.underlying61 (zeroCluP _) (x := u.cl) r3 rfl rfl rfl rfl ?_))
        have F : ∃ (W1 : World) (m1 : List (Int × Value)) (gb1 : Int → Nat) (vs1 : Int → Value) (g : Nat), ((wr.setCell ⟨w.heap.size + 1, 2, none⟩ (.int .i64 (tk + u.size))).alloc (.cells #[.int .i64 u.id, .string u.st, .int .i64 u.cl, .int .i64 u.size] 45)) = W1 ∧ gb u.cl = g ∧ gb1 u.cl = g ∧ Ext w h W1 h ∧ MapIs Ki W1 (w.heap.size + 1 + 1) m1 ∧ CG W1 h w.heap.size m1 (l.take k) gb1 vs1 ∧ (u.cl, Value.pointer (some ⟨g, 0, none⟩)) ∈ m1 ∧
          Aside (∀ x, (∃ p ∈ m1, p.1 = x) ↔ ∃ u ∈ l.take (k + 1), u.cl = x) ∧ BoxAt W1 w.heap.size 37 #[.string ⟨#[]⟩, .slice none 0 0, .int .i64 0, .slice none 0 0] ∧
          BoxAt W1 (w.heap.size + 1) 37 #[.string n, .slice (some ⟨b, off, none⟩) l.length c, .int .i64 (tk + u.size), .slice none 0 0] ∧ BoxAt W1 wr.heap.size 45 #[.int .i64 u.id, .string u.st, .int .i64 u.cl, .int .i64 u.size] ∧ (∀ k, (vs1 u.cl).ownBlock = some k → k < wr.heap.size) := by
          obtain ⟨f1, f2, f3, f4, f6⟩ := FA.out
          refine ⟨_, m, gb, vs, gb u.cl, rfl, rfl, rfl, f1, (hm.setCell _ _).alloc _, f2, lk_some_mem hlk, ⟨?_⟩, f3, f4, f6, fun k hk => ((hg.own _ (lk_some_mem hlk)).lt k hk).2⟩
          intro x
          rw [take_snoc l k hlt, ← HE.out]
          constructor
          · rintro ⟨p, hp, rfl⟩
            obtain ⟨z, hz, e⟩ := (HK.out p.1).1 ⟨p, hp, rfl⟩
            exact ⟨z, by simp [hz], e⟩
          · rintro ⟨z, hz, rfl⟩
            rcases List.mem_append.1 hz with hz | hz
            · exact (HK.out z.cl).2 ⟨z, hz, rfl⟩
            · rw [List.mem_singleton.1 hz]; exact ⟨_, lk_some_mem hlk, rfl⟩
        clear FA hm hg hx x4 x5 y2 f5 l5 n5 n5' c0 c1 c2 c3 e1
        revert F
        generalize ((wr.setCell ⟨w.heap.size + 1, 2, none⟩ (.int .i64 (tk + u.size))).alloc (.cells #[.int .i64 u.id, .string u.st, .int .i64 u.cl, .int .i64 u.size] 45)) = w1
        intro F
      all_goals
        obtain ⟨_, m1, gb1, vs1, g, rfl, hgx, hgg, hx, hm, hg, hin, HK1, x4, x5, x6, hvlt⟩ := F
        have hnn := hm.nodup
        obtain ⟨vv, hvv⟩ : ∃ vv, vv = vs1 u.cl := ⟨_, rfl⟩
        obtain ⟨tc, htc⟩ : ∃ tc, tc = totalL (inClu (l.take k) u.cl) := ⟨_, rfl⟩
        have xg := hg.box _ hin
        have ho := hg.own _ hin
        have hlow := hg.low _ hin
        dsimp only at xg ho hlow
        rw [hgg, ← hvv, ← htc] at xg
        rw [← hvv] at ho hvlt
        rw [hgg] at hlow
        have hcb := total_bound (l := inClu (l.take k) u.cl) (fun x hx => HOK.out x (List.mem_of_mem_take (List.mem_filter.1 hx).1))
        have hcl := inClu_le (l.take k) u.cl
        rw [← htc] at hcb
        have e2 : IntKind.i64.wrap (tc + u.size) = tc + u.size := IntWalk.i64_in _ (by unfold okUnit at hou; rw [List.length_take] at hcl; omega)
        have HV := Aside.mk hvv
        have HC := Aside.mk htc
        have HG := Aside.mk hgg
        clear hvv htc hgg
        have s1 : w1.cell? ⟨g, 1, none⟩ = some (.int .i64 tc) := xg.cell 1
        have s3 : w1.cell? ⟨wr.heap.size, 3, none⟩ = some (.int .i64 u.size) := x6.cell 3
        have fg : w1.drew.frozen? ⟨g, 1, none⟩ = false := xg.drew.frozen 1
        have sg : w1.drew.cell? ⟨g, 1, none⟩ = some (.int .i64 tc) := xg.drew.cell 1
        refine wp_region_mix (fun W => W.cell? ⟨g, 1, none⟩ = some (.int .i64 tc) ∧ W.cell? ⟨wr.heap.size, 3, none⟩ = some (.int .i64 u.size)) [] 9 (by kernel_rfl) (by kernel_rfl) (by decide) ⟨s1, s3⟩ ?_
        show wpMix _ _ _ _ _ [0, 1, 2, 3, 4, 5, 6, 7, 8] _ _
        iterate 9
          refine mix_e rfl rfl rfl ?_
          apply Exists.intro
          constructor
          · rintro W ⟨q0, q2⟩
            go_simp
            rfl
          simp only [Act.put, List.setIfInBounds_toArray, List.set_cons_zero, List.set_cons_succ]
        refine mix_nil ?_
        show wpList _ _ _ [_] _ _
        go_wp2_with fail
        refine onlyN ?_
        have F2 : Ext w h (w1.setCell ⟨g, 1, none⟩ (.int .i64 (tc + u.size))).drew h ∧ MapIs Ki (w1.setCell ⟨g, 1, none⟩ (.int .i64 (tc + u.size))).drew (w.heap.size + 1 + 1) m1 ∧ BoxAt (w1.setCell ⟨g, 1, none⟩ (.int .i64 (tc + u.size))).drew w.heap.size 37 #[.string ⟨#[]⟩, .slice none 0 0, .int .i64 0, .slice none 0 0] ∧
            BoxAt (w1.setCell ⟨g, 1, none⟩ (.int .i64 (tc + u.size))).drew (w.heap.size + 1) 37 #[.string n, .slice (some ⟨b, off, none⟩) l.length c, .int .i64 (tk + u.size), .slice none 0 0] ∧ BoxAt (w1.setCell ⟨g, 1, none⟩ (.int .i64 (tc + u.size))).drew wr.heap.size 45 #[.int .i64 u.id, .string u.st, .int .i64 u.cl, .int .i64 u.size] ∧
            BoxAt (w1.setCell ⟨g, 1, none⟩ (.int .i64 (tc + u.size))).drew g 64 #[.int .i64 u.cl, .int .i64 (tc + u.size), vv] ∧ Own (w1.setCell ⟨g, 1, none⟩ (.int .i64 (tc + u.size))).drew h w.heap.size 45 tUnit vv (inClu (l.take k) u.cl) ∧ (w1.setCell ⟨g, 1, none⟩ (.int .i64 (tc + u.size))).drew.heap.size = w1.heap.size ∧ (∀ k, k ≠ g → (w1.setCell ⟨g, 1, none⟩ (.int .i64 (tc + u.size))).drew.heap[k]? = w1.heap[k]?) :=
          ⟨(hx.setCell hlow (hs.none_ge hlow) _).drew, (hm.setCell _ _).drew, (x4.far (x4.ne xg (by decide)) _).drew, (x5.far (x5.ne xg (by decide)) _).drew, (x6.far (x6.ne xg (by decide)) _).drew, (xg.set 1 _).drew,
            (ho.setCell (fun k hk => by obtain ⟨c, hc⟩ := ho.box hk; exact hc.ne xg (by decide)) _).drew, size_set _ _ _, fun k hk => heap_set _ _ _ _ hk⟩
        clear hx hm x4 x5 x6 xg ho s1 s3 fg sg e2
        revert F2
        generalize (w1.setCell ⟨g, 1, none⟩ (.int .i64 (tc + u.size))).drew = w2
        rintro ⟨hx, hm, x4, x5, x6, xg, ho, hsz2, hkeep⟩
        have HS2 := Aside.mk hsz2
        have HKP := Aside.mk hkeep
        clear hsz2 hkeep
        go_wp2_with fail
        have b0 : w2.cell? ⟨wr.heap.size, 0, none⟩ = some (.int .i64 u.id) := x6.cell 0
        have b1 : w2.cell? ⟨wr.heap.size, 1, none⟩ = some (.string u.st) := x6.cell 1
        have b2 : w2.cell? ⟨wr.heap.size, 2, none⟩ = some (.int .i64 u.cl) := x6.cell 2
        have b3 : w2.cell? ⟨wr.heap.size, 3, none⟩ = some (.int .i64 u.size) := x6.cell 3
        have bg : w2.cell? ⟨g, 2, none⟩ = some vv := xg.cell 2
        refine wp_region_mix (fun W => W.cell? ⟨wr.heap.size, 0, none⟩ = some (.int .i64 u.id) ∧ W.cell? ⟨wr.heap.size, 1, none⟩ = some (.string u.st) ∧ W.cell? ⟨wr.heap.size, 2, none⟩ = some (.int .i64 u.cl) ∧ W.cell? ⟨wr.heap.size, 3, none⟩ = some (.int .i64 u.size) ∧ W.cell? ⟨g, 2, none⟩ = some vv) [6, 7] 10 (by kernel_rfl) (by kernel_rfl) (by decide) ⟨b0, b1, b2, b3, bg⟩ ?_
        show wpMix _ _ _ _ _ [0, 1, 2, 3, 4, 5, 6, 7, 8, 9] _ _
        iterate 6
          refine mix_e rfl rfl rfl ?_
          apply Exists.intro
          constructor
          · rintro W ⟨q0, q1, q2, q3, q4⟩
            go_simp
            rfl
          simp only [Act.put, List.setIfInBounds_toArray, List.set_cons_zero, List.set_cons_succ]
        refine mix_w rfl rfl rfl ?_
        go_wp2
        refine ⟨rfl, ⟨cell_alloc b0 _, cell_alloc b1 _, cell_alloc b2 _, cell_alloc b3 _, cell_alloc bg _⟩, ?_⟩
        refine mix_w rfl rfl rfl ?_
        refine wpList_app1 (t := tUnit) slUnit (by decide) rfl rfl ho.drew hx.sub.drew rfl u rfl rfl (tUnit_mk r1 r2 r3 r4) (by rw [List.length_take] at hcl; omega) (by rw [List.length_take] at hcl; omega) (by have := hx.ge; simp; omega) ?_
        intro v' w3 ho' hgr hs' hnew
        obtain ⟨L', A', c', rfl⟩ : ∃ L' A' c', v' = .slice A' L' c' := by
          obtain ⟨A', c', e, _⟩ := ho'.sl
          exact ⟨_, A', c', e⟩
        have hrow : ∀ {g : Nat}, g = wr.heap.size → vv.ownBlock ≠ some g := fun {g} e e2 => by have := hvlt g e2; omega
        have z6 := (x6.drew.alloc _).grown hgr (hrow rfl)
        have zg := (xg.drew.alloc _).grown hgr (ho.ne_box xg (by decide))
        have z4 := (x4.drew.alloc _).grown hgr (ho.ne_box x4 (by decide))
        have z5 := (x5.drew.alloc _).grown hgr (ho.ne_box x5 (by decide))
        have hm3 : MapIs Ki w3 (w.heap.size + 1 + 1) m1 := (hm.drew.alloc _).grown hgr (fun e => by
          obtain ⟨c, hc⟩ := ho.box e
          exact hm.ne_box hc rfl)
        have hx3 : Ext w h w3 h := (hx.drew.alloc _).grown hgr fun g e => ⟨(ho.lt g e).1, ho.2 g e⟩
        have fg : w3.frozen? ⟨g, 2, none⟩ = false := zg.frozen 2
        have sg : w3.cell? ⟨g, 2, none⟩ = some vv := zg.cell 2
        have o' : Own (w3.setCell ⟨g, 2, none⟩ (.slice A' L' c')) h w.heap.size 45 tUnit (.slice A' L' c') (inClu (l.take k) u.cl ++ [u]) := ho'.setCell (fun k hk => by obtain ⟨c, hc⟩ := ho'.box hk; exact hc.ne zg (by decide)) _
        have hg4 : CG (w3.setCell ⟨g, 2, none⟩ (.slice A' L' c')) h w.heap.size m1 (l.take k ++ [u]) gb1 (upd vs1 u.cl (.slice A' L' c')) := by
          refine hg.step hin hnn ?_ ?_ o' ?_
          · intro k hk1 hk2 hk3
            rw [HG.out] at hk2
            rw [← HV.out] at hk3
            rw [heap_set _ _ _ _ hk2]
            have h1 := HS2.out
            refine (hgr.block k ?_ fun e => hk3 e.symm).trans ((Below.heap_alloc w2.drew _ k ?_).trans (HKP.out k hk2))
            · simp; omega
            · show k < w2.heap.size; omega
          · rw [HG.out, ← HC.out]; exact zg.set 2 _
          · intro k hk
            rw [← HV.out]
            have h1 := HS2.out
            exact (hnew k hk).imp id fun h2 => by have h3 : w2.drew.heap.size = w2.heap.size := rfl; omega
        have hm4 := hm3.setCell ⟨g, 2, none⟩ (.slice A' L' c')
        have hx4 : Ext w h (w3.setCell ⟨g, 2, none⟩ (.slice A' L' c')) h := hx3.setCell hlow (hs.none_ge hlow) _
        have y4 := z4.far (p := ⟨g, 2, none⟩) (z4.ne zg (by decide)) (.slice A' L' c')
        have y5 := z5.far (p := ⟨g, 2, none⟩) (z5.ne zg (by decide)) (.slice A' L' c')
        rw [← take_snoc_of l k hlt HE.out] at hg4
        have et : tk + u.size = totalL (l.take (k + 1)) := by rw [take_snoc_of l k hlt HE.out, total_snoc, HT.out]
        rw [et] at y5
        refine wpList_nil (onlyN ⟨rfl, ⟨z6.cell 0, z6.cell 1, z6.cell 2, z6.cell 3, zg.cell 2⟩, ?_⟩)
        clear et HS2 HKP hm hx x4 x5 x6 xg ho hg hgr hs' hnew ho' b0 b1 b2 b3 bg z4 z5 z6 hm3 hx3 zg hin o' HV HC HG hvlt hrow
        simp only [Act.put, List.setIfInBounds_toArray, List.set_cons_zero, List.set_cons_succ]
        iterate 2
          refine mix_e rfl rfl rfl ?_
          apply Exists.intro
          constructor
          · rintro W ⟨q0, q1, q2, q3, q4⟩
            go_simp
            rfl
          simp only [Act.put, List.setIfInBounds_toArray, List.set_cons_zero, List.set_cons_succ]
        refine mix_nil ?_
        show wpList _ _ _ [_] _ _
        go_wp2_with fail
        refine onlyN ?_
        go_wp2
        go_roundw
        case rel => exact ⟨k + 1, m1, gb1, _, hlt, by simp <;> omega, hx4, hm4, hg4, HK1, y4, y5⟩
        case measure => simp [intOf]; omega
    · have hkl : k = l.length := by omega
      subst hkl
      rw [List.take_length] at hg x5 HK
      have hnn := hm.nodup
      have hsorted := clusters_sorted hnn HK.out
      have hlen : m.length ≤ 5000 := by
        have h1 := congrArg List.length hsorted
        rw [(List.mergeSort_perm _ _).length_eq, List.length_map] at h1
        have := clusD_le l
        omega
      obtain ⟨h2, hx2, hout, hpub⟩ := hg.publish hx hnn
      have n4 : h2 w.heap.size = none := (hout _ fun p hp => (hg.own p hp).ne_box x4 (by decide)).trans (hs.none_ge (Nat.le_refl _))
      have n5 : h2 (w.heap.size + 1) = none := (hout _ fun p hp => (hg.own p hp).ne_box x5 (by decide)).trans (hs.none_ge (by omega))
      have N4 := Aside.mk n4
      have N5 := Aside.mk n5
      clear hout n4 n5
      have CS := sortedI h2 wr (w.heap.size + 1 + 1) m hx2.sub hm (by omega)
      rw [hsorted] at CS
      have CS := Aside.mk CS
      have HP := Aside.mk hpub
      have HB := Aside.mk hg.box
      have HPT := Aside.mk hg.ptr
      have hmem : ∀ n ∈ clusD l, ∃ v, (n, v) ∈ m := by
        intro n hn
        rw [← hsorted] at hn
        obtain ⟨p, hp, rfl⟩ := List.mem_map.1 ((List.mergeSort_perm _ _).mem_iff.1 hn)
        exact ⟨p.2, hp⟩
      have HM := Aside.mk hmem
      have hcl := clusD_le l
      clear hsorted hpub hmem HK hg
      go_wp2_with (first | (go_at_call 34; refine (keysI _ _).mono ?_; rintro e w' ⟨rfl, rfl⟩) | (go_at_call 33; refine CS.out.mono ?_; rintro e w3 ⟨h3, _, rfl, hx3, A3, cc3, rfl, hl3, hc3, hsl3⟩))
      have x3 : Ext w h w3 h3 := (hx2.alloc _).trans hx3
      have hm3 : MapIs Ki w3 (w.heap.size + 1 + 1) m := (hm.alloc _).below hx3.below
      have y4 := (x4.alloc (.cells #[.map (some (w.heap.size + 1 + 1))] 61)).below hx3.below
      have y5 := (x5.alloc (.cells #[.map (some (w.heap.size + 1 + 1))] 61)).below hx3.below
      have HB3 := Aside.mk (fun p hp => ((HB.out p hp).alloc (.cells #[.map (some (w.heap.size + 1 + 1))] 61)).below hx3.below)
      have HP3 := Aside.mk (fun p hp => (HP.out p hp).mono hx3.le)
      obtain ⟨tl, htl⟩ : ∃ tl, tl = totalL l := ⟨_, rfl⟩
      rw [← htl] at y5
      have HTL := Aside.mk htl
      have M4 := Aside.mk ((hx3.old w.heap.size (Nat.lt_trans x4.lt (by simp))).trans N4.out)
      have M5 := Aside.mk ((hx3.old (w.heap.size + 1) (Nat.lt_trans x5.lt (by simp))).trans N5.out)
      clear HP HB hx2 hx hm x4 x5 hx3 CS hlen htl N4 N5
      go_loopw [11, 66] (fun _ i wr => ∃ (j : Nat) (out : Value), j ≤ (clusD l).length ∧ i = .int .i64 j ∧ Ext w h wr h3 ∧ MapIs Ki wr (w.heap.size + 1 + 1) m ∧ BoxAt wr w.heap.size 37 #[.string ⟨#[]⟩, .slice none 0 0, .int .i64 0, .slice none 0 0] ∧
        BoxAt wr (w.heap.size + 1) 37 #[.string n, .slice A l.length c, .int .i64 tl, out] ∧ Aside (∀ p ∈ m, BoxAt wr (gb p.1) 64 #[.int .i64 p.1, .int .i64 (totalL (inClu l p.1)), vs p.1]) ∧ w3.heap.size ≤ wr.heap.size ∧
        Own wr h3 w3.heap.size 64 tClu out ((clusL l).take j)) (fun _ i _ => (clusD l).length - (intOf i).toNat)
      case atStart => exact ⟨0, _, Nat.zero_le _, rfl, x3, hm3, y4, y5, HB3, Nat.le_refl _, Own.nil⟩
      case round =>
        obtain ⟨j, out, hj, rfl, x, hm, x4, x5, HB, hsz, ho⟩ := hrel
        by_cases hlt : j < (clusD l).length
        · obtain ⟨cn, hcn⟩ : ∃ cn, cn = (clusD l)[j] := ⟨_, rfl⟩
          obtain ⟨b, off, ds, rfl, hK, hc⟩ := hsl3.at_ j hlt
          rw [← hcn] at hK
          obtain ⟨rfl, hr⟩ := hK
          have c0 := x.sub.cell (hc 0 _ rfl)
          simp only [show tI.sz = 1 from rfl, Nat.add_zero, Nat.mul_one] at c0
          obtain ⟨pv, hpv⟩ := HM.out cn (by rw [hcn]; exact List.getElem_mem _)
          have hp2 : pv = .pointer (some ⟨gb cn, 0, none⟩) := HPT.out _ hpv
          subst hp2
          have hlk := fun (W : World) (hW : MapIs Ki W (w.heap.size + 1 + 1) m) => (show (Instr.lookup 61 (.map (some (w.heap.size + 1 + 1))) (.int .i64 cn) false).run Tryd.prog W = .ok (.pointer (some ⟨gb cn, 0, none⟩)) W by
            have := run_look hW Tryd.underlying61 (zeroCluP W) (x := cn) hr false
            rw [lk_of_mem hnn hpv] at this; exact this)
          have xg := HB.out _ hpv
          have hsv := HP3.out _ hpv
          dsimp only at xg hsv
          obtain ⟨vv, hvv⟩ : ∃ vv, vv = vs cn := ⟨_, rfl⟩
          obtain ⟨tc, htc⟩ : ∃ tc, tc = totalL (inClu l cn) := ⟨_, rfl⟩
          obtain ⟨g, hg⟩ : ∃ g, gb cn = g := ⟨_, rfl⟩
          rw [hg, ← htc, ← hvv] at xg
          rw [← hvv] at hsv
          have htb := total_bound (l := inClu l cn) (fun x hx => HOK.out x (List.mem_filter.1 hx).1)
          have hcl2 := inClu_le l cn
          rw [← htc] at htb
          have hrt : inRange .i64 tc := by constructor <;> omega
          have hgl : g < w3.heap.size := by rw [← hg]; exact (HB3.out _ hpv).lt
          have hsnoc := Aside.mk (take_snoc (clusL l) j (by rw [clusL_len]; exact hlt))
          rw [show (clusL l)[j]'(by rw [clusL_len]; exact hlt) = ⟨cn, tc, inClu l cn⟩ by simp [clusL, hcn, htc]] at hsnoc
          have hlen : ((clusL l).take j).length ≤ 5000 := by rw [List.length_take]; omega
          have bo : wr.cell? ⟨w.heap.size + 1, 3, none⟩ = some out := x5.cell 3
          have b0 : wr.cell? ⟨g, 0, none⟩ = some (.int .i64 cn) := xg.cell 0
          have b1 : wr.cell? ⟨g, 1, none⟩ = some (.int .i64 tc) := xg.cell 1
          have b2 : wr.cell? ⟨g, 2, none⟩ = some vv := xg.cell 2
          clear hcn hvv htc hc
          go_wp2_with fail
          refine wp_region_mix (fun W => W.cell? ⟨w.heap.size + 1, 3, none⟩ = some out ∧ W.cell? ⟨g, 0, none⟩ = some (.int .i64 cn) ∧ W.cell? ⟨g, 1, none⟩ = some (.int .i64 tc) ∧ W.cell? ⟨g, 2, none⟩ = some vv ∧ MapIs Ki W (w.heap.size + 1 + 1) m) [7, 8] 10 (by kernel_rfl) (by kernel_rfl) (by decide) ⟨bo, b0, b1, b2, hm.drew⟩ ?_
          show wpMix _ _ _ _ _ [0, 1, 2, 3, 4, 5, 6, 7, 8, 9] _ _
          iterate 7
            refine mix_e rfl rfl rfl ?_
            apply Exists.intro
            constructor
            · rintro W ⟨q0, q1, q2, q3, q4⟩
              have q5 := hlk W q4
              go_simp
              rfl
            simp only [Act.put, List.setIfInBounds_toArray, List.set_cons_zero, List.set_cons_succ]
          refine mix_w rfl rfl rfl ?_
          go_wp2
          refine ⟨rfl, ⟨cell_alloc bo _, cell_alloc b0 _, cell_alloc b1 _, cell_alloc b2 _, hm.drew.alloc _⟩, ?_⟩
          refine mix_w rfl rfl rfl ?_
          refine wpList_app1 (t := tClu) slClu (by decide) rfl rfl ho.drew x.sub.drew rfl ⟨cn, tc, inClu l cn⟩ rfl rfl (tClu_mk hsv hr hrt) (by omega) (by omega) (by simp; omega) ?_
          intro v' w4 ho' hgr hs' hnew
          obtain ⟨L', A', c', rfl⟩ : ∃ L' A' c', v' = .slice A' L' c' := by
            obtain ⟨A', c', e, _⟩ := ho'.sl
            exact ⟨_, A', c', e⟩
          have hrow : ∀ {k : Nat}, k < w3.heap.size → out.ownBlock ≠ some k := fun {k} e e2 => by have := (ho.lt k e2).1; omega
          have z5 := (x5.drew.alloc _).grown hgr (ho.ne_box x5 (by decide))
          have z4 := (x4.drew.alloc _).grown hgr (ho.ne_box x4 (by decide))
          have zb := fun p hp => ((HB.out p hp).drew.alloc _).grown hgr (hrow (HB3.out p hp).lt)
          have zg := (xg.drew.alloc _).grown hgr (hrow hgl)
          have hm4 : MapIs Ki w4 (w.heap.size + 1 + 1) m := (hm.drew.alloc _).grown hgr (fun e => by
            obtain ⟨c, hc⟩ := ho.box e
            exact hm.ne_box hc rfl)
          have hx4 : Ext w h w4 h3 := (x.drew.alloc _).grown hgr fun g e => ⟨Nat.le_trans x3.ge (ho.lt g e).1, ho.2 g e⟩
          have fg : w4.frozen? ⟨w.heap.size + 1, 3, none⟩ = false := z5.frozen 3
          have sg : w4.cell? ⟨w.heap.size + 1, 3, none⟩ = some out := z5.cell 3
          have o' : Own (w4.setCell ⟨w.heap.size + 1, 3, none⟩ (.slice A' L' c')) h3 w3.heap.size 64 tClu (.slice A' L' c') ((clusL l).take (j + 1)) := by
            rw [hsnoc.out]
            exact ho'.setCell (fun k hk => by obtain ⟨c, hc⟩ := ho'.box hk; exact hc.ne z5 (by decide)) _
          have HB4 : Aside (∀ p ∈ m, BoxAt (w4.setCell ⟨w.heap.size + 1, 3, none⟩ (.slice A' L' c')) (gb p.1) 64 #[.int .i64 p.1, .int .i64 (totalL (inClu l p.1)), vs p.1]) := ⟨fun p hp => (zb p hp).far ((zb p hp).ne z5 (by decide)) _⟩
          have y4 := z4.far (p := ⟨w.heap.size + 1, 3, none⟩) (by simp) (.slice A' L' c')
          have y5 := z5.set 3 (.slice A' L' c')
          have hx5 : Ext w h (w4.setCell ⟨w.heap.size + 1, 3, none⟩ (.slice A' L' c')) h3 := hx4.setCell (by simp) M5.out _
          have hm5 := hm4.setCell ⟨w.heap.size + 1, 3, none⟩ (.slice A' L' c')
          have hsz4 : w3.heap.size ≤ (w4.setCell ⟨w.heap.size + 1, 3, none⟩ (.slice A' L' c')).heap.size := by
            rw [size_set]
            have h1 := hgr.size
            have h2 : (w4.heap.size) ≥ wr.heap.size := Nat.le_trans (by simp) h1
            omega
          refine wpList_nil (onlyN ⟨rfl, ⟨sg, zg.cell 0, zg.cell 1, zg.cell 2, hm4⟩, ?_⟩)
          clear zb zg hm4 hx4 z4 z5 hrow ho' hgr hs' hnew xg ho x4 x5 hm x HB hlk bo b0 b1 b2 hsz
          simp only [Act.put, List.setIfInBounds_toArray, List.set_cons_zero, List.set_cons_succ]
          refine mix_e rfl rfl rfl ?_
          apply Exists.intro
          constructor
          · rintro W ⟨q0, q1, q2, q3, q4⟩
            go_simp
            rfl
          simp only [Act.put, List.setIfInBounds_toArray, List.set_cons_zero, List.set_cons_succ]
          refine mix_nil ?_
          show wpList _ _ _ [_] _ _
          go_wp2_with fail
          refine onlyN ?_
          go_wp2
          go_roundw
          case rel => exact ⟨j + 1, _, hlt, by simp <;> omega, hx5, hm5, y4, y5, HB4, hsz4, o'⟩
          case measure => simp [intOf]; omega
        · have hjl : (clusL l).take j = clusL l := List.take_of_length_le (by rw [clusL_len]; omega)
          rw [hjl] at ho
          obtain ⟨L', A', c', rfl⟩ : ∃ L' A' c', out = .slice A' L' c' := by
            obtain ⟨A', c', e, _⟩ := ho.sl
            exact ⟨_, A', c', e⟩
          have a0 := x5.cell 0
          have a1 := x5.cell 1
          have a2 := x5.cell 2
          have a3 := x5.cell 3
          have d0 := x4.cell 0
          have d1 := x4.cell 1
          have d2 := x4.cell 2
          have d3 := x4.cell 3
          have f0 := x4.frozen 0
          have f1 := x4.frozen 1
          have f2 := x4.frozen 2
          have f3 := x4.frozen 3
          simp only [List.getElem?_toArray, List.getElem?_cons_zero, List.getElem?_cons_succ] at a0 a1 a2 a3 d0 d1 d2 d3
          have HO := Aside.mk ho
          clear ho
          go_wp2
          have X : Ext w h ((((wr.setCell ⟨w.heap.size, 0, none⟩ (.string n)).setCell ⟨w.heap.size, 1, none⟩ (.slice A l.length c)).setCell ⟨w.heap.size, 2, none⟩ (.int .i64 tl)).setCell ⟨w.heap.size, 3, none⟩ (.slice A' L' c')) h3 := ((((x.setCell (Nat.le_refl _) M4.out _).setCell (Nat.le_refl _) M4.out _).setCell (Nat.le_refl _) M4.out _).setCell (Nat.le_refl _) M4.out _)
          have B : BoxAt ((((wr.setCell ⟨w.heap.size, 0, none⟩ (.string n)).setCell ⟨w.heap.size, 1, none⟩ (.slice A l.length c)).setCell ⟨w.heap.size, 2, none⟩ (.int .i64 tl)).setCell ⟨w.heap.size, 3, none⟩ (.slice A' L' c')) w.heap.size 37 #[.string n, .slice A l.length c, .int .i64 tl, .slice A' L' c'] := ((((x4.set 0 _).set 1 _).set 2 _).set 3 _)
          have O : Own ((((wr.setCell ⟨w.heap.size, 0, none⟩ (.string n)).setCell ⟨w.heap.size, 1, none⟩ (.slice A l.length c)).setCell ⟨w.heap.size, 2, none⟩ (.int .i64 tl)).setCell ⟨w.heap.size, 3, none⟩ (.slice A' L' c')) h3 w3.heap.size 64 tClu (.slice A' L' c') (clusL l) :=
            have q : ∀ k, (Value.slice A' L' c').ownBlock = some k → k ≠ w.heap.size := fun k hk => by obtain ⟨c, hc⟩ := HO.out.box hk; exact hc.ne x4 (by decide)
            (((HO.out.setCell q _).setCell q _).setCell q _).setCell q _
          clear a0 a1 a2 a3 d0 d1 d2 d3 f0 f1 f2 f3 x4 x5 hm x HB
          revert X B O
          generalize ((((wr.setCell ⟨w.heap.size, 0, none⟩ (.string n)).setCell ⟨w.heap.size, 1, none⟩ (.slice A l.length c)).setCell ⟨w.heap.size, 2, none⟩ (.int .i64 tl)).setCell ⟨w.heap.size, 3, none⟩ (.slice A' L' c')) = wf
          intro X B O
          obtain ⟨hf, xf, lf, sf, _⟩ := O.publish X x3.ge
          have b0 : wf.cell? ⟨w.heap.size, 0, none⟩ = some (.string n) := B.cell 0
          have b1 : wf.cell? ⟨w.heap.size, 1, none⟩ = some (.slice A l.length c) := B.cell 1
          have b2 : wf.cell? ⟨w.heap.size, 2, none⟩ = some (.int .i64 tl) := B.cell 2
          have b3 : wf.cell? ⟨w.heap.size, 3, none⟩ = some (.slice A' L' c') := B.cell 3
          have htb := total_bound HOK.out
          refine bodyPost_ret (v := .agg #[.string n, .slice A l.length c, .int .i64 tl, .slice A' L' c']) (by simp [results, Tryd.results20, go_sem, b0, b1, b2, b3]) rfl ?_
          rw [HTL.out] at *
          refine ⟨hf, _, _, rfl, xf, ?_⟩
          exact tLayer_mk (u := layerL n l) (⟨A, c, rfl, hl1, hl2, (hsl.mono X.le).mono lf⟩) sf hns (by constructor <;> (show _ ≤ _; simp only [layerL]; omega))
end Go.Proofs.YthodbodifkeknaaDoor
