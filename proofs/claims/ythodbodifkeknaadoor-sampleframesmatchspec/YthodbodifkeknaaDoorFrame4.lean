/- canvassref5.Strata, slices.Equal at strata. -/
import Derived.Test.YthodbodifkeknaaDoorFrame3
set_option linter.all false
namespace Go.Proofs.YthodbodifkeknaaDoor
open Go.RowKit Hv Go.Proofs
set_option maxRecDepth 100000 in
set_option maxHeartbeats 1600000 in
theorem rstrata_any (h : View) (w : World) (hs : Sub h w) (ht : TabW w) (v : Value) (l : List Unit4) (hv : Sl h tUnit v l) : Calls Tryd.prog 5 #[v] w (StrR w h l) := by
  have CL := Aside.mk (rcheck_any h w hs ht v l hv)
  have hv0 := hv
  obtain ⟨A, c, rfl, hl1, hl2, hsl⟩ := hv
  have HV0 := Aside.mk hv0
  clear hv0
  obtain ⟨f, hf⟩ : ∃ f, f = frameF l := ⟨_, rfl⟩
  unfold RChk at CL
  rw [← hf] at CL
  have HF := Aside.mk hf.symm
  clear hf
  by_cases hf0 : f = 0
  rotate_left
  · go_enter Tryd.func5, Tryd.ntmps5
    go_wp2_with (go_at_call 7; refine CL.out.mono ?_; rintro e w2 ⟨rfl, h2, x2⟩)
    go_ret2
    exact StrR.bad HF.out hf0 x2
  subst hf0
  obtain ⟨hb, hu0, hn40⟩ := frame_zero HF.out
  have HOK := Aside.mk (ok_of_units hu0)
  clear hu0
  obtain ⟨L, hL⟩ : ∃ L, L = strataL l := ⟨_, rfl⟩
  have hLl : L.length = (namesD l).length := by rw [hL, strataL_len]
  have hLk : ∀ k (hk : k < (namesD l).length), L.take (k + 1) = L.take k ++ [⟨(namesD l)[k], (ofB l (namesD l)[k]).length, (clusD (ofB l (namesD l)[k])).length, totalL (ofB l (namesD l)[k])⟩] := fun k hk => by
    subst hL
    exact take_snoc_of _ _ (by simpa [strataL, layersL] using hk) (by simp [strataL, layersL, straOf, layerL])
  have HL := Aside.mk hL
  have HLl := Aside.mk hLl
  have HLk := Aside.mk hLk
  clear hL hLl hLk
  have CN := Aside.mk (fun h' W (s : Sub h' W) (v : Sl h' tUnit (.slice A l.length c) l) => names_any h' W s _ l v hb)
  obtain ⟨M, hM⟩ : ∃ M, M = namesD l := ⟨_, rfl⟩
  rw [← hM] at CN HLl HLk hn40
  clear hM
  go_enter Tryd.func5, Tryd.ntmps5
  go_wp2_with (first | (go_at_call 7; refine CL.out.mono ?_; rintro e w2 ⟨rfl, h2, x2⟩) | (go_at_call 10; refine (CN.out h2 _ x2.sub (HV0.out.mono x2.le)).mono ?_; rintro e w3 ⟨h3, _, rfl, y3, A3, c3, rfl, q1, q2, hsm⟩))
  have x3 := x2.trans y3
  clear x2 y3
  go_loopw [5, 7, 8, 17] (fun out _ _ i wr => ∃ (k : Nat) (h' : View), k ≤ M.length ∧ i = .int .i64 k ∧ Ext w h wr h' ∧ View.le h3 h' ∧ Own wr h' w.heap.size 30 tStra out (L.take k)) (fun _ _ _ i _ => M.length - (intOf i).toNat)
  case atStart => exact ⟨0, h3, Nat.zero_le _, rfl, x3, View.le.refl _, Own.nil⟩
  case round =>
    obtain ⟨k, h', hk, rfl, hx, hle, ho⟩ := hrel
    by_cases hlt : k < M.length
    · obtain ⟨b, off, ds, rfl, hK, hc⟩ := (hsm.mono hle).at_ k hlt
      obtain ⟨n, hn⟩ : ∃ n, n = M[k] := ⟨_, rfl⟩
      have hsn := HLk.out k hlt
      rw [← hn] at hsn hK
      obtain ⟨rfl, hr⟩ := hK
      have c0 := hx.sub.cell (hc 0 _ rfl)
      simp only [show tStr.sz = 1 from rfl, Nat.add_zero, Nat.mul_one] at c0
      have hlen : (L.take k).length ≤ 40 := by have := HLl.out; rw [List.length_take]; omega
      have hol : (ofB l n).length ≤ 5000 := Nat.le_trans (ofB_le _ _) hb
      have hok : ∀ u ∈ ofB l n, okUnit u := fun u hu => HOK.out u (List.mem_filter.1 hu).1
      have htb := total_bound hok
      have hsz : ∀ x ∈ (ofB l n).map (·.size), 0 ≤ x ∧ x ≤ 1000000 := by
        intro x hx
        obtain ⟨u, hu, rfl⟩ := List.mem_map.1 hx
        have := hok u hu
        unfold okUnit at this
        omega
      have CO := Aside.mk (of_any h' wr hx.sub _ l n ((HV0.out.mono x3.le).mono hle) hb)
      have CC := Aside.mk (fun h W s v hv => clusters_any h W s v (ofB l n) hv hol)
      have CS := Aside.mk (fun h W s v hv => sizes_any h W s v (ofB l n) hv hol)
      have CT := Aside.mk (fun h W s v hv => total_any h W s v ((ofB l n).map (·.size)) hv (by rw [List.length_map]; exact hol) hsz)
      rw [show ((ofB l n).map (·.size)).sum = totalL (ofB l n) from rfl] at CT
      obtain ⟨X, hX⟩ : ∃ X, X = ofB l n := ⟨_, rfl⟩
      have hcl := clusD_le (ofB l n)
      rw [← hX] at CO CC CS CT hsn hol htb hcl
      obtain ⟨tt, htt⟩ : ∃ tt, tt = totalL X := ⟨_, rfl⟩
      rw [← htt] at CT hsn htb
      have HS := Aside.mk hsn
      clear hsn hn hc hX htt hok hsz
      go_wp2_with (first
        | (go_at_call 11; refine CO.out.mono ?_; rintro e w4 ⟨h4, _, rfl, x4, A4, c4, rfl, p1, p2, hs4⟩)
        | (go_at_call 12; refine (CC.out h4 _ x4.sub _ ⟨A4, c4, rfl, p1, p2, hs4⟩).mono ?_; rintro e w5 ⟨h5, _, rfl, x5, A5, c5, rfl, p3, p4, hs5⟩)
        | (go_at_call 14; refine (CS.out h5 _ x5.sub _ ⟨A4, c4, rfl, p1, p2, hs4.mono x5.le⟩).mono ?_; rintro e w6 ⟨h6, r6, rfl, x6, hs6⟩)
        | (go_at_call 13; refine (CT.out h6 _ x6.sub _ hs6).mono ?_; rintro e w7 ⟨rfl, rfl⟩)
        | (at_builtin; go_loud (refine wpList_app1 (t := tStra) slStra (by decide) rfl rfl (((ho.ext x4).ext x5).ext x6) x6.sub rfl ⟨n, X.length, (clusD X).length, tt⟩ rfl rfl (tStra_mk (u := ⟨n, X.length, (clusD X).length, tt⟩) hr (by constructor <;> (show _ ≤ _; simp only []; omega)) (by constructor <;> (show _ ≤ _; simp only []; omega)) (by constructor <;> (show _ ≤ _; simp only []; omega))) (by omega) (by omega) (by have := hx.ge; have := x4.ge; have := x5.ge; have := x6.ge; omega) ?_); intro v' w' ho' hg hs' hnew))
      have x7 : Ext w h w' h6 := ((((hx.trans x4).trans x5).trans x6).alloc _).grown hg fun g e => ⟨((((ho.ext x4).ext x5).ext x6).lt g e).1, (((ho.ext x4).ext x5).ext x6).2 g e⟩
      rw [← HS.out] at ho'
      go_roundw
      case rel => exact ⟨k + 1, h6, hlt, by simp <;> omega, x7, ((hle.trans x4.le).trans x5.le).trans x6.le, ho'⟩
      case measure => simp [intOf]; omega
    · have hkl : k = M.length := by omega
      subst hkl
      have htk : L.take M.length = L := List.take_of_length_le (by rw [HLl.out]; exact Nat.le_refl _)
      rw [htk] at ho
      obtain ⟨h', x', _, s', _⟩ := ho.publish hx (Nat.le_refl _)
      have S := Aside.mk s'
      have X := Aside.mk x'
      clear s' x' ho htk
      go_wp2
      go_ret2
      exact StrR.good HF.out X.out (by rw [← HL.out]; exact S.out)
theorem stra_at {h : View} {w : World} {A : Option Addr} {l : List Stra} (s : SlAt h tStra A l) (hs : Sub h w) (k : Nat) (hk : k < l.length) : ∃ b off u, u = l[k] ∧ A = some ⟨b, off, none⟩ ∧
    w.cell? ⟨b, off + k * 4, none⟩ = some (.string u.name) ∧ w.cell? ⟨b, off + k * 4 + 1, none⟩ = some (.int .i64 u.units) ∧ w.cell? ⟨b, off + k * 4 + 2, none⟩ = some (.int .i64 u.clusters) ∧ w.cell? ⟨b, off + k * 4 + 3, none⟩ = some (.int .i64 u.size) := by
  obtain ⟨b, off, ds, rfl, hK, hc⟩ := s.at_ k hk
  obtain ⟨rfl, r⟩ := tStra_K hK
  exact ⟨b, off, l[k], rfl, rfl, hs.cell (hc 0 _ rfl), hs.cell (hc 1 _ rfl), hs.cell (hc 2 _ rfl), hs.cell (hc 3 _ rfl)⟩
set_option maxRecDepth 100000 in
set_option maxHeartbeats 1600000 in
theorem equal_any (h : View) (w : World) (hs : Sub h w) (v1 v2 : Value) (l : List Stra) (hv1 : Sl h tStra v1 l) (hv2 : Sl h tStra v2 l) :
    Calls Tryd.prog 8 #[v1, v2] w fun e w' => e = .returned (.bool true) ∧ Ext w h w' h := by
  obtain ⟨A, c, rfl, hl1, hl2, hsl⟩ := hv1
  obtain ⟨A2, c2, rfl, hl3, hl4, hsl2⟩ := hv2
  have hx := Ext.refl hs
  go_enter Tryd.func8, Tryd.ntmps8
  go_wp2
  go_loopw [5, 13] (fun _ i wr => ∃ (k : Nat), k ≤ l.length ∧ i = .int .i64 k ∧ Ext w h wr h) (fun _ i _ => l.length - (intOf i).toNat)
  case atStart => exact ⟨0, Nat.zero_le _, rfl, hx⟩
  case round =>
    obtain ⟨k, hk, rfl, hx⟩ := hrel
    by_cases hlt : k < l.length
    · obtain ⟨b, off, u, hu, rfl, c0, c1, c2, c3⟩ := stra_at hsl hx.sub k hlt
      obtain ⟨b', off', u', hu', rfl, d0, d1, d2, d3⟩ := stra_at hsl2 hx.sub k hlt
      rw [← hu] at hu'
      subst hu'
      clear hu
      go_wp2_with fail
      refine wp_region_mix (fun W => W.cell? ⟨b, off + k * 4, none⟩ = some (.string u'.name) ∧ W.cell? ⟨b, off + k * 4 + 1, none⟩ = some (.int .i64 u'.units) ∧ W.cell? ⟨b, off + k * 4 + 2, none⟩ = some (.int .i64 u'.clusters) ∧ W.cell? ⟨b, off + k * 4 + 3, none⟩ = some (.int .i64 u'.size) ∧
        W.cell? ⟨b', off' + k * 4, none⟩ = some (.string u'.name) ∧ W.cell? ⟨b', off' + k * 4 + 1, none⟩ = some (.int .i64 u'.units) ∧ W.cell? ⟨b', off' + k * 4 + 2, none⟩ = some (.int .i64 u'.clusters) ∧ W.cell? ⟨b', off' + k * 4 + 3, none⟩ = some (.int .i64 u'.size)) [] 9 (by kernel_rfl) (by kernel_rfl) (by decide) ⟨c0, c1, c2, c3, d0, d1, d2, d3⟩ ?_
      show wpMix _ _ _ _ _ [0, 1, 2, 3, 4, 5, 6, 7, 8] _ _
      iterate 9
        refine mix_e rfl rfl rfl ?_
        apply Exists.intro
        constructor
        · rintro W ⟨q0, q1, q2, q3, q4, q5, q6, q7⟩
          go_simp
          rfl
        simp only [Act.put, List.setIfInBounds_toArray, List.set_cons_zero, List.set_cons_succ]
      refine mix_nil (wpList_nil (onlyN ?_))
      go_wp2
      go_roundw
      case rel => exact ⟨k + 1, hlt, by simp <;> omega, hx.drew⟩
      case measure => simp [intOf]; omega
    · go_wp2
      go_ret
      exact ⟨rfl, hx⟩
end Go.Proofs.YthodbodifkeknaaDoor
