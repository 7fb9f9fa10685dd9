/- code.coders, both. -/
import Derived.Test.YtaakpcmflladaaaDoorCode3
set_option linter.all false
namespace Go.Proofs.YtaakpcmflladaaaDoor
open Go.RowKit Hv Go.Proofs
def codersF (l : List Node) (cs : List Cod) : Int := if treeF l ≠ 0 then treeF l else codsF l cs
def bothF (l : List Node) (cs : List Cod) (a b : Int) : Int := if codersF l cs ≠ 0 then codersF l cs else if outC a 1 50 = true then 1 else if outC b 1 50 = true then 1 else 0
theorem bothF_symm (l : List Node) (cs : List Cod) (a b : Int) : bothF l cs a b = bothF l cs b a := by
  unfold bothF
  cases outC a 1 50 <;> cases outC b 1 50 <;> rfl
theorem treeF_good {l : List Node} (h : treeF l = 0) : Good l := by
  apply good_of
  by_cases e : nodesF l = 0
  · exact e
  · unfold treeF at h
    simp only [e, ne_eq, not_false_eq_true, if_true] at h
set_option maxRecDepth 100000 in
set_option maxHeartbeats 3200000 in
theorem coders_any (h : View) (w : World) (hs : Sub h w) (vl vc : Value) (l : List Node) (cs : List Cod) (hl : Sl h tNode vl l) (hc : Sl h tCod vc cs) :
    Calls Tryd.prog 21 #[vl, vc] w fun e w' => ∃ h' p, e = .returned (.tuple #[p, .int .i64 (codersF l cs)]) ∧ Ext w h w' h' := by
  have CT := Aside.mk (fun (W : World) (hW : Sub h W) => tree_any h W hW vl l hl)
  obtain ⟨t, ht⟩ : ∃ t, t = treeF l := ⟨_, rfl⟩
  obtain ⟨n, hn⟩ : ∃ n, n = codersF l cs := ⟨_, rfl⟩
  rw [← hn]
  have HN := Aside.mk hn
  have HT := Aside.mk ht
  have HC := Aside.mk hc
  clear hn ht hl hc
  have hx := Ext.refl hs
  go_enter Tryd.func21, Tryd.ntmps21
  go_wp2_with fail
  refine (CT.out _ hs).mono ?_
  rintro e w1 ⟨h1, p, rfl, x1, hgood⟩
  rw [← HT.out] at hgood ⊢
  by_cases h0 : t = 0
  · have TG := HT.out.symm.trans h0
    obtain ⟨bt, rfl, hti⟩ := hgood h0
    have CC := Aside.mk (cods_any h1 w1 x1.sub bt l hti (treeF_good TG).rise vc cs (HC.out.mono x1.le))
    have E : n = codsF l cs := by rw [HN.out]; unfold codersF; rw [if_neg (by rw [TG]; decide)]
    rw [← E] at CC
    clear E TG hti hgood
    have t0 : (t != 0) = false := by rw [h0]; rfl
    clear h0
    go_wp2_with (go_at_call 39; refine CC.out.mono ?_; rintro e w2 ⟨rfl, x2⟩)
    go_ret2
    exact ⟨h1, _, rfl, x1.trans x2⟩
  · have E : Aside (n = t) := ⟨by rw [HN.out]; unfold codersF; rw [← HT.out, if_pos h0]⟩
    have t0 : (t != 0) = true := by rw [bne_iff_ne]; exact h0
    clear h0 hgood
    go_wp2
    go_ret2
    exact ⟨h1, .pointer none, by rw [E.out]; rfl, x1⟩
set_option maxRecDepth 100000 in
set_option maxHeartbeats 3200000 in
theorem both_any (h : View) (w : World) (hs : Sub h w) (vl vc : Value) (l : List Node) (cs : List Cod) (hl : Sl h tNode vl l) (hc : Sl h tCod vc cs) (a b : Int) :
    Calls Tryd.prog 9 #[vl, vc, .int .i64 a, .int .i64 b] w fun e w' => ∃ h', e = .returned (.int .i64 (bothF l cs a b)) ∧ Ext w h w' h' := by
  have CT := Aside.mk (fun (W : World) (hW : Sub h W) => coders_any h W hW vl vc l cs hl hc)
  obtain ⟨t, ht⟩ : ∃ t, t = codersF l cs := ⟨_, rfl⟩
  obtain ⟨oa, ha⟩ : ∃ t, t = outC a 1 50 := ⟨_, rfl⟩
  obtain ⟨ob, hb⟩ : ∃ t, t = outC b 1 50 := ⟨_, rfl⟩
  have E : bothF l cs a b = (if t ≠ 0 then t else if oa = true then 1 else if ob = true then 1 else 0) := by unfold bothF; rw [ht, ha, hb]
  obtain ⟨n, hn⟩ : ∃ n, n = bothF l cs a b := ⟨_, rfl⟩
  rw [← hn] at E ⊢
  rw [← ht] at CT
  have CA := Aside.mk (fun (W : World) => outC_any a 1 50 W)
  rw [← ha] at CA
  have CB := Aside.mk (fun (W : World) => outC_any b 1 50 W)
  rw [← hb] at CB
  clear hn ht hl hc ha hb
  have hx := Ext.refl hs
  have HE := Aside.mk E
  clear E
  go_enter Tryd.func9, Tryd.ntmps9
  go_wp2_with fail
  refine (CT.out _ hs).mono ?_
  rintro e w1 ⟨h1, p, rfl, x1⟩
  by_cases h0 : t = 0
  · have HE := Aside.mk (HE.out.trans (if_neg (by rw [h0]; decide)))
    have t0 : (t != 0) = false := by rw [h0]; rfl
    clear h0
    cases oa
    · cases ob
      · have E : Aside (n = 0) := ⟨by rw [HE.out]; rfl⟩
        go_wp2_with fail
        refine (CA.out _).mono ?_
        rintro e w' ⟨rfl, rfl⟩
        go_wp2_with fail
        refine (CB.out _).mono ?_
        rintro e w' ⟨rfl, rfl⟩
        go_wp2
        go_ret
        exact ⟨h1, by rw [E.out]; rfl, x1⟩
      · have E : Aside (n = 1) := ⟨by rw [HE.out]; rfl⟩
        go_wp2_with fail
        refine (CA.out _).mono ?_
        rintro e w' ⟨rfl, rfl⟩
        go_wp2_with fail
        refine (CB.out _).mono ?_
        rintro e w' ⟨rfl, rfl⟩
        go_wp2
        go_ret
        exact ⟨h1, by rw [E.out]; rfl, x1⟩
    · have E : Aside (n = 1) := ⟨by rw [HE.out]; rfl⟩
      go_wp2_with fail
      refine (CA.out _).mono ?_
      rintro e w' ⟨rfl, rfl⟩
      go_wp2
      go_ret
      exact ⟨h1, by rw [E.out]; rfl, x1⟩
  · have E : Aside (n = t) := ⟨by rw [HE.out, if_pos h0]⟩
    have t0 : (t != 0) = true := by rw [bne_iff_ne]; exact h0
    clear h0
    go_wp2
    go_ret
    exact ⟨h1, by rw [E.out]; rfl, x1⟩
end Go.Proofs.YtaakpcmflladaaaDoor
