/- SampleFramesMatchSpec: the walk. -/
import Derived.Test.YthodbodifkeknaaDoorFrame4
set_option linter.all false
namespace Go.Proofs.YthodbodifkeknaaDoor
open Go.RowKit Hv Go.Proofs
set_option maxRecDepth 100000 in
set_option maxHeartbeats 1600000 in
theorem frames_any (h : View) (w : World) (hs : Sub h w) (ht : TabW w) (v : Value) (l : List Unit4) (hv : Sl h tUnit v l) :
    Calls Tryd.prog 3 #[v] w fun e w' => e = .returned (.bool true) ∧ Below w.heap.size w w' := by
  have HV := Aside.mk hv
  have HT := Aside.mk ht
  have CS := Aside.mk (strata_any h w hs v l hv)
  obtain ⟨A, c, rfl, hl1, hl2, hsl⟩ := hv
  clear ht hsl
  obtain ⟨f, hf⟩ : ∃ f, f = frameF l := ⟨_, rfl⟩
  unfold StrR at CS
  have C2 := Aside.mk (fun h' w' (s : Sub h' w') t v => rstrata_any h' w' s t (.slice A l.length c) l v)
  have C3 := Aside.mk (fun h' w' (s : Sub h' w') v => check_any h' w' s (.slice A l.length c) l v)
  have C4 := Aside.mk (fun h' w' (s : Sub h' w') t v => rcheck_any h' w' s t (.slice A l.length c) l v)
  unfold StrR at C2
  unfold RChk at C3 C4
  rw [← hf] at CS C2 C3 C4
  clear hf
  go_enter Tryd.func3, Tryd.ntmps3
  go_wp2_with (first
    | (go_at_call 4; refine CS.out.mono ?_; rintro e w1 ⟨h1, r1, rfl, x1, s1⟩)
    | (go_at_call 5; refine (C2.out h1 _ x1.sub (HT.out.below x1.below) (HV.out.mono x1.le)).mono ?_; rintro e w2 ⟨h2, r2, rfl, y2, s2⟩; have x2 := x1.trans y2)
    | (go_at_call 6; refine (C3.out h2 _ x2.sub (HV.out.mono x2.le)).mono ?_; rintro e w3 ⟨rfl, h3, y3⟩; have x3 := x2.trans y3)
    | (go_at_call 7; refine (C4.out h3 _ x3.sub (HT.out.below x3.below) (HV.out.mono x3.le)).mono ?_; rintro e w4 ⟨rfl, h4, y4⟩; have x4 := x3.trans y4)
    | (go_at_call 8; refine (equal_any h4 _ x4.sub _ _ (strataR l) (((s1.mono y2.le).mono y3.le).mono y4.le) ((s2.mono y3.le).mono y4.le)).mono ?_; rintro e w5 ⟨rfl, y5⟩; have x5 := x4.trans y5))
  go_ret
  exact ⟨rfl, x5.below⟩
end Go.Proofs.YthodbodifkeknaaDoor
