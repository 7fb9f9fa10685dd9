/- SampleFramesMatchSpec: CheckFrame and Strata are as specified, for any frames. Conditions: the package variables unicode.White_Space and strings.asciiSpace hold what the program's text lays; the card ties that to the text. -/
import Derived.Test.YthodbodifkeknaaDoorRows
import Derived.Test.YthodbodifkeknaaDoorOpen
import Derived.Test.YthodbodifkeknaaDoorFrameLaw
import Derived.WalkKit
import Derived.ProofKit
import Derived.LaidMore
import Derived.OpenShut
import Derived.ShutString
import Derived.ChangeOld
import Derived.Below
import Derived.SizedLaws
import Derived.Stop.Joined
import Derived.Carry
import Derived.Stop.LaidErr
set_option linter.all false
namespace Go.Proofs.YthodbodifkeknaaDoor
open Go.ChangeShapes Go.WideShapes Go.ChangeAt Go.RowKit Hv
theorem list4 {α : Type} {l : List α} (h : l.length = 4) : ∃ a b c d, l = [a, b, c, d] := by
  rcases l with _ | ⟨a, _ | ⟨b, _ | ⟨c, _ | ⟨d, _ | ⟨e, l⟩⟩⟩⟩⟩
  all_goals first | (simp at h; done) | exact ⟨_, _, _, _, rfl⟩
theorem unit_open {H : Type} {enc : TypeId × Value → H} {w : World} {base : Nat} {sp : Nat → Bool} {held : Bool} (fuel : Nat) (cs : List Value) (x : DataW H × List MemPlace) (h : DataW.trod enc Tryd.prog w base sp held fuel 45 cs = some x) : ∃ u : Unit4, tUnit.K (fullV w) u cs := by
  obtain ⟨xs, n, rfl, rfl, hl, hxl, hf⟩ := DataW.trod_struct Tryd.underlying45 h
  have z45 : Tryd.prog.cellsOf 45 = 4 := by kernel_rfl
  rw [z45] at hl
  obtain ⟨c0, c1, c2, c3, rfl⟩ := list4 hl
  obtain ⟨x0, x1, x2, x3, rfl⟩ := list4 (show xs.length = 4 from hxl)
  have h0 : DataW.trod enc Tryd.prog w base sp held n 3 (([c0, c1, c2, c3].drop 0).take (Tryd.prog.cellsOf 3)) = some x0 := hf 0 _ rfl
  have h1 : DataW.trod enc Tryd.prog w base sp held n 9 (([c0, c1, c2, c3].drop 1).take (Tryd.prog.cellsOf 9)) = some x1 := hf 1 _ rfl
  have h2 : DataW.trod enc Tryd.prog w base sp held n 3 (([c0, c1, c2, c3].drop 2).take (Tryd.prog.cellsOf 3)) = some x2 := hf 2 _ rfl
  have h3 : DataW.trod enc Tryd.prog w base sp held n 3 (([c0, c1, c2, c3].drop 3).take (Tryd.prog.cellsOf 3)) = some x3 := hf 3 _ rfl
  have z3 : Tryd.prog.cellsOf 3 = 1 := by kernel_rfl
  have z9 : Tryd.prog.cellsOf 9 = 1 := by kernel_rfl
  rw [z3] at h0 h2 h3
  rw [z9] at h1
  obtain ⟨a0, e0, _, w0⟩ := DataW.trod_int Tryd.underlying3 h0
  obtain ⟨a1, e1, _, w1⟩ := DataW.trod_string Tryd.underlying9 h1
  obtain ⟨a2, e2, _, w2⟩ := DataW.trod_int Tryd.underlying3 h2
  obtain ⟨a3, e3, _, w3⟩ := DataW.trod_int Tryd.underlying3 h3
  simp at e0 e1 e2 e3
  subst e0; subst e1; subst e2; subst e3
  unfold maxLen at w1
  exact ⟨⟨a0, a1, a2, a3⟩, tUnit_mk (u := ⟨a0, a1, a2, a3⟩) (range_wf w0) w1 (range_wf w2) (range_wf w3)⟩
theorem own : ownKnob Tryd.prog.godebug = none := by kernel_rfl
theorem laidOut : laidOutB Tryd.prog = true := by kernel_rfl
def laidL : List (String × DataW Unit) := Rows.sampleFramesMatchSpecRow.laid
theorem tab_data : (Rows.laid_strings_asciiSpace : DataW Unit) = Lib.tabData .u8 Lib.asciiSpaceTab := by kernel_rfl
theorem tab_of_laid {W : World} (h : laidMetH Tryd.prog laidL W) : TabW W := by
  rw [MakeChecks.laidMetH_plain _ _ _ (by kernel_rfl)] at h
  have h2 := laidMet.tail (show laidMet Tryd.prog (("unicode.White_Space", Rows.laid_unicode_White_Space) :: [("strings.asciiSpace", Rows.laid_strings_asciiSpace)]) W from h)
  rw [tab_data] at h2
  exact Lib.tabIs_of_head (g := 0) (by kernel_rfl) (by kernel_rfl) Tryd.underlying74 Tryd.underlying5 (by kernel_rfl) (by kernel_rfl) h2
theorem door_met (os : Os) (args : Array Value) : laidMetH Tryd.prog laidL ((World.doorLaid Tryd.prog 400 os).forCall (fun _ _ => 0) ⟨#[], args, []⟩).memory :=
  laidMetH_of_parts3 (fuel := 8) (laidMet_of_run' 8 (by kernel_rfl) (by kernel_rfl)) (by kernel_rfl) (by kernel_rfl)
end Go.Proofs.YthodbodifkeknaaDoor
