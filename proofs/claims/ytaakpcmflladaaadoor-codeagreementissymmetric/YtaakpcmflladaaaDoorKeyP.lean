/- Keys that are pairs of numbers. -/
import Derived.Test.YtaakpcmflladaaaDoorHvEntry
import Derived.Test.YtaakpcmflladaaaDoorProg
import Derived.DeepKeys4
set_option linter.all false
namespace Go.Proofs.YtaakpcmflladaaaDoor
open Go.RowKit Hv Go.Proofs
theorem pairLaid : laidOutB Tryd.prog = true := by kernel_rfl
theorem pairRow : (43 : TypeId) < Tryd.prog.types.size := of_decide_eq_true (by kernel_rfl)
theorem pairLaw : WideMaps.KeyLaw Tryd.prog 43 := deep_law_laid pairLaid (m := 2) (by omega) pairRow (by kernel_rfl) (by rw [Tryd.underlying43])
theorem keyLitsInt {a : Int} (ha : inRange .i64 a) (d : Nat) : Tryd.prog.keyLits (d + 1) 3 [.int .i64 a] = some [.int .i64 a] := by
  unfold Program.keyLits
  rw [Tryd.underlying3]
  simp [wf_i64 ha]
theorem keyLitsPair {a b : Int} (ha : inRange .i64 a) (hb : inRange .i64 b) (d : Nat) : Tryd.prog.keyLits (d + 1 + 1) 43 [.int .i64 a, .int .i64 b] = some [.int .i64 a, .int .i64 b] := by
  have h2 : Tryd.prog.cellsOf 43 = 2 := by kernel_rfl
  have h4 : Tryd.prog.cellsOf 3 = 1 := by kernel_rfl
  unfold Program.keyLits
  rw [Tryd.underlying43]
  simp [h2, h4, keyLitsInt ha, keyLitsInt hb]
theorem keyOfPair {a b : Int} (ha : inRange .i64 a) (hb : inRange .i64 b) : ∃ l, keyOf Tryd.prog 43 (.agg #[.int .i64 a, .int .i64 b]) = some l := by
  have h1 : Tryd.prog.keyType 43 = true := by kernel_rfl
  have h2 : Tryd.prog.cellsOf 43 = 2 := by kernel_rfl
  have h3 : ∃ d, Tryd.prog.types.size + 1 = d + 1 + 1 := by exact ⟨_, rfl⟩
  obtain ⟨d, hd⟩ := h3
  have hl := keyLitsPair ha hb d
  rw [← hd] at hl
  unfold keyOf
  rw [Tryd.underlying43]
  have h5 : (Value.agg #[.int .i64 a, .int .i64 b]).formed Tryd.prog 43 = true := by
    unfold Value.formed
    rw [Tryd.underlying43]
    simp [h2]
  have h6 : (Value.agg #[.int .i64 a, .int .i64 b]).cells.toList = [.int .i64 a, .int .i64 b] := rfl
  simp only [h1, h5, h6, hl, Bool.and_self, if_true]
  exact ⟨_, rfl⟩
def Kp : KeyT Tryd.prog 43 (Int × Int) where
  ek := fun x => .agg #[.int .i64 x.1, .int .i64 x.2]
  ok := fun x => inRange .i64 x.1 ∧ inRange .i64 x.2
  keyed := Maps.Keyed.of_law pairLaw
  is := fun x h => keyOfPair h.1 h.2
  inj := fun x y h => by
    injection h with h
    simp at h
    exact Prod.ext h.1 h.2
end Go.Proofs.YtaakpcmflladaaaDoor
