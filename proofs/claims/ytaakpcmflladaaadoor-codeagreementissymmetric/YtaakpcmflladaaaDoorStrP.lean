/- Bytes of a text, in plain Lean. -/
import Derived.Test.YtaakpcmflladaaaDoorHv
import Derived.Test.YtaakpcmflladaaaDoorAside
set_option linter.all false
namespace Go.Proofs.YtaakpcmflladaaaDoor
theorem all_take_succ {α : Type} (p : α → Bool) (l : List α) (k : Nat) (hk : k < l.length) (h : (l.take k).all p = true) (hp : p l[k] = true) : (l.take (k + 1)).all p = true := by
  rw [List.take_succ_eq_append_getElem hk, List.all_append, h]; simp [hp]
theorem all_false_at {α : Type} (p : α → Bool) (l : List α) (k : Nat) (hk : k < l.length) (hp : p l[k] = false) : l.all p = false := by
  rw [List.all_eq_false]; exact ⟨l[k], List.getElem_mem hk, by simp [hp]⟩
theorem data_len (s : ByteArray) : s.data.toList.length = s.size := by rw [Array.length_toList]; rfl
theorem headD_at (l : List UInt8) (h : 0 < l.length) : l.headD 0 = l[0] := by
  cases l with
  | nil => simp at h
  | cons x l => rfl
theorem data_at (s : ByteArray) (k : Nat) (hk : k < s.size) : s.data.toList[k]'(by rw [data_len]; exact hk) = s[k] := by rw [Array.getElem_toList]; rfl
theorem u8_range (c : UInt8) : 0 ≤ (c.toNat : Int) ∧ (c.toNat : Int) < 256 := ⟨by omega, by have := c.toNat_lt; omega⟩
end Go.Proofs.YtaakpcmflladaaaDoor
