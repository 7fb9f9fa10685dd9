/- value.IsName and canvassref1.IsName: both tell whether a text is a name. -/
import Derived.Test.YthodbodifkeknaaDoorHv
import Derived.Test.YthodbodifkeknaaDoorProg
set_option linter.all false
namespace Go.Proofs.YthodbodifkeknaaDoor
open Go.RowKit Hv Go.Proofs
structure Aside (p : Prop) : Prop where mk :: (out : p)
def lowerB (c : UInt8) : Bool := decide (97 ≤ (c.toNat : Int) ∧ (c.toNat : Int) ≤ 122)
def wordB (c : UInt8) : Bool := decide ((97 ≤ (c.toNat : Int) ∧ (c.toNat : Int) ≤ 122) ∨ (48 ≤ (c.toNat : Int) ∧ (c.toNat : Int) ≤ 57) ∨ (c.toNat : Int) = 95)
def reserved : List (List UInt8) := [[97, 110, 100], [111, 114], [110, 111, 116], [105, 110], [104, 97, 115], [109, 111, 100], [116, 114, 117, 101], [102, 97, 108, 115, 101]]
def nameB (s : List UInt8) : Bool := !s.isEmpty && decide (s.length ≤ 16) && lowerB (s.headD 0) && !reserved.contains s && s.all wordB
set_option maxRecDepth 100000 in
theorem lower_any (c : UInt8) (w : World) : Calls Tryd.prog 28 #[.int .u8 c.toNat] w fun e w' => e = .returned (.bool (lowerB c)) ∧ w = w' := by
  have h0 : 0 ≤ (c.toNat : Int) ∧ (c.toNat : Int) < 256 := ⟨by omega, by have := c.toNat_lt; omega⟩
  by_cases h1 : 97 ≤ (c.toNat : Int)
  · by_cases h2 : (c.toNat : Int) ≤ 122
    · have e : lowerB c = true := by simp [lowerB]; omega
      rw [e]; go_enter Tryd.func28, Tryd.ntmps28
      go_wp2
      go_ret
      exact ⟨rfl, rfl⟩
    · have e : lowerB c = false := by simp [lowerB]; omega
      rw [e]; go_enter Tryd.func28, Tryd.ntmps28
      go_wp2
      go_ret
      exact ⟨rfl, rfl⟩
  · have e : lowerB c = false := by simp [lowerB]; omega
    rw [e]; go_enter Tryd.func28, Tryd.ntmps28
    go_wp2
    go_ret
    exact ⟨rfl, rfl⟩
theorem u8_range (c : UInt8) : 0 ≤ (c.toNat : Int) ∧ (c.toNat : Int) < 256 := ⟨by omega, by have := c.toNat_lt; omega⟩
set_option maxRecDepth 100000 in
theorem word_any (c : UInt8) (w : World) : Calls Tryd.prog 30 #[.int .u8 c.toNat] w fun e w' => e = .returned (.bool (wordB c)) ∧ w = w' := by
  have h0 := u8_range c
  obtain ⟨b, hb⟩ : ∃ b, b = wordB c := ⟨_, rfl⟩
  rw [← hb]
  have e : (b = true ↔ (97 ≤ (c.toNat : Int) ∧ (c.toNat : Int) ≤ 122) ∨ (48 ≤ (c.toNat : Int) ∧ (c.toNat : Int) ≤ 57) ∨ (c.toNat : Int) = 95) := by rw [hb]; simp only [wordB, decide_eq_true_eq]
  clear hb
  have E := Aside.mk e
  clear e
  have fin : ∀ x : Bool, (x = true ↔ (97 ≤ (c.toNat : Int) ∧ (c.toNat : Int) ≤ 122) ∨ (48 ≤ (c.toNat : Int) ∧ (c.toNat : Int) ≤ 57) ∨ (c.toNat : Int) = 95) → Ending.returned (.bool x) = Ending.returned (.bool b) := by
    intro x hx; rw [Bool.eq_iff_iff.2 (hx.trans E.out.symm)]
  have F := Aside.mk fin
  clear fin
  by_cases h1 : 97 ≤ (c.toNat : Int) <;> by_cases h2 : (c.toNat : Int) ≤ 122 <;> by_cases h3 : 48 ≤ (c.toNat : Int) <;> by_cases h4 : (c.toNat : Int) ≤ 57 <;> by_cases h5 : (c.toNat : Int) = 95 <;> try omega
  all_goals
    go_enter Tryd.func30, Tryd.ntmps30
    go_wp2
    go_ret
    exact ⟨F.out _ (by simp; omega), rfl⟩
set_option maxRecDepth 100000 in
theorem rword_any (c : UInt8) (w : World) : Calls Tryd.prog 27 #[.int .u8 c.toNat] w fun e w' => e = .returned (.bool (wordB c)) ∧ w = w' := by
  have h0 := u8_range c
  obtain ⟨b, hb⟩ : ∃ b, b = wordB c := ⟨_, rfl⟩
  rw [← hb]
  have e : (b = true ↔ (97 ≤ (c.toNat : Int) ∧ (c.toNat : Int) ≤ 122) ∨ (48 ≤ (c.toNat : Int) ∧ (c.toNat : Int) ≤ 57) ∨ (c.toNat : Int) = 95) := by rw [hb]; simp only [wordB, decide_eq_true_eq]
  clear hb
  have E := Aside.mk e
  clear e
  have fin : ∀ x : Bool, (x = true ↔ (97 ≤ (c.toNat : Int) ∧ (c.toNat : Int) ≤ 122) ∨ (48 ≤ (c.toNat : Int) ∧ (c.toNat : Int) ≤ 57) ∨ (c.toNat : Int) = 95) → Ending.returned (.bool x) = Ending.returned (.bool b) := by
    intro x hx; rw [Bool.eq_iff_iff.2 (hx.trans E.out.symm)]
  have F := Aside.mk fin
  clear fin
  by_cases h1 : 97 ≤ (c.toNat : Int) <;> by_cases h2 : (c.toNat : Int) ≤ 122 <;> by_cases h3 : 48 ≤ (c.toNat : Int) <;> by_cases h4 : (c.toNat : Int) ≤ 57 <;> by_cases h5 : (c.toNat : Int) = 95 <;> try omega
  all_goals
    go_enter Tryd.func27, Tryd.ntmps27
    go_wp2
    go_ret
    exact ⟨F.out _ (by simp; omega), rfl⟩
set_option maxRecDepth 100000 in
theorem reserved_any (s : ByteArray) (w : World) : Calls Tryd.prog 29 #[.string s] w fun e w' => e = .returned (.bool (reserved.contains s.data.toList)) ∧ w = w' := by
  go_enter Tryd.func29, Tryd.ntmps29
  go_wp2
  all_goals
    first | (exfalso; simp_all; done) | (go_ret; refine ⟨?_, rfl⟩; simp_all [reserved, Go.ByteArray.toList_eq])
theorem all_take_succ {α : Type} (p : α → Bool) (l : List α) (k : Nat) (hk : k < l.length) (h : (l.take k).all p = true) (hp : p l[k] = true) : (l.take (k + 1)).all p = true := by
  rw [List.take_succ_eq_append_getElem hk, List.all_append, h]; simp [hp]
theorem all_false_at {α : Type} (p : α → Bool) (l : List α) (k : Nat) (hk : k < l.length) (hp : p l[k] = false) : l.all p = false := by
  rw [List.all_eq_false]; exact ⟨l[k], List.getElem_mem hk, by simp [hp]⟩
theorem data_len (s : ByteArray) : s.data.toList.length = s.size := by rw [Array.length_toList]; rfl
theorem nameB_nil : nameB [] = false := rfl
theorem nameB_long {l : List UInt8} (h : 16 < l.length) : nameB l = false := by
  have e : decide (l.length ≤ 16) = false := decide_eq_false (by omega)
  unfold nameB; rw [e]; simp only [Bool.and_false, Bool.false_and]
theorem nameB_head {l : List UInt8} (h : lowerB (l.headD 0) = false) : nameB l = false := by
  unfold nameB; rw [h]; simp only [Bool.and_false, Bool.false_and]
theorem nameB_reserved {l : List UInt8} (h : reserved.contains l = true) : nameB l = false := by
  unfold nameB; rw [h]; simp only [Bool.and_false, Bool.false_and, Bool.not_true]
theorem nameB_word {l : List UInt8} (h : l.all wordB = false) : nameB l = false := by
  unfold nameB; rw [h]; simp only [Bool.and_false]
theorem nameB_yes {l : List UInt8} (h0 : l ≠ []) (h1 : l.length ≤ 16) (h2 : lowerB (l.headD 0) = true) (h3 : reserved.contains l = false) (h4 : l.all wordB = true) : nameB l = true := by
  have e : l.isEmpty = false := by simpa using h0
  unfold nameB; rw [e, h2, h3, h4, decide_eq_true h1]; rfl
theorem headD_at (l : List UInt8) (h : 0 < l.length) : l.headD 0 = l[0] := by
  cases l with
  | nil => simp at h
  | cons x l => rfl
theorem data_at (s : ByteArray) (k : Nat) (hk : k < s.size) : s.data.toList[k]'(by rw [data_len]; exact hk) = s[k] := by rw [Array.getElem_toList]; rfl
set_option maxRecDepth 100000 in
theorem name_any (s : ByteArray) (w : World) (hs : s.size ≤ 9223372036854775807) : Calls Tryd.prog 16 #[.string s] w fun e w' => e = .returned (.bool (nameB s.data.toList)) ∧ w = w' := by
  obtain ⟨b, hb⟩ : ∃ b, b = nameB s.data.toList := ⟨_, rfl⟩
  rw [← hb]
  have HB := Aside.mk hb
  clear hb
  have hl := data_len s
  by_cases h1 : s.size = 0
  · have e : b = false := by rw [HB.out]; rw [List.eq_nil_of_length_eq_zero (by omega : s.data.toList.length = 0)]; exact nameB_nil
    subst e
    have h3 : (s.toList == []) = true := by rw [Go.ByteArray.toList_eq, List.eq_nil_of_length_eq_zero (by omega : s.data.toList.length = 0)]; rfl
    have h3' : s.toList.isEmpty = true := by rw [Go.ByteArray.toList_eq, List.eq_nil_of_length_eq_zero (by omega : s.data.toList.length = 0)]; rfl
    clear hl h1
    go_enter Tryd.func16, Tryd.ntmps16
    go_wp2
    go_ret
    exact ⟨rfl, rfl⟩
  have hne : s.data.toList ≠ [] := by intro e; rw [e] at hl; simp at hl; omega
  have h3 : (s.toList == []) = false := by rw [Go.ByteArray.toList_eq]; simpa using hne
  have h3' : s.toList.isEmpty = false := by rw [Go.ByteArray.toList_eq]; simpa using hne
  by_cases h2 : 16 < s.size
  · have e : b = false := by rw [HB.out]; exact nameB_long (by omega)
    subst e
    clear hl h1
    go_enter Tryd.func16, Tryd.ntmps16
    go_wp2
    go_ret
    exact ⟨rfl, rfl⟩
  have h0 : 0 < s.size := by omega
  have hhd : s.data.toList.headD 0 = s[0] := by rw [← data_at s 0 h0]; exact headD_at _ (by omega)
  have HH := Aside.mk hhd
  have HN := Aside.mk hne
  have HL := Aside.mk hl
  clear hl hhd hne h1
  cases h4 : lowerB s[0]
  · have e : b = false := by rw [HB.out]; exact nameB_head (by rw [HH.out]; exact h4)
    subst e
    go_enter Tryd.func16, Tryd.ntmps16
    go_wp2_with (first | (go_at_call 28; refine (lower_any _ _).mono ?_; rintro e w' ⟨rfl, rfl⟩; rw [h4]))
    go_ret
    exact ⟨rfl, rfl⟩
  cases h5 : reserved.contains s.data.toList
  · go_enter Tryd.func16, Tryd.ntmps16
    go_wp2_with (first | (go_at_call 28; refine (lower_any _ _).mono ?_; rintro e w' ⟨rfl, rfl⟩; rw [h4]) | (go_at_call 29; refine (reserved_any _ _).mono ?_; rintro e w' ⟨rfl, rfl⟩; rw [h5]))
    go_loop [3] (fun i => ∃ k : Nat, k ≤ s.size ∧ i = .int .i64 k ∧ Aside ((s.data.toList.take k).all wordB = true)) (fun i => s.size - (intOf i).toNat)
    case atStart => exact ⟨0, Nat.zero_le _, rfl, ⟨by simp⟩⟩
    case round =>
      obtain ⟨k, hk, rfl, HA⟩ := hrel
      by_cases hlt : k < s.size
      · cases h6 : wordB s[k]
        · have e : b = false := by
            rw [HB.out]
            have := all_false_at wordB s.data.toList k (by rw [HL.out]; exact hlt) (by rw [data_at s k hlt]; exact h6)
            exact nameB_word this
          subst e
          go_wp2_with (first | (go_at_call 30; refine (word_any _ _).mono ?_; rintro e w' ⟨rfl, rfl⟩; rw [h6]))
          go_ret
          exact ⟨rfl, rfl⟩
        · go_wp2_with (first | (go_at_call 30; refine (word_any _ _).mono ?_; rintro e w' ⟨rfl, rfl⟩; rw [h6]))
          go_round
          case rel => exact ⟨k + 1, by omega, by go_num, ⟨all_take_succ wordB _ k (by rw [HL.out]; exact hlt) HA.out (by rw [data_at s k hlt]; exact h6)⟩⟩
          case measure => simp [intOf]; omega
      · have e : b = true := by
          have := HA.out
          rw [List.take_of_length_le (by rw [HL.out]; omega)] at this
          rw [HB.out]
          exact nameB_yes HN.out (by rw [HL.out]; omega) (by rw [HH.out]; exact h4) h5 this
        subst e
        go_wp2
        go_ret
        exact ⟨rfl, rfl⟩
  · have e : b = false := by rw [HB.out]; exact nameB_reserved h5
    subst e
    go_enter Tryd.func16, Tryd.ntmps16
    go_wp2_with (first | (go_at_call 28; refine (lower_any _ _).mono ?_; rintro e w' ⟨rfl, rfl⟩; rw [h4]) | (go_at_call 29; refine (reserved_any _ _).mono ?_; rintro e w' ⟨rfl, rfl⟩; rw [h5]))
    go_ret
    exact ⟨rfl, rfl⟩
end Go.Proofs.YthodbodifkeknaaDoor
