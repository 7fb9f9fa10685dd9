/- canvassref1.IsName: the same names as value.IsName. -/
import Derived.Test.YthodbodifkeknaaDoorRef2
set_option linter.all false
namespace Go.Proofs.YthodbodifkeknaaDoor
open Go.RowKit Hv Go.Proofs
/-- The library's table of ASCII spaces holds what it was laid with. -/
def TabW (w : World) : Prop := Lib.TabIs Tryd.prog w "strings.asciiSpace" .u8 Lib.asciiSpaceTab
theorem TabW.below {w w' : World} (h : TabW w) (hb : Below w.heap.size w w') : TabW w' := by
  unfold TabW Lib.TabIs World.var? at h ⊢
  cases hg : Tryd.prog.globalNamed "strings.asciiSpace" with
  | none => rw [hg] at h; cases h
  | some g =>
    rw [hg] at h
    simp only [Option.bind_some] at h ⊢
    have hlt : g < w.heap.size := by
      rcases Nat.lt_or_ge g w.heap.size with h' | h'
      · exact h'
      · rw [Array.getElem?_eq_none h'] at h; cases h
    rw [hb.block g hlt]
    exact h
def resT : List UInt8 := [97, 110, 100, 32, 111, 114, 32, 110, 111, 116, 32, 105, 110, 32, 104, 97, 115, 32, 109, 111, 100, 32, 116, 114, 117, 101, 32, 102, 97, 108, 115, 101]
theorem resT_fields : Lib.fields resT = reserved := by decide
theorem fields_any (w : World) (ht : TabW w) : Calls Tryd.prog 26 #[.string ⟨#[97, 110, 100, 32, 111, 114, 32, 110, 111, 116, 32, 105, 110, 32, 104, 97, 115, 32, 109, 111, 100, 32, 116, 114, 117, 101, 32, 102, 97, 108, 115, 101]⟩] w fun e w' =>
    e = .returned (.slice (some ⟨w.heap.size, 0, none⟩) 8 8) ∧ w.alloc (.cells #[.string ⟨#[97, 110, 100]⟩, .string ⟨#[111, 114]⟩, .string ⟨#[110, 111, 116]⟩, .string ⟨#[105, 110]⟩, .string ⟨#[104, 97, 115]⟩, .string ⟨#[109, 111, 100]⟩, .string ⟨#[116, 114, 117, 101]⟩, .string ⟨#[102, 97, 108, 115, 101]⟩] 9) = w' := by
  have key := Tryd.strings_Fields_laid ⟨resT.toArray⟩ w (by decide) (by
    intro j b hb
    have : ∀ b ∈ resT, b.toNat < 128 := by decide
    exact this b (List.mem_of_getElem? hb)) ht
  refine key.mono ?_
  rintro e w' ⟨rfl, rfl⟩
  have e : Lib.fields (ByteArray.mk resT.toArray).data.toList = reserved := resT_fields
  rw [e]
  exact ⟨rfl, rfl⟩
def reservedS : List ByteArray := [⟨#[97, 110, 100]⟩, ⟨#[111, 114]⟩, ⟨#[110, 111, 116]⟩, ⟨#[105, 110]⟩, ⟨#[104, 97, 115]⟩, ⟨#[109, 111, 100]⟩, ⟨#[116, 114, 117, 101]⟩, ⟨#[102, 97, 108, 115, 101]⟩]
theorem reservedS_data : reservedS.map (fun x => x.data.toList) = reserved := by decide
theorem contains_any (w : World) (g : Nat) (x : ByteArray) (hb : BoxAt w g 9 #[.string ⟨#[97, 110, 100]⟩, .string ⟨#[111, 114]⟩, .string ⟨#[110, 111, 116]⟩, .string ⟨#[105, 110]⟩, .string ⟨#[104, 97, 115]⟩, .string ⟨#[109, 111, 100]⟩, .string ⟨#[116, 114, 117, 101]⟩, .string ⟨#[102, 97, 108, 115, 101]⟩]) :
    Calls Tryd.prog 25 #[.slice (some ⟨g, 0, none⟩) 8 8, .string x] w fun e w' => e = .returned (.bool (reserved.contains x.data.toList)) ∧ w = w' := by
  have key := Tryd.slices_Contains_string g 0 8 8 reservedS x w (by decide) (by omega) (fun j hj => by
    rw [Nat.zero_add, hb.cell]
    have hj : j < 8 := hj
    rcases j with _ | _ | _ | _ | _ | _ | _ | _ | j
    all_goals first | rfl | omega)
  refine key.mono ?_
  rintro e w' ⟨rfl, rfl⟩
  refine ⟨?_, rfl⟩
  congr 2
  rw [Bool.eq_iff_iff, Lib.containsS_iff, List.contains_iff_mem, ← reservedS_data, List.mem_map]
  have e : reservedS.take 8 = reservedS := rfl
  rw [e]
  constructor
  · exact fun h => ⟨x, h, rfl⟩
  · rintro ⟨y, hy, e⟩
    rw [← Pl.data_inj e]; exact hy
set_option maxRecDepth 100000 in
set_option maxHeartbeats 1600000 in
theorem rname_any (s : ByteArray) (w : World) (ht : TabW w) (hs : s.size ≤ 9223372036854775807) : Calls Tryd.prog 15 #[.string s] w fun e w' => e = .returned (.bool (nameB s.data.toList)) ∧ Below w.heap.size w w' := by
  obtain ⟨b, hb⟩ : ∃ b, b = nameB s.data.toList := ⟨_, rfl⟩
  rw [← hb]
  have HB := Aside.mk hb
  clear hb
  have hl := data_len s
  have HT := Aside.mk ht
  clear ht
  by_cases h1 : s.size = 0
  · have e : b = false := by rw [HB.out]; rw [List.eq_nil_of_length_eq_zero (by omega : s.data.toList.length = 0)]; exact nameB_nil
    subst e
    have h3 : (s.toList == []) = true := by rw [Go.ByteArray.toList_eq, List.eq_nil_of_length_eq_zero (by omega : s.data.toList.length = 0)]; rfl
    have h3' : s.toList.isEmpty = true := by rw [Go.ByteArray.toList_eq, List.eq_nil_of_length_eq_zero (by omega : s.data.toList.length = 0)]; rfl
    clear hl h1
    go_enter Tryd.func15, Tryd.ntmps15
    go_wp2
    go_ret
    exact ⟨rfl, Below.refl _ _⟩
  have hne : s.data.toList ≠ [] := by intro e; rw [e] at hl; simp at hl; omega
  have h3 : (s.toList == []) = false := by rw [Go.ByteArray.toList_eq]; simpa using hne
  have h3' : s.toList.isEmpty = false := by rw [Go.ByteArray.toList_eq]; simpa using hne
  by_cases h2 : 16 < s.size
  · have e : b = false := by rw [HB.out]; exact nameB_long (by omega)
    subst e
    clear hl h1
    go_enter Tryd.func15, Tryd.ntmps15
    go_wp2
    go_ret
    exact ⟨rfl, Below.refl _ _⟩
  have h0 : 0 < s.size := by omega
  have hhd : s.data.toList.headD 0 = s[0] := by rw [← data_at s 0 h0]; exact headD_at _ (by omega)
  have HH := Aside.mk hhd
  have HN := Aside.mk hne
  have HL := Aside.mk hl
  clear hl hhd hne h1
  by_cases h4 : (s[0].toNat : Int) < 97
  · have e : b = false := by rw [HB.out]; exact nameB_head (by rw [HH.out]; unfold lowerB; exact decide_eq_false (by omega))
    subst e
    go_enter Tryd.func15, Tryd.ntmps15
    go_wp2
    go_ret
    exact ⟨rfl, Below.refl _ _⟩
  by_cases h4' : (122 : Int) < s[0].toNat
  · have e : b = false := by rw [HB.out]; exact nameB_head (by rw [HH.out]; unfold lowerB; exact decide_eq_false (by omega))
    subst e
    go_enter Tryd.func15, Tryd.ntmps15
    go_wp2
    go_ret
    exact ⟨rfl, Below.refl _ _⟩
  have HLO : Aside (lowerB s[0] = true) := ⟨by unfold lowerB; exact decide_eq_true (by omega)⟩
  have CF := Aside.mk (fields_any w HT.out)
  have h2i : (s.size : Int) ≤ 16 := by omega
  have h2d : decide ((16 : Int) < (s.size : Int)) = false := decide_eq_false (by omega)
  obtain ⟨bc, hbc⟩ : ∃ bc, reserved.contains s.data.toList = bc := ⟨_, rfl⟩
  have CC := fun w g => contains_any w g s
  rw [hbc] at CC
  have CC := Aside.mk CC
  have H5 := Aside.mk hbc
  clear hbc
  cases bc
  rotate_left
  · have e : b = false := by rw [HB.out]; exact nameB_reserved H5.out
    subst e
    go_enter Tryd.func15, Tryd.ntmps15
    go_wp2_with (first | (go_at_call 26; refine CF.out.mono ?_; rintro e w' ⟨rfl, rfl⟩) | (go_at_call 25; refine (CC.out _ _ (BoxAt.new _ _ _)).mono ?_; rintro e w' ⟨rfl, rfl⟩))
    go_ret
    exact ⟨rfl, (Below.refl _ _).alloc (Nat.le_refl _) _⟩
  · go_enter Tryd.func15, Tryd.ntmps15
    go_wp2_with (first | (go_at_call 26; refine CF.out.mono ?_; rintro e w' ⟨rfl, rfl⟩) | (go_at_call 25; refine (CC.out _ _ (BoxAt.new _ _ _)).mono ?_; rintro e w' ⟨rfl, rfl⟩))
    go_loop [3, 28] (fun _ i => ∃ k : Nat, k ≤ s.size ∧ i = .int .i64 k ∧ Aside ((s.data.toList.take k).all wordB = true)) (fun _ i => s.size - (intOf i).toNat)
    case atStart => exact ⟨0, Nat.zero_le _, rfl, ⟨by simp⟩⟩
    case round =>
      obtain ⟨k, hk, rfl, HA⟩ := hrel
      by_cases hlt : k < s.size
      · cases h6 : wordB s[k]
        · have e : b = false := by
            rw [HB.out]
            have := all_false_at wordB s.data.toList k (by rw [HL.out]; exact hlt) (by rw [data_at s k hlt]; exact h6)
            exact nameB_word this
          subst e
          go_wp2_with (first | (go_at_call 27; refine (rword_any _ _).mono ?_; rintro e w' ⟨rfl, rfl⟩; rw [h6]))
          go_ret
          exact ⟨rfl, (Below.refl _ _).alloc (Nat.le_refl _) _⟩
        · go_wp2_with (first | (go_at_call 27; refine (rword_any _ _).mono ?_; rintro e w' ⟨rfl, rfl⟩; rw [h6]))
          go_round
          case rel => exact ⟨k + 1, by omega, by go_num, ⟨all_take_succ wordB _ k (by rw [HL.out]; exact hlt) HA.out (by rw [data_at s k hlt]; exact h6)⟩⟩
          case measure => simp [intOf]; omega
      · have e : b = true := by
          have := HA.out
          rw [List.take_of_length_le (by rw [HL.out]; omega)] at this
          rw [HB.out]
          exact nameB_yes HN.out (by rw [HL.out]; omega) (by rw [HH.out]; exact HLO.out) H5.out this
        subst e
        go_wp2
        go_ret
        exact ⟨rfl, (Below.refl _ _).alloc (Nat.le_refl _) _⟩
end Go.Proofs.YthodbodifkeknaaDoor
