/- code: nodes of a frame, titles, the errors of nodes. -/
import Derived.Test.YtaakpcmflladaaaDoorHvMix
import Derived.Test.YtaakpcmflladaaaDoorHvRow
import Derived.Test.YtaakpcmflladaaaDoorStrP
import Derived.Test.YtaakpcmflladaaaDoorProg
import Derived.Test.YtaakpcmflladaaaDoorPlain
set_option linter.all false
namespace Go.Proofs.YtaakpcmflladaaaDoor
open Go.RowKit Hv Go.Proofs
def outC (n lo hi : Int) : Bool := decide (n < lo ∨ hi < n)
theorem outC_any (n lo hi : Int) (w : World) : Calls Tryd.prog 22 #[.int .i64 n, .int .i64 lo, .int .i64 hi] w fun e w' => e = .returned (.bool (outC n lo hi)) ∧ w = w' := by
  by_cases h1 : n < lo <;> by_cases h2 : hi < n
  all_goals
    go_enter Tryd.func22, Tryd.ntmps22
    go_wp2
    go_ret
    exact ⟨by simp [outC, h1, h2], rfl⟩
structure Node where
  code : Int
  parent : Int
  title : ByteArray
def tNode : Ty Node := tVia (fun u => (u.code, u.parent, u.title)) (tProd tI (tProd tI tStr))
theorem tNode_K {h : View} {u : Node} {cs : List Value} (k : tNode.K h u cs) : cs = [.int .i64 u.code, .int .i64 u.parent, .string u.title] ∧ inRange .i64 u.code ∧ inRange .i64 u.parent ∧ u.title.size ≤ 9223372036854775807 := by
  obtain ⟨c1, d1, rfl, ⟨rfl, r1⟩, c2, d2, rfl, ⟨rfl, r2⟩, ⟨rfl, r3⟩⟩ := k
  exact ⟨rfl, r1, r2, r3⟩
theorem tNode_mk {h : View} {u : Node} (r1 : inRange .i64 u.code) (r2 : inRange .i64 u.parent) (r3 : u.title.size ≤ 9223372036854775807) : tNode.K h u [.int .i64 u.code, .int .i64 u.parent, .string u.title] :=
  ⟨[_], _, rfl, ⟨rfl, r1⟩, [_], [_], rfl, ⟨rfl, r2⟩, ⟨rfl, r3⟩⟩
theorem node_at {h : View} {w : World} {A : Option Addr} {l : List Node} (s : SlAt h tNode A l) (hs : Sub h w) (k : Nat) (hk : k < l.length) : ∃ b off u, u = l[k] ∧ A = some ⟨b, off, none⟩ ∧
    w.cell? ⟨b, off + k * 3, none⟩ = some (.int .i64 u.code) ∧ w.cell? ⟨b, off + k * 3 + 1, none⟩ = some (.int .i64 u.parent) ∧ w.cell? ⟨b, off + k * 3 + 2, none⟩ = some (.string u.title) ∧
    inRange .i64 u.code ∧ inRange .i64 u.parent ∧ u.title.size ≤ 9223372036854775807 := by
  obtain ⟨b, off, ds, rfl, hK, hc⟩ := s.at_ k hk
  obtain ⟨rfl, r⟩ := tNode_K hK
  exact ⟨b, off, l[k], rfl, rfl, hs.cell (hc 0 _ rfl), hs.cell (hc 1 _ rfl), hs.cell (hc 2 _ rfl), r⟩
/-! ### Titles -/
def okT (c : UInt8) : Bool := !outC (c.toNat : Int) 32 126
def titleB (l : List UInt8) : Bool := l.all okT && (!l.isEmpty && (!(l.headD 0 == 32) && !(l.getLastD 0 == 32)))
theorem titleB_bad {l : List UInt8} (h : l.all okT = false) : titleB l = false := by unfold titleB; rw [h]; rfl
theorem titleB_nil : titleB [] = false := rfl
theorem titleB_ok {l : List UInt8} (h : l.all okT = true) (h0 : l ≠ []) : titleB l = (!(l.headD 0 == 32) && !(l.getLastD 0 == 32)) := by
  unfold titleB
  rw [h]
  cases l with
  | nil => exact absurd rfl h0
  | cons x l => rfl
theorem last_at (l : List UInt8) (h : 0 < l.length) : l.getLastD 0 = l[l.length - 1] := by
  rw [List.getLastD_eq_getLast?, List.getLast?_eq_getElem?, List.getElem?_eq_getElem (by omega)]; rfl
theorem bne32 (c : UInt8) : ((c.toNat : Int) != 32) = !(c == 32) := by
  have e : ((c.toNat : Int) == 32) = (c == 32) := by
    rw [Bool.eq_iff_iff, beq_iff_eq, beq_iff_eq]
    constructor
    · intro h
      apply UInt8.toNat_inj.1
      have : c.toNat = 32 := by omega
      rw [this]; rfl
    · intro h; subst h; rfl
  show (!((c.toNat : Int) == 32)) = _
  rw [e]
set_option maxRecDepth 100000 in
set_option maxHeartbeats 800000 in
theorem title_any (s : ByteArray) (w : World) (hs : s.size ≤ 9223372036854775807) : Calls Tryd.prog 36 #[.string s] w fun e w' => e = .returned (.bool (titleB s.data.toList)) ∧ w = w' := by
  obtain ⟨b, hb⟩ : ∃ b, b = titleB s.data.toList := ⟨_, rfl⟩
  rw [← hb]
  have HB := Aside.mk hb
  clear hb
  have HL := Aside.mk (data_len s)
  go_enter Tryd.func36, Tryd.ntmps36
  go_wp2
  go_loop [3] (fun i => ∃ k : Nat, k ≤ s.size ∧ i = .int .i64 k ∧ Aside ((s.data.toList.take k).all okT = true)) (fun i => s.size - (intOf i).toNat)
  case atStart => exact ⟨0, Nat.zero_le _, rfl, ⟨by simp⟩⟩
  case round =>
    obtain ⟨k, hk, rfl, HA⟩ := hrel
    by_cases hlt : k < s.size
    · have hr8 := u8_range s[k]
      obtain ⟨ob, hob⟩ : ∃ ob, ob = outC (s[k].toNat : Int) 32 126 := ⟨_, rfl⟩
      have CO := Aside.mk (outC_any (s[k].toNat : Int) 32 126)
      rw [← hob] at CO
      have HO := Aside.mk hob
      clear hob
      cases ob
      · have HA2 : Aside ((s.data.toList.take (k + 1)).all okT = true) := ⟨all_take_succ okT _ k (by rw [HL.out]; exact hlt) HA.out (by rw [data_at s k hlt]; unfold okT; rw [← HO.out]; rfl)⟩
        go_wp2_with (go_at_call 22; refine (CO.out _).mono ?_; rintro e w' ⟨rfl, rfl⟩)
        go_round
        case rel => exact ⟨k + 1, by omega, by go_num, HA2⟩
        case measure => simp [intOf]; omega
      · have e : b = false := by
          rw [HB.out]
          have := all_false_at okT s.data.toList k (by rw [HL.out]; exact hlt) (by rw [data_at s k hlt]; unfold okT; rw [← HO.out]; rfl)
          exact titleB_bad this
        subst e
        go_wp2_with (go_at_call 22; refine (CO.out _).mono ?_; rintro e w' ⟨rfl, rfl⟩)
        go_ret
        exact ⟨rfl, rfl⟩
    · have hall : s.data.toList.all okT = true := by have := HA.out; rwa [List.take_of_length_le (by rw [HL.out]; omega)] at this
      by_cases h1 : s.size = 0
      · have hn : s.data.toList = [] := List.eq_nil_of_length_eq_zero (by rw [HL.out, h1])
        have e : b = false := by rw [HB.out, hn]; rfl
        subst e
        have h3 : (s.toList == []) = true := by rw [Go.ByteArray.toList_eq, hn]; rfl
        have h3' : s.toList.isEmpty = true := by rw [Go.ByteArray.toList_eq, hn]; rfl
        clear hn hall h1
        go_wp2
        go_ret
        exact ⟨rfl, rfl⟩
      · have hne : s.data.toList ≠ [] := by intro e; have := HL.out; rw [e] at this; simp at this; omega
        have h3 : (s.toList == []) = false := by rw [Go.ByteArray.toList_eq]; simpa using hne
        have h3' : s.toList.isEmpty = false := by rw [Go.ByteArray.toList_eq]; simpa using hne
        have h0 : 0 < s.size := by omega
        have hl1 : s.size - 1 < s.size := by omega
        have eb := titleB_ok hall hne
        rw [headD_at _ (by rw [HL.out]; exact h0), last_at _ (by rw [HL.out]; exact h0), data_at s 0 h0] at eb
        have el : s.data.toList[s.data.toList.length - 1]'(by rw [HL.out]; exact hl1) = s[s.size - 1] := by
          rw [← data_at s (s.size - 1) hl1]; congr 1
        rw [el] at eb
        obtain ⟨bx, hbx⟩ : ∃ bx, bx = !(s[0] == 32) := ⟨_, rfl⟩
        obtain ⟨bz, hbz⟩ : ∃ bz, bz = !(s[s.size - 1] == 32) := ⟨_, rfl⟩
        have e1 : ((s[0].toNat : Int) != 32) = bx := by rw [hbx]; exact bne32 s[0]
        have e2 : ((s[s.size - 1].toNat : Int) != 32) = bz := by rw [hbz]; exact bne32 s[s.size - 1]
        rw [← HB.out, ← hbx, ← hbz] at eb
        have EB := Aside.mk eb
        clear eb el hall hne h1 HA hbx hbz
        cases bx
        · go_wp2
          go_ret
          exact ⟨by first | (rw [EB.out]; done) | (rw [EB.out]; rfl), rfl⟩
        · cases bz
          · go_wp2
            go_ret
            exact ⟨by first | (rw [EB.out]; done) | (rw [EB.out]; rfl), rfl⟩
          · go_wp2
            go_ret
            exact ⟨by first | (rw [EB.out]; done) | (rw [EB.out]; rfl), rfl⟩
end Go.Proofs.YtaakpcmflladaaaDoor
