/- value's naturals: tooMuch, short. -/
import Derived.Test.YtaakpcmflladaaaDoorNat2
set_option linter.all false
namespace Go.Proofs.YtaakpcmflladaaaDoor
open Go.RowKit Hv Go.Proofs Nt
theorem ret_b {b c : Bool} (h : b = c) : Ending.returned (.bool b) = .returned (.bool c) := by rw [h]
theorem ret_i {k : IntKind} {a b : Int} (h : a = b) : Ending.returned (.int k a) = .returned (.int k b) := by rw [h]
def muchB (top next g v1 v2 : Nat) : Bool := decide (top * B + next < g * (v1 * B + v2))
theorem much_eq {top next g v1 v2 : Nat} (h1 : g * v1 ≤ top) (hg : g < B) (hv : v2 < B) : muchB top next g v1 v2 = decide (top - g * v1 < B ∧ (top - g * v1) * B + next < g * v2) := by
  unfold muchB
  have e : g * (v1 * B + v2) = g * v1 * B + g * v2 := by rw [Nat.mul_add, Nat.mul_assoc]
  rw [e]
  obtain ⟨r, hr⟩ : ∃ r, top = g * v1 + r := ⟨top - g * v1, by omega⟩
  have e2 : top * B = g * v1 * B + r * B := by rw [hr, Nat.add_mul]
  have e3 : top - g * v1 = r := by omega
  rw [e2, e3]
  congr 1
  have hs : g * v2 ≤ (B - 1) * (B - 1) := Nat.mul_le_mul (by omega) (by omega)
  have hb : (B - 1) * (B - 1) < B * B := by decide
  apply propext
  constructor
  · intro h
    have h2 : r * B + next < g * v2 := by omega
    refine ⟨?_, h2⟩
    rcases Nat.lt_or_ge r B with h3 | h3
    · exact h3
    · have := Nat.mul_le_mul_right B h3; omega
  · intro h; omega
set_option maxRecDepth 100000 in
theorem much_any (h : View) (w : World) (hs : Sub h w) (v : Value) (l : List Nat) (m top g next : Nat) (hv : Sl h (tN .u64) v l) (hl : l.length = m + 2) (h1 : g * l[m + 1] ≤ top) (hg : g < B) (hok : Ok l) (htop : top ≤ 9223372036854775807) (hn : next < B) :
    Calls Tryd.prog 105 #[.int .u64 (top : Int), .int .u64 (g : Int), v, .int .u64 (next : Int)] w fun e w' => e = .returned (.bool (muchB top next g l[m + 1] l[m])) ∧ w = w' := by
  obtain ⟨A, c, rfl, q1, q2, s1⟩ := hv
  obtain ⟨b1, o1, x, hx, rfl, e1, r1⟩ := limb_at s1 hs (m + 1) (by omega)
  obtain ⟨b2, o2, y, hy, hbb, e2, r2⟩ := limb_at s1 hs m (by omega)
  injection hbb with hbb
  injection hbb with hb1 hb2 _
  subst hb1; subst hb2
  have hxB : x < B := by rw [hx]; exact hok.get _ _
  have hyB : y < B := by rw [hy]; exact hok.get _ _
  rw [← hx] at h1
  rw [← hx, ← hy, much_eq h1 hg hyB]
  clear hx hy r1 r2 hok
  have n1 : l.length - 1 = m + 1 := by omega
  have n2 : l.length - 2 = m := by omega
  have hl2 : (l.length : Int) = (m : Int) + 2 := by omega
  rw [hl] at q1 ⊢
  clear n1 n2 hl2 hl
  rw [Go.Proofs.YtaakpcmflladaaaDoor.Nt.B_eq] at hg hn hxB hyB ⊢
  obtain ⟨r, hr⟩ : ∃ r, top = g * x + r := ⟨top - g * x, by omega⟩
  have er : top - g * x = r := by omega
  rw [er]
  clear er h1
  subst hr
  have k1 : 0 ≤ (g : Int) * (x : Int) := by have := Int.natCast_nonneg (g * x); rwa [Int.natCast_mul] at this
  have k2 : (g : Int) * (x : Int) + (r : Int) ≤ 9223372036854775807 := by
    have : ((g * x + r : Nat) : Int) ≤ 9223372036854775807 := by omega
    rwa [Int.natCast_add, Int.natCast_mul] at this
  have k3 : 0 ≤ (g : Int) * (y : Int) := by have := Int.natCast_nonneg (g * y); rwa [Int.natCast_mul] at this
  have k4 : (g : Int) * (y : Int) ≤ 999999999 * 999999999 := by
    have h5 : g * y ≤ 999999999 * 999999999 := Nat.mul_le_mul (by omega) (by omega)
    have : ((g * y : Nat) : Int) ≤ ((999999999 * 999999999 : Nat) : Int) := by omega
    rw [Int.natCast_mul] at this
    exact this
  have k5 : ((g * y : Nat) : Int) = (g : Int) * (y : Int) := Int.natCast_mul g y
  rw [Int.natCast_add, Int.natCast_mul]
  by_cases h1 : r < 1000000000
  · by_cases h2 : r * 1000000000 + next < g * y
    · have e3 : decide (r < 1000000000 ∧ r * 1000000000 + next < g * y) = true := by simp [h1, h2]
      have h3 : (r : Int) * 1000000000 + (next : Int) < (g : Int) * (y : Int) := by omega
      rw [e3]
      clear e3 h2 k5
      go_enter Tryd.func105, Tryd.ntmps105
      go_wp2
      go_ret
      exact ⟨ret_b (decide_eq_true (by omega)), rfl⟩
    · have e3 : decide (r < 1000000000 ∧ r * 1000000000 + next < g * y) = false := by simp [h2]
      have h3 : ¬ (r : Int) * 1000000000 + (next : Int) < (g : Int) * (y : Int) := by omega
      rw [e3]
      clear e3 h2 k5
      go_enter Tryd.func105, Tryd.ntmps105
      go_wp2
      go_ret
      exact ⟨ret_b (decide_eq_false (by omega)), rfl⟩
  · have e3 : decide (r < 1000000000 ∧ r * 1000000000 + next < g * y) = false := by simp [h1]
    rw [e3]
    clear e3 k5
    go_enter Tryd.func105, Tryd.ntmps105
    go_wp2
    go_ret
    exact ⟨rfl, rfl⟩
end Go.Proofs.YtaakpcmflladaaaDoor
