/- value's naturals: over, the greatest common divisor. -/
import Derived.Test.YtaakpcmflladaaaDoorNat8
set_option linter.all false
namespace Go.Proofs.YtaakpcmflladaaaDoor
open Go.RowKit Hv Go.Proofs Nt
theorem over_any (h : View) (w : World) (hs : Sub h w) (va vb : Value) (a b : Nat) (ha : IsNat h va a) (hb : IsNat h vb b) (h0 : b ≠ 0) (hl : (limbs a).length ≤ 8796093022208) (hlb : (limbs b).length ≤ 8796093022208) :
    Calls Tryd.prog 65 #[va, vb] w (OverR w h a b) := by
  by_cases hlt : a < b
  · exact over_less h w hs va vb a b ha hb hlt
  · rcases Nat.lt_or_ge (limbs b).length 2 with h2 | h2
    · have h1 : 0 < (limbs b).length := List.length_pos_iff.2 (limbs_ne h0)
      exact over_short h w hs va vb a b ha hb hlt (by omega) hl
    · exact over_long h w hs va vb a b ha hb hlt h2 hl hlb
/-- What a slice of limbs reads as, in a world. -/
def rdN (w : World) (v : Value) : Nat :=
  match v with
  | .slice (some a) n _ => val ((List.range n).map fun i => match w.cell? ⟨a.block, a.off + i, none⟩ with | some (.int _ x) => x.toNat | _ => 0)
  | _ => 0
theorem rdN_eq {h : View} {w : World} (hs : Sub h w) {v : Value} {n : Nat} (i : IsNat h v n) : rdN w v = n := by
  by_cases h0 : n = 0
  · subst h0
    unfold IsNat at i
    rw [limbs_zero] at i
    obtain ⟨A, c, rfl, _⟩ := i
    unfold rdN
    cases A <;> simp [val]
  · obtain ⟨A, c, rfl, q1, q2, s⟩ := i
    have key : ∀ k (hk : k < (limbs n).length), ∃ b off, A = some ⟨b, off, none⟩ ∧ w.cell? ⟨b, off + k, none⟩ = some (.int .u64 ((limbs n)[k] : Int)) := fun k hk => by
      obtain ⟨b, o, x, hx, e, hc, _⟩ := limb_at s hs k hk
      exact ⟨b, o, e, by rw [hc, hx]⟩
    obtain ⟨b, o, rfl, _⟩ := key 0 (List.length_pos_iff.2 (limbs_ne h0))
    unfold rdN
    simp only
    conv => rhs; rw [← val_limbs n]
    congr 1
    refine List.ext_getElem (by simp) fun k h1 h2 => ?_
    obtain ⟨b', o', e, hc⟩ := key k h2
    injection e with e
    injection e with e1 e2 _
    subst e1; subst e2
    simp [hc]
theorem len_mod {a b k : Nat} (h0 : b ≠ 0) (h : (limbs b).length ≤ k) : (limbs (a % b)).length ≤ k := by
  have := limbs_len.1 h
  have h2 := Nat.mod_lt a (show b > 0 by omega)
  exact limbs_len.2 (by omega)
set_option maxRecDepth 100000 in
set_option maxHeartbeats 800000 in
theorem gcd_any (h : View) (w : World) (hs : Sub h w) (va vb : Value) (a b : Nat) (ha : IsNat h va a) (hb : IsNat h vb b) (hl : (limbs a).length ≤ 8796093022208) (hlb : (limbs b).length ≤ 8796093022208) :
    Calls Tryd.prog 64 #[va, vb] w (NatR w h (Nat.gcd a b)) := by
  have hx := Ext.refl hs
  have HA := Aside.mk ha
  have HB := Aside.mk hb
  clear ha hb
  go_enter Tryd.func64, Tryd.ntmps64
  go_wp2
  go_loopw [0, 1] (fun p q wr => ∃ (x y : Nat) (hh : View), Ext w h wr hh ∧ Aside (IsNat hh p x) ∧ Aside (IsNat hh q y) ∧ Aside (Nat.gcd x y = Nat.gcd a b) ∧ (limbs x).length ≤ 8796093022208 ∧ (limbs y).length ≤ 8796093022208) (fun _ q wr => rdN wr q)
  case atStart => exact ⟨a, b, h, hx, HA, HB, ⟨rfl⟩, hl, hlb⟩
  case round =>
    clear HA HB
    obtain ⟨x, y, hh, hx, HX, HY, HG, hlx, hly⟩ := hrel
    have RY := Aside.mk (rdN_eq hx.sub HY.out)
    have HY2 := HY.out
    obtain ⟨A2, c2, rfl, q3, q4, s2⟩ := HY2
    by_cases h0 : y = 0
    · subst h0
      have e := HG.out
      rw [Nat.gcd_zero_right] at e
      have I := Aside.mk (show IsNat hh u0 (Nat.gcd a b) by rw [← e]; exact HX.out)
      simp only [limbs_zero, List.length_nil] at q3 s2 hly ⊢
      clear e s2
      go_wp2
      go_ret
      exact NatR.of hx I.out
    · have OV := Aside.mk (over_any hh _ hx.sub _ _ x y HX.out HY.out h0 hlx hly)
      unfold OverR at OV
      have hp : 0 < (limbs y).length := List.length_pos_iff.2 (limbs_ne h0)
      have HM := Aside.mk (Nat.mod_lt x (show y > 0 by omega))
      have HL := Aside.mk (len_mod (a := x) h0 hly)
      have HG2 : Aside (Nat.gcd y (x % y) = Nat.gcd a b) := ⟨by rw [← HG.out, Nat.gcd_comm x y, Nat.gcd_rec y x, Nat.gcd_comm]⟩
      clear h0 s2
      go_wp2_with (go_at_call 65; refine OV.out.mono ?_; rintro e w2 ⟨h2, qv, rv, rfl, x2, i2, i3⟩)
      have I3 := Aside.mk i3
      have RM := Aside.mk (rdN_eq x2.sub i3)
      have Y2 := Aside.mk (IsNat.mono HY.out x2.le)
      clear i2 i3
      go_roundw
      case rel => exact ⟨y, x % y, h2, hx.trans x2, Y2, I3, HG2, hly, HL.out⟩
      case measure => show rdN _ rv < rdN _ _; rw [RM.out, RY.out]; exact HM.out
end Go.Proofs.YtaakpcmflladaaaDoor
