/- value's naturals: order, compare, tooMuch, short, times. -/
import Derived.Test.YtaakpcmflladaaaDoorNat1
set_option linter.all false
namespace Go.Proofs.YtaakpcmflladaaaDoor
open Go.RowKit Hv Go.Proofs Nt
def ordI (a b : Int) : Int := if a < b then -1 else if b < a then 1 else 0
theorem order_any (a b : Int) (w : World) : Calls Tryd.prog 104 #[.int .i64 a, .int .i64 b] w fun e w' => e = .returned (.int .i64 (ordI a b)) ∧ w = w' := by
  unfold ordI
  by_cases h1 : a < b
  · rw [if_pos h1]
    go_enter Tryd.func104, Tryd.ntmps104
    go_wp2
    go_ret
    exact ⟨rfl, rfl⟩
  · rw [if_neg h1]
    by_cases h2 : b < a
    · rw [if_pos h2]
      go_enter Tryd.func104, Tryd.ntmps104
      go_wp2
      go_ret
      exact ⟨rfl, rfl⟩
    · rw [if_neg h2]
      go_enter Tryd.func104, Tryd.ntmps104
      go_wp2
      go_ret
      exact ⟨rfl, rfl⟩
def cmpN (a b : Nat) : Int := if a < b then -1 else if b < a then 1 else 0
/-- A function that only computes and draws. -/
def QR (w : World) (v : Value) (e : Ending) (w' : World) : Prop := e = .returned v ∧ ∃ n, w' = w.drewN n
theorem QR.of {w w' : World} {v v' : Value} (h : v' = v) (n : Nat) (hw : w' = w.drewN n) : QR w v (.returned v') w' := ⟨by rw [h], n, hw⟩
theorem QR.of2 {w : World} {v v' : Value} (h : v' = v) (n m : Nat) : QR w v (.returned v') ((w.drewN n).drewN m) := ⟨by rw [h], n + m, World.drewN_drewN ..⟩
theorem QR.of3 {w : World} {v v' : Value} (h : v' = v) (n m k : Nat) : QR w v (.returned v') (((w.drewN n).drewN m).drewN k) := ⟨by rw [h], n + m + k, by rw [World.drewN_drewN, World.drewN_drewN, Nat.add_assoc]⟩
theorem cmpN_len {a b : Nat} {c : Int} (h : ordI ((limbs a).length : Int) ((limbs b).length : Int) = c) (hc : c ≠ 0) : cmpN a b = c := by
  unfold ordI at h
  unfold cmpN
  split at h
  · have := lt_of_len (a := a) (b := b) (by omega)
    rw [if_pos this]; exact h
  · split at h
    · have := lt_of_len (a := b) (b := a) (by omega)
      rw [if_neg (by omega), if_pos this]; exact h
    · exact absurd h.symm hc
theorem cmpN_eq {a b : Nat} (h : limbs a = limbs b) : cmpN a b = 0 := by
  have := limbs_inj h
  subst this
  unfold cmpN; simp
theorem cmpN_lt {a b j : Nat} (h1 : j < (limbs a).length) (h2 : j < (limbs b).length) (hd : (limbs a).drop (j + 1) = (limbs b).drop (j + 1)) (h : (limbs a)[j] < (limbs b)[j]) : cmpN a b = -1 := by
  have := val_lt_of_top (ok_limbs a) h1 h2 hd h
  rw [val_limbs, val_limbs] at this
  unfold cmpN; rw [if_pos this]
theorem cmpN_gt {a b j : Nat} (h1 : j < (limbs a).length) (h2 : j < (limbs b).length) (hd : (limbs a).drop (j + 1) = (limbs b).drop (j + 1)) (h : (limbs b)[j] < (limbs a)[j]) : cmpN a b = 1 := by
  have := val_lt_of_top (ok_limbs b) h2 h1 hd.symm h
  rw [val_limbs, val_limbs] at this
  unfold cmpN; rw [if_neg (by omega), if_pos this]
theorem drop_same {l m : List Nat} {j : Nat} (h1 : j < l.length) (h2 : j < m.length) (hd : l.drop (j + 1) = m.drop (j + 1)) (h : l[j] = m[j]) : l.drop j = m.drop j := by
  rw [List.drop_eq_getElem_cons h1, List.drop_eq_getElem_cons h2, hd, h]
set_option maxRecDepth 100000 in
theorem compare_any (h : View) (w : World) (hs : Sub h w) (va vb : Value) (a b : Nat) (ha : IsNat h va a) (hb : IsNat h vb b) : Calls Tryd.prog 85 #[va, vb] w (QR w (.int .i64 (cmpN a b))) := by
  obtain ⟨A1, c1, rfl, q1, q2, s1⟩ := ha
  obtain ⟨A2, c2, rfl, q3, q4, s2⟩ := hb
  obtain ⟨o, ho⟩ : ∃ o, o = ordI ((limbs a).length : Int) ((limbs b).length : Int) := ⟨_, rfl⟩
  have CO := Aside.mk (order_any ((limbs a).length : Int) ((limbs b).length : Int))
  rw [← ho] at CO
  by_cases h0 : o = 0
  rotate_left
  · have E := Aside.mk (cmpN_len ho.symm h0)
    clear ho
    have hb : (o != 0) = true := by rw [bne_iff_ne]; exact h0
    clear h0
    go_enter Tryd.func85, Tryd.ntmps85
    go_wp2_with (go_at_call 104; refine (CO.out _).mono ?_; rintro e w' ⟨rfl, rfl⟩)
    go_ret
    exact QR.of (by rw [E.out]; rfl) 0 rfl
  · subst h0
    have hl : (limbs a).length = (limbs b).length := by
      unfold ordI at ho
      split at ho
      · omega
      · split at ho
        · omega
        · omega
    have E0 := Aside.mk (@cmpN_eq a b)
    have EL := Aside.mk (@cmpN_lt a b)
    have EG := Aside.mk (@cmpN_gt a b)
    clear ho
    generalize limbs a = l at *
    generalize limbs b = m at *
    generalize cmpN a b = r at *
    have HL := Aside.mk hl
    rw [← hl]
    rw [← hl] at CO
    clear hl
    go_enter Tryd.func85, Tryd.ntmps85
    go_wp2_with (go_at_call 104; refine (CO.out _).mono ?_; rintro e w' ⟨rfl, rfl⟩)
    go_loopw [6] (fun i wr => ∃ (k n : Nat) (i0 : Int), k ≤ l.length ∧ i = .int .i64 i0 ∧ Aside (i0 = (k : Int) - 1) ∧ wr = w.drewN n ∧ Aside (l.drop k = m.drop k)) (fun i _ => ((intOf i) + 1).toNat)
    case atStart => exact ⟨l.length, 0, _, Nat.le_refl _, rfl, ⟨rfl⟩, rfl, ⟨by rw [List.drop_of_length_le (Nat.le_refl _), List.drop_of_length_le (by rw [HL.out]; exact Nat.le_refl _)]⟩⟩
    case round =>
      obtain ⟨k, n, i0, hk, rfl, hi, rfl, HD⟩ := hrel
      rcases k with _ | k
      · have : i0 = -1 := by have := hi.out; omega
        subst this
        have E := Aside.mk (E0.out HD.out)
        clear hi
        go_wp2
        go_ret
        exact QR.of (by rw [E.out]; rfl) n rfl
      · have : i0 = (k : Int) := by have := hi.out; omega
        subst this
        clear hi
        obtain ⟨b1, o1, x, hx, rfl, e1, r1⟩ := limb_at s1 hs k hk
        obtain ⟨b2, o2, y, hy, rfl, e2, r2⟩ := limb_at s2 hs k (by rw [← HL.out]; exact hk)
        have hk2 : k < m.length := by rw [← HL.out]; exact hk
        have XL := Aside.mk (EL.out hk hk2 HD.out)
        have XG := Aside.mk (EG.out hk hk2 HD.out)
        have XE := Aside.mk (drop_same hk hk2 HD.out)
        rw [← hx, ← hy] at XL XG XE
        have HX := Aside.mk hx
        have HY := Aside.mk hy
        clear hx hy r1 r2
        rcases Nat.lt_trichotomy x y with hlt | heq | hgt
        · have E := Aside.mk (XL.out hlt)
          go_wp2
          go_quiet (fail)
          go_wp2
          go_ret
          exact QR.of2 (by rw [E.out]; rfl) _ _
        · subst heq
          have E := Aside.mk (XE.out rfl)
          go_wp2
          go_quiet (fail)
          go_wp2
          go_quiet (fail)
          go_wp2
          go_roundw
          case rel => exact ⟨k, _, _, by omega, rfl, ⟨rfl⟩, rfl, E⟩
          case measure => simp [intOf]
        · have E := Aside.mk (XG.out hgt)
          go_wp2
          go_quiet (fail)
          go_wp2
          go_quiet (fail)
          go_wp2
          go_ret
          exact QR.of3 (by rw [E.out]; rfl) _ _ _
end Go.Proofs.YtaakpcmflladaaaDoor
