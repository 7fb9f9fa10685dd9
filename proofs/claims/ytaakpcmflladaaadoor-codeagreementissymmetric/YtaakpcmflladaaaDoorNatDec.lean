/- Decimal digits, in plain Lean. -/
import Derived.Test.YtaakpcmflladaaaDoorNatP
set_option linter.all false
namespace Go.Proofs.YtaakpcmflladaaaDoor
namespace Nt
def dg (n : Nat) : UInt8 := UInt8.ofNat (48 + n % 10)
def pad : Nat → Nat → List UInt8
  | 0, _ => []
  | k + 1, n => pad k (n / 10) ++ [dg n]
def decL (n : Nat) : List UInt8 := if n < 10 then [dg n] else decL (n / 10) ++ [dg n]
termination_by n
decreasing_by omega
def numv (l : List UInt8) : Nat := l.foldl (fun a c => 10 * a + (c.toNat - 48)) 0
def strip (l : List UInt8) : List UInt8 := l.dropWhile (fun c => c == 48)
def isD (c : UInt8) : Bool := 48 ≤ c && c ≤ 57
theorem dg_nat (n : Nat) : (dg n).toNat = 48 + n % 10 := by
  unfold dg
  rw [UInt8.toNat_ofNat']
  omega
theorem dg_isD (n : Nat) : isD (dg n) = true := by
  unfold isD
  simp only [Bool.and_eq_true, decide_eq_true_eq, UInt8.le_iff_toNat_le, dg_nat]
  exact ⟨by show (48 : UInt8).toNat ≤ _; simp, by show _ ≤ (57 : UInt8).toNat; simp; omega⟩
theorem dg_zero {n : Nat} : dg n = 48 ↔ n % 10 = 0 := by
  constructor
  · intro h
    have := congrArg UInt8.toNat h
    rw [dg_nat] at this
    simp at this; exact this
  · intro h; unfold dg; rw [h]; rfl
theorem dg_of_digit {c : UInt8} (h : isD c = true) : dg (c.toNat - 48) = c := by
  unfold isD at h
  simp only [Bool.and_eq_true, decide_eq_true_eq, UInt8.le_iff_toNat_le] at h
  have h1 : 48 ≤ c.toNat := by simpa using h.1
  have h2 : c.toNat ≤ 57 := by simpa using h.2
  apply UInt8.toNat_inj.1
  rw [dg_nat]
  omega
theorem pad_len (k n : Nat) : (pad k n).length = k := by
  induction k generalizing n with
  | zero => rfl
  | succ k ih => rw [pad, List.length_append, ih]; rfl
theorem pad_zero (k : Nat) : pad k 0 = List.replicate k 48 := by
  induction k with
  | zero => rfl
  | succ k ih => rw [pad, Nat.zero_div, ih, List.replicate_succ']; rfl
theorem pad_add (i j n : Nat) : pad (i + j) n = pad i (n / 10 ^ j) ++ pad j n := by
  induction j generalizing n with
  | zero => simp [pad]
  | succ j ih =>
    rw [← Nat.add_assoc, pad, ih, pad, ← List.append_assoc, Nat.div_div_eq_div_mul, Nat.pow_succ, Nat.mul_comm 10]
theorem pad_mod (k n : Nat) : pad k (n % 10 ^ k) = pad k n := by
  induction k generalizing n with
  | zero => rfl
  | succ k ih =>
    rw [pad, pad]
    have e1 : n % 10 ^ (k + 1) / 10 = n / 10 % 10 ^ k := by
      rw [Nat.pow_succ, Nat.mul_comm, Nat.mod_mul_right_div_self]
    have e2 : dg (n % 10 ^ (k + 1)) = dg n := by
      unfold dg
      rw [Nat.mod_mod_of_dvd _ ⟨10 ^ k, by rw [Nat.pow_succ, Nat.mul_comm]⟩]
    rw [e1, ih, e2]
theorem pad_limb (k x y : Nat) (hx : x < B) : pad (k + 9) (x + B * y) = pad k y ++ pad 9 x := by
  rw [pad_add]
  have e : (10 : Nat) ^ 9 = B := by decide
  rw [e, Nat.add_mul_div_left _ _ B_pos, Nat.div_eq_of_lt hx, Nat.zero_add]
  congr 1
  rw [← pad_mod 9 (x + B * y), e, Nat.add_mul_mod_self_left, Nat.mod_eq_of_lt hx]
theorem decL_small {n : Nat} (h : n < 10) : decL n = [dg n] := by rw [decL, if_pos h]
theorem decL_big {n : Nat} (h : ¬ n < 10) : decL n = decL (n / 10) ++ [dg n] := by rw [decL, if_neg h]
theorem decL_ne (n : Nat) : decL n ≠ [] := by rw [decL]; split <;> simp
theorem dropWhile_append_ne {p : UInt8 → Bool} : ∀ {l m : List UInt8}, l.dropWhile p ≠ [] → (l ++ m).dropWhile p = l.dropWhile p ++ m
  | [], m, h => absurd rfl h
  | x :: l, m, h => by
    rw [List.cons_append, List.dropWhile_cons, List.dropWhile_cons]
    rw [List.dropWhile_cons] at h
    split
    · rename_i hp
      rw [if_pos hp] at h
      exact dropWhile_append_ne h
    · rfl
theorem dropWhile_append_nil {p : UInt8 → Bool} : ∀ {l m : List UInt8}, l.dropWhile p = [] → (l ++ m).dropWhile p = m.dropWhile p
  | [], m, h => rfl
  | x :: l, m, h => by
    rw [List.dropWhile_cons] at h
    split at h
    · rename_i hp
      rw [List.cons_append, List.dropWhile_cons, if_pos hp]
      exact dropWhile_append_nil h
    · cases h
theorem strip_zero (k : Nat) : strip (pad k 0) = [] := by
  rw [pad_zero]
  unfold strip
  induction k with
  | zero => rfl
  | succ k ih => rw [List.replicate_succ, List.dropWhile_cons]; simpa using ih
theorem strip_pad {k n : Nat} (h0 : n ≠ 0) (h : n < 10 ^ k) : strip (pad k n) = decL n := by
  induction k generalizing n with
  | zero => simp at h; omega
  | succ k ih =>
    by_cases hs : n < 10
    · rw [pad, decL_small hs, Nat.div_eq_of_lt hs]
      unfold strip
      rw [dropWhile_append_nil (strip_zero k), List.dropWhile_cons]
      have : ¬ (dg n == 48) = true := by
        rw [beq_iff_eq, dg_zero]; omega
      rw [if_neg this]
    · have h1 : n / 10 ≠ 0 := by omega
      have h2 : n / 10 < 10 ^ k := by rw [Nat.div_lt_iff_lt_mul (by decide), ← Nat.pow_succ]; exact h
      have := ih h1 h2
      rw [pad, decL_big hs, ← this]
      unfold strip at this ⊢
      rw [dropWhile_append_ne (by rw [this]; exact decL_ne _)]
theorem snoc_ind {α : Type} {p : List α → Prop} (h0 : p []) (h1 : ∀ l x, p l → p (l ++ [x])) : ∀ l, p l := by
  intro l
  rw [← List.reverse_reverse l]
  induction l.reverse with
  | nil => exact h0
  | cons x m ih => rw [List.reverse_cons]; exact h1 _ _ ih
theorem head_append {α : Type} {l : List α} (m : List α) (h : l ≠ []) : (l ++ m).head? = l.head? := by
  cases l with
  | nil => exact absurd rfl h
  | cons x l => rfl
theorem numv_snoc (l : List UInt8) (c : UInt8) : numv (l ++ [c]) = 10 * numv l + (c.toNat - 48) := by unfold numv; rw [List.foldl_append]; rfl
theorem numv_append (l m : List UInt8) : numv (l ++ m) = numv l * 10 ^ m.length + numv m := by
  induction m using snoc_ind with
  | h0 => simp [numv]
  | h1 m c ih =>
    rw [← List.append_assoc, numv_snoc, ih, numv_snoc, List.length_append, List.length_singleton, Nat.pow_succ, Nat.mul_add, Nat.mul_comm 10 (numv l * _), Nat.mul_assoc]
    omega
theorem numv_pad (k n : Nat) : numv (pad k n) = n % 10 ^ k := by
  induction k generalizing n with
  | zero => simp [pad, numv]; omega
  | succ k ih =>
    rw [pad, numv_snoc, ih, dg_nat, Nat.pow_succ, Nat.mul_comm (10 ^ k) 10, Nat.mod_mul]
    omega
theorem numv_dec (n : Nat) : numv (decL n) = n := by
  induction n using Nat.strongRecOn with
  | ind n ih =>
    by_cases h : n < 10
    · rw [decL_small h]; simp [numv, dg_nat]; omega
    · rw [decL_big h, numv_snoc, ih _ (by omega), dg_nat]; omega
theorem decL_inj {a b : Nat} (h : decL a = decL b) : a = b := by rw [← numv_dec a, ← numv_dec b, h]
theorem dec_isD (n : Nat) : ∀ c ∈ decL n, isD c = true := by
  induction n using Nat.strongRecOn with
  | ind n ih =>
    by_cases h : n < 10
    · rw [decL_small h]; intro c hc; rw [List.mem_singleton.1 hc]; exact dg_isD n
    · rw [decL_big h]
      intro c hc
      rcases List.mem_append.1 hc with hc | hc
      · exact ih _ (by omega) c hc
      · rw [List.mem_singleton.1 hc]; exact dg_isD n
theorem dec_head {n : Nat} (h : n ≠ 0) : (decL n).head? ≠ some 48 := by
  induction n using Nat.strongRecOn with
  | ind n ih =>
    by_cases hs : n < 10
    · rw [decL_small hs]
      intro e
      have e2 : dg n = 48 := by simpa using e
      have := dg_zero.1 e2
      omega
    · rw [decL_big hs, head_append _ (decL_ne _)]
      exact ih _ (by omega) (by omega)
theorem dec_zero : decL 0 = [48] := by rw [decL_small (by decide)]; rfl
/-- A text of digits without a needless nought is that of its number. -/
theorem dec_of_digits : ∀ {l : List UInt8}, l ≠ [] → (∀ c ∈ l, isD c = true) → (l.head? ≠ some 48 ∨ l = [48]) → decL (numv l) = l := by
  intro l
  induction l using snoc_ind with
  | h0 => intro h; exact absurd rfl h
  | h1 l c ih =>
    intro _ hd hh
    have hc := hd c (by simp)
    have hcd : c.toNat - 48 < 10 := by
      unfold isD at hc
      simp only [Bool.and_eq_true, decide_eq_true_eq, UInt8.le_iff_toNat_le] at hc
      have h2 : c.toNat ≤ 57 := by simpa using hc.2
      omega
    rw [numv_snoc]
    by_cases hl : l = []
    · subst hl
      have e : 10 * numv [] + (c.toNat - 48) = c.toNat - 48 := by simp [numv]
      rw [e, decL_small hcd, dg_of_digit hc]; rfl
    · have hh' : l.head? ≠ some 48 := by
        rcases hh with hh | hh
        · rwa [head_append _ hl] at hh
        · exfalso
          have := congrArg List.length hh
          simp at this
          exact hl this
      have := ih hl (fun x hx => hd x (by simp [hx])) (.inl hh')
      have hp : numv l ≠ 0 := by
        intro h0
        rw [h0, dec_zero] at this
        rw [← this] at hh'
        exact hh' rfl
      rw [decL_big (by omega)]
      have e1 : (10 * numv l + (c.toNat - 48)) / 10 = numv l := by omega
      have e2 : dg (10 * numv l + (c.toNat - 48)) = c := by
        have e3 : (10 * numv l + (c.toNat - 48)) % 10 = (c.toNat - 48) % 10 := by omega
        have e4 := dg_of_digit hc
        unfold dg at e4 ⊢
        rw [e3]; exact e4
      rw [e1, e2, this]
theorem dec_len {n k : Nat} : (decL n).length ≤ k + 1 ↔ n < 10 ^ (k + 1) := by
  induction k generalizing n with
  | zero =>
    by_cases h : n < 10
    · rw [decL_small h]; simp; exact h
    · rw [decL_big h]
      have := List.length_pos_iff.2 (decL_ne (n / 10))
      rw [List.length_append, List.length_singleton]
      omega
  | succ k ih =>
    by_cases h : n < 10
    · rw [decL_small h]
      have : 10 ^ 1 ≤ 10 ^ (k + 1 + 1) := Nat.pow_le_pow_right (by decide) (by omega)
      simp; omega
    · rw [decL_big h, List.length_append, List.length_singleton, Nat.pow_succ 10 (k + 1), ← Nat.div_lt_iff_lt_mul (by decide), ← ih]
      omega
end Nt
end Go.Proofs.YtaakpcmflladaaaDoor
