/- Naturals in limbs of nine digits: plain lemmas on lists of limbs, no program in sight. -/
import Derived.WalkKit
set_option linter.all false
namespace Go.Proofs.YtaakpcmflladaaaDoor
namespace Nt
/-- What a limb is below. -/
def B : Nat := 1000000000
theorem B_eq : B = 1000000000 := rfl
theorem B_pos : 0 < B := by decide
def val : List Nat → Nat
  | [] => 0
  | x :: l => x + B * val l
def limbs (n : Nat) : List Nat := if h : n = 0 then [] else (n % B) :: limbs (n / B)
termination_by n
decreasing_by exact Nat.div_lt_self (by omega) (by decide)
def Ok (l : List Nat) : Prop := ∀ x ∈ l, x < B
def trimL : List Nat → List Nat
  | [] => []
  | x :: l => if trimL l = [] then (if x = 0 then [] else [x]) else x :: trimL l
theorem limbs_zero : limbs 0 = [] := by rw [limbs]; simp
theorem limbs_pos {n : Nat} (h : n ≠ 0) : limbs n = (n % B) :: limbs (n / B) := by rw [limbs]; simp [h]
theorem limbs_ne {n : Nat} (h : n ≠ 0) : limbs n ≠ [] := by rw [limbs_pos h]; simp
theorem limbs_nil {n : Nat} : limbs n = [] ↔ n = 0 := ⟨fun h => Classical.byContradiction fun c => limbs_ne c h, fun h => by rw [h, limbs_zero]⟩
theorem val_limbs (n : Nat) : val (limbs n) = n := by
  induction n using Nat.strongRecOn with
  | ind n ih =>
    by_cases h : n = 0
    · rw [h, limbs_zero]; rfl
    · rw [limbs_pos h, val, ih _ (Nat.div_lt_self (by omega) (by decide))]
      exact Nat.mod_add_div n B
theorem ok_limbs (n : Nat) : Ok (limbs n) := by
  induction n using Nat.strongRecOn with
  | ind n ih =>
    by_cases h : n = 0
    · rw [h, limbs_zero]; intro x hx; cases hx
    · rw [limbs_pos h]
      intro x hx
      rcases List.mem_cons.1 hx with rfl | hx
      · exact Nat.mod_lt _ B_pos
      · exact ih _ (Nat.div_lt_self (by omega) (by decide)) x hx
theorem limbs_inj {a b : Nat} (h : limbs a = limbs b) : a = b := by rw [← val_limbs a, ← val_limbs b, h]
theorem limbs_one {n : Nat} (h0 : n ≠ 0) (h : n < B) : limbs n = [n] := by
  rw [limbs_pos h0, Nat.div_eq_of_lt h, Nat.mod_eq_of_lt h, limbs_zero]
theorem Ok.tail {x : Nat} {l : List Nat} (h : Ok (x :: l)) : Ok l := fun y hy => h y (List.mem_cons_of_mem _ hy)
theorem Ok.head {x : Nat} {l : List Nat} (h : Ok (x :: l)) : x < B := h x (by simp)
theorem ok_cons {x : Nat} {l : List Nat} (hx : x < B) (h : Ok l) : Ok (x :: l) := fun y hy => by
  rcases List.mem_cons.1 hy with rfl | hy
  · exact hx
  · exact h y hy
theorem Ok.append {a b : List Nat} (ha : Ok a) (hb : Ok b) : Ok (a ++ b) := fun x hx => by
  rcases List.mem_append.1 hx with h | h
  · exact ha x h
  · exact hb x h
theorem Ok.take {a : List Nat} (ha : Ok a) (n : Nat) : Ok (a.take n) := fun x hx => ha x (List.mem_of_mem_take hx)
theorem Ok.drop {a : List Nat} (ha : Ok a) (n : Nat) : Ok (a.drop n) := fun x hx => ha x (List.mem_of_mem_drop hx)
theorem Ok.set {a : List Nat} (ha : Ok a) (i y : Nat) (hy : y < B) : Ok (a.set i y) := fun x hx => by
  rcases List.mem_or_eq_of_mem_set hx with h | rfl
  · exact ha x h
  · exact hy
theorem Ok.get {a : List Nat} (ha : Ok a) (i : Nat) (h : i < a.length) : a[i] < B := ha _ (List.getElem_mem h)
theorem ok_zeros (n : Nat) : Ok (List.replicate n 0) := fun x hx => by rw [(List.mem_replicate.1 hx).2]; exact B_pos
theorem val_zeros (n : Nat) : val (List.replicate n 0) = 0 := by
  induction n with
  | zero => rfl
  | succ n ih => rw [List.replicate_succ, val, ih]; simp
theorem val_append (a b : List Nat) : val (a ++ b) = val a + B ^ a.length * val b := by
  induction a with
  | nil => simp [val]
  | cons x a ih => rw [List.cons_append, val, val, ih, List.length_cons, Nat.pow_succ, Nat.mul_add, Nat.add_assoc]; congr 2; rw [Nat.mul_comm (B ^ a.length) B, Nat.mul_assoc]
theorem val_lt {l : List Nat} (h : Ok l) : val l < B ^ l.length := by
  induction l with
  | nil => simp [val]
  | cons x l ih =>
    have h1 := ih h.tail
    have h2 := h.head
    rw [val, List.length_cons, Nat.pow_succ]
    calc x + B * val l < B + B * val l := by omega
      _ = B * (val l + 1) := by rw [Nat.mul_add]; omega
      _ ≤ B * B ^ l.length := Nat.mul_le_mul_left _ h1
      _ = B ^ l.length * B := Nat.mul_comm _ _
theorem trimL_val {l : List Nat} (h : Ok l) : trimL l = limbs (val l) := by
  induction l with
  | nil => rw [val, limbs_zero]; rfl
  | cons x l ih =>
    have ih := ih h.tail
    have hx := h.head
    unfold trimL
    rw [ih, val]
    by_cases hv : val l = 0
    · rw [hv, limbs_zero, if_pos rfl]
      by_cases h0 : x = 0
      · rw [if_pos h0, h0]; simp [limbs_zero]
      · rw [if_neg h0, Nat.mul_zero, Nat.add_zero, limbs_one h0 hx]
    · have hb : x + B * val l ≠ 0 := by
        have := Nat.mul_pos B_pos (Nat.pos_of_ne_zero hv); omega
      rw [if_neg (limbs_ne hv), limbs_pos hb, Nat.add_mul_mod_self_left, Nat.mod_eq_of_lt hx, Nat.add_mul_div_left _ _ B_pos, Nat.div_eq_of_lt hx, Nat.zero_add]
theorem trimL_snoc_zero (l : List Nat) : trimL (l ++ [0]) = trimL l := by
  induction l with
  | nil => rfl
  | cons x l ih => rw [List.cons_append, trimL, ih]; rfl
theorem trimL_snoc {l : List Nat} {x : Nat} (h : x ≠ 0) : trimL (l ++ [x]) = l ++ [x] := by
  induction l with
  | nil => simp [trimL, h]
  | cons y l ih => rw [List.cons_append, trimL, ih]; simp
theorem trimL_limbs (n : Nat) : trimL (limbs n) = limbs n := by rw [trimL_val (ok_limbs n), val_limbs]
/-- A list whose last limb is not 0. -/
theorem limbs_val_last {l : List Nat} (h : Ok l) (hl : ∀ hn : 0 < l.length, l[l.length - 1] ≠ 0) : limbs (val l) = l := by
  rw [← trimL_val h]
  rcases List.eq_nil_or_concat l with rfl | ⟨m, x, rfl⟩
  · rfl
  · rw [List.concat_eq_append] at *
    refine trimL_snoc ?_
    have := hl (by simp)
    simpa using this
theorem limbs_last {n : Nat} (h : 0 < (limbs n).length) : (limbs n)[(limbs n).length - 1] ≠ 0 := by
  intro h0
  rcases List.eq_nil_or_concat (limbs n) with e | ⟨m, x, e⟩
  · rw [e] at h; simp at h
  · have hx : x = 0 := by
      have : (limbs n)[(limbs n).length - 1]? = some 0 := by rw [List.getElem?_eq_getElem (by omega), h0]
      rw [e, List.concat_eq_append] at this
      simpa using this
    have hm : trimL (limbs n) = trimL m := by rw [e, List.concat_eq_append, hx, trimL_snoc_zero]
    rw [trimL_limbs] at hm
    have hl : (trimL m).length ≤ m.length := by
      clear hm e h0 h
      induction m with
      | nil => simp [trimL]
      | cons y m ih =>
        unfold trimL
        split
        · split <;> simp
        · simp; omega
    rw [← hm, e] at hl
    simp at hl
    omega
theorem limbs_len {n k : Nat} : (limbs n).length ≤ k ↔ n < B ^ k := by
  constructor
  · intro h
    have := val_lt (ok_limbs n)
    rw [val_limbs] at this
    exact Nat.lt_of_lt_of_le this (Nat.pow_le_pow_right B_pos h)
  · intro h
    induction k generalizing n with
    | zero => have : n = 0 := by simpa using h
              rw [this, limbs_zero]; simp
    | succ k ih =>
      by_cases h0 : n = 0
      · rw [h0, limbs_zero]; simp
      · rw [limbs_pos h0, List.length_cons]
        have : n / B < B ^ k := by rw [Nat.div_lt_iff_lt_mul B_pos, ← Nat.pow_succ]; exact h
        have := ih this
        omega
theorem limbs_len_lt {n k : Nat} : k < (limbs n).length ↔ B ^ k ≤ n := by
  have := @limbs_len n k
  omega
theorem val_set : ∀ {l : List Nat} {i : Nat} (h : i < l.length) (y : Nat), val (l.set i y) + B ^ i * l[i] = val l + B ^ i * y
  | x :: l, 0, h, y => by simp [val]; omega
  | x :: l, i + 1, h, y => by
    have hi : i < l.length := by simpa using h
    have := val_set (l := l) (i := i) (by simpa using h) y
    simp only [List.set_cons_succ, val, List.getElem_cons_succ, Nat.pow_succ]
    have e1 : B ^ i * B * l[i] = B * (B ^ i * l[i]) := by rw [Nat.mul_comm (B ^ i) B, Nat.mul_assoc]
    have e2 : B ^ i * B * y = B * (B ^ i * y) := by rw [Nat.mul_comm (B ^ i) B, Nat.mul_assoc]
    rw [e1, e2]
    calc x + B * val (l.set i y) + B * (B ^ i * l[i]) = x + B * (val (l.set i y) + B ^ i * l[i]) := by rw [Nat.mul_add]; omega
      _ = x + B * (val l + B ^ i * y) := by rw [this]
      _ = _ := by rw [Nat.mul_add]; omega
theorem val_take_succ {l : List Nat} {i : Nat} (h : i < l.length) : val (l.take (i + 1)) = val (l.take i) + B ^ i * l[i] := by
  rw [List.take_succ_eq_append_getElem h, val_append, List.length_take, Nat.min_eq_left (by omega)]
  simp [val]
theorem val_take_ge {l : List Nat} {i : Nat} (h : l.length ≤ i) : val (l.take i) = val l := by rw [List.take_of_length_le h]
theorem val_drop {l : List Nat} {i : Nat} (h : i < l.length) : val (l.drop i) = l[i] + B * val (l.drop (i + 1)) := by
  rw [List.drop_eq_getElem_cons h, val]
theorem val_split (l : List Nat) (i : Nat) (h : i ≤ l.length) : val l = val (l.take i) + B ^ i * val (l.drop i) := by
  have := val_append (l.take i) (l.drop i)
  rw [List.take_append_drop, List.length_take, Nat.min_eq_left h] at this
  exact this
/-- Limb i, or 0. -/
def at_ (l : List Nat) (i : Nat) : Nat := (l[i]?).getD 0
theorem at_lt {l : List Nat} (h : Ok l) (i : Nat) : at_ l i < B := by
  unfold at_
  cases e : l[i]? with
  | none => exact B_pos
  | some x => exact h x (List.mem_of_getElem? e)
theorem at_eq {l : List Nat} {i : Nat} (h : i < l.length) : at_ l i = l[i] := by unfold at_; rw [List.getElem?_eq_getElem h]; rfl
theorem at_ge {l : List Nat} {i : Nat} (h : l.length ≤ i) : at_ l i = 0 := by unfold at_; rw [List.getElem?_eq_none h]; rfl
theorem val_take_at (l : List Nat) (i : Nat) : val (l.take (i + 1)) = val (l.take i) + B ^ i * at_ l i := by
  by_cases h : i < l.length
  · rw [val_take_succ h, at_eq h]
  · rw [at_ge (by omega), val_take_ge (by omega), val_take_ge (by omega), Nat.mul_zero, Nat.add_zero]
theorem val_snoc (l : List Nat) (x : Nat) : val (l ++ [x]) = val l + B ^ l.length * x := by rw [val_append]; simp [val]
theorem len_le_of_val {a : Nat} {l : List Nat} (h : Ok l) (e : val l = a) : (limbs a).length ≤ l.length := limbs_len.2 (e ▸ val_lt h)
/-- Orders. -/
theorem lt_of_len {a b : Nat} (h : (limbs a).length < (limbs b).length) : a < b :=
  Nat.lt_of_lt_of_le (limbs_len.1 (Nat.le_refl _)) (limbs_len_lt.1 h)
theorem val_lt_of_top {l m : List Nat} (hl : Ok l) {i : Nat} (h1 : i < l.length) (h2 : i < m.length) (hd : l.drop (i + 1) = m.drop (i + 1)) (h : l[i] < m[i]) : val l < val m := by
  rw [val_split l i (by omega), val_split m i (by omega), val_drop h1, val_drop h2, hd]
  have h3 := val_lt (hl.take i)
  rw [List.length_take, Nat.min_eq_left (by omega)] at h3
  have h4 : l[i] + 1 + B * val (m.drop (i + 1)) ≤ m[i] + B * val (m.drop (i + 1)) := by omega
  have h5 := Nat.mul_le_mul_left (B ^ i) h4
  have h6 : B ^ i * (l[i] + 1 + B * val (m.drop (i + 1))) = B ^ i * (l[i] + B * val (m.drop (i + 1))) + B ^ i := by
    rw [show l[i] + 1 + B * val (m.drop (i + 1)) = l[i] + B * val (m.drop (i + 1)) + 1 by omega, Nat.mul_succ]
  omega
end Nt
end Go.Proofs.YtaakpcmflladaaaDoor
