/- Sums over pairs of codes, in plain Lean: what Kappa counts, and that the two sides can be exchanged. -/
import Derived.Test.YtaakpcmflladaaaDoorPlain
set_option linter.all false
namespace Go.Proofs.YtaakpcmflladaaaDoor
namespace Pl
variable {α β γ : Type}
theorem sum_append (a b : List Nat) : (a ++ b).sum = a.sum + b.sum := by simp
theorem countP_snoc (p : α → Bool) (l : List α) (x : α) : (l ++ [x]).countP p = l.countP p + if p x then 1 else 0 := by
  rw [List.countP_append, List.countP_cons, List.countP_nil]; simp
/-- Counting twice. -/
theorem double_count (r : α → β → Bool) (l : List α) (m : List β) : (l.map fun x => m.countP fun y => r x y).sum = (m.map fun y => l.countP fun x => r x y).sum := by
  induction l with
  | nil => induction m with
    | nil => rfl
    | cons y m ih => simpa using ih
  | cons x l ih =>
    rw [List.map_cons, List.sum_cons, ih]
    clear ih
    induction m with
    | nil => rfl
    | cons y m ih =>
      rw [List.countP_cons, List.map_cons, List.sum_cons, List.map_cons, List.sum_cons, List.countP_cons]
      omega
/-- Summing over keys, each with its count, is summing over all elements. -/
theorem sum_by_key [DecidableEq β] (f : α → β) (g : β → Nat) (ks : List β) (hk : ks.Nodup) : ∀ (l : List α), (∀ x ∈ l, f x ∈ ks) →
    (ks.map fun c => (l.countP fun x => decide (f x = c)) * g c).sum = (l.map fun x => g (f x)).sum
  | [], _ => by
    simp only [List.countP_nil, Nat.zero_mul, List.map_nil, List.sum_nil]
    clear hk
    induction ks with
    | nil => rfl
    | cons c ks ih => simpa using ih
  | x :: l, h => by
    rw [List.map_cons, List.sum_cons, ← sum_by_key f g ks hk l (fun y hy => h y (List.mem_cons_of_mem _ hy))]
    have hx := h x (by simp)
    have key : ∀ ks : List β, ks.Nodup → (ks.map fun c => ((x :: l).countP fun x => decide (f x = c)) * g c).sum = (if f x ∈ ks then g (f x) else 0) + (ks.map fun c => (l.countP fun x => decide (f x = c)) * g c).sum := by
      intro ks
      induction ks with
      | nil => intro _; simp
      | cons c ks ih =>
        intro hn
        rw [List.nodup_cons] at hn
        rw [List.map_cons, List.sum_cons, ih hn.2, List.map_cons, List.sum_cons, List.countP_cons, Nat.add_mul]
        by_cases e : f x = c
        · subst e
          rw [if_neg hn.1]; simp; omega
        · have e2 : (f x ∈ c :: ks) ↔ f x ∈ ks := by rw [List.mem_cons]; simp [e]
          simp only [e, e2, decide_false, Bool.false_eq_true, if_false]
          omega
    rw [key ks hk, if_pos hx]
def chanceP (l : List (Int × Int)) : Nat := (l.map fun p => l.countP fun q => decide (q.2 = p.1)).sum
def sameP (l : List (Int × Int)) : Nat := l.countP fun p => decide (p.1 = p.2)
def swapP (l : List (Int × Int)) : List (Int × Int) := l.map fun p => (p.2, p.1)
theorem sameP_swap (l : List (Int × Int)) : sameP (swapP l) = sameP l := by
  unfold sameP swapP
  rw [List.countP_map]
  congr 1
  funext p
  simp only [Function.comp, eq_iff_iff]
  congr 1
  exact propext ⟨fun e => e.symm, fun e => e.symm⟩
theorem chanceP_swap (l : List (Int × Int)) : chanceP (swapP l) = chanceP l := by
  unfold chanceP swapP
  rw [List.map_map]
  have e : (fun p : Int × Int => (l.map fun p => (p.2, p.1)).countP fun q => decide (q.2 = p.1)) ∘ (fun p : Int × Int => (p.2, p.1)) = fun p => l.countP fun q => decide (p.2 = q.1) := by
    funext p
    simp only [Function.comp]
    rw [List.countP_map]
    congr 1
    funext q
    simp only [Function.comp]
    congr 1
    exact propext ⟨fun e => e.symm, fun e => e.symm⟩
  rw [e, double_count (fun p q : Int × Int => decide (p.2 = q.1))]
theorem swapP_len (l : List (Int × Int)) : (swapP l).length = l.length := by simp [swapP]
theorem sameP_le (l : List (Int × Int)) : sameP l ≤ l.length := List.countP_le_length
theorem sum_le (f : α → Nat) (n : Nat) : ∀ l : List α, (∀ x ∈ l, f x ≤ n) → (l.map f).sum ≤ l.length * n
  | [], _ => by simp
  | x :: l, h => by
    have h1 := h x (by simp)
    have h2 := sum_le f n l fun y hy => h y (by simp [hy])
    rw [List.map_cons, List.sum_cons, List.length_cons, Nat.succ_mul]; omega
theorem chanceP_le (l : List (Int × Int)) : chanceP l ≤ l.length * l.length := sum_le _ _ l fun p _ => List.countP_le_length
end Pl
end Go.Proofs.YtaakpcmflladaaaDoor
