/- The first error of a list of places, in plain Lean. -/
import Derived.WalkKit
set_option linter.all false
namespace Go.Proofs.YtaakpcmflladaaaDoor
namespace Pl
/-- The first of n places from i on whose error is not 0. -/
def firstG (f : Nat → Int) : Nat → Nat → Int
  | 0, _ => 0
  | n + 1, i => if f i ≠ 0 then f i else firstG f n (i + 1)
theorem firstG_skip (f : Nat → Int) : ∀ (n i k : Nat), k ≤ n → (∀ j, i ≤ j → j < i + k → f j = 0) → firstG f n i = firstG f (n - k) (i + k)
  | n, i, 0, _, _ => by simp
  | 0, i, k + 1, h, _ => by omega
  | n + 1, i, k + 1, h, hz => by
    rw [firstG, if_neg (by rw [hz i (Nat.le_refl _) (by omega)]; simp), firstG_skip f n (i + 1) k (by omega) (fun j h1 h2 => hz j (by omega) (by omega))]
    have e1 : n + 1 - (k + 1) = n - k := by omega
    have e2 : i + (k + 1) = i + 1 + k := by omega
    rw [e1, e2]
theorem firstG_bad {f : Nat → Int} {n k : Nat} (hk : k < n) (hz : ∀ i < k, f i = 0) (hb : f k ≠ 0) : firstG f n 0 = f k := by
  rw [firstG_skip f n 0 k (by omega) (fun j _ h => hz j (by omega)), Nat.zero_add]
  obtain ⟨m, hm⟩ : ∃ m, n - k = m + 1 := ⟨n - k - 1, by omega⟩
  rw [hm, firstG, if_pos hb]
theorem firstG_good {f : Nat → Int} {n : Nat} (hz : ∀ i < n, f i = 0) : firstG f n 0 = 0 := by
  rw [firstG_skip f n 0 n (Nat.le_refl _) (fun j _ h => hz j (by omega)), Nat.sub_self]; rfl
theorem firstG_none {f : Nat → Int} : ∀ {n i : Nat}, firstG f n i = 0 → ∀ j, i ≤ j → j < i + n → f j = 0
  | 0, _, _, j, h1, h2 => by omega
  | n + 1, i, h, j, h1, h2 => by
    rw [firstG] at h
    split at h
    · rename_i hne; exact absurd h hne
    · rename_i hz
      rcases Nat.lt_or_ge i j with h3 | h3
      · exact firstG_none h j (by omega) (by omega)
      · have : j = i := by omega
        subst this; simpa using hz
end Pl
end Go.Proofs.YtaakpcmflladaaaDoor
