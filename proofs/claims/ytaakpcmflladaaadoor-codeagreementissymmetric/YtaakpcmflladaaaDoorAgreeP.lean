/- A coder agrees with itself: plain Lean. -/
import Derived.Test.YtaakpcmflladaaaDoorCode8
set_option linter.all false
namespace Go.Proofs.YtaakpcmflladaaaDoor
open Go.RowKit Hv Go.Proofs
theorem ratOf_self {x : Int} (h : x ≠ 0) : ratOf x x = (([49], [49]), 0) := by
  unfold ratOf
  rw [if_neg h]
  have e : (decide (x < 0) != decide (x < 0)) = false := by simp
  rw [e]
  have h2 : 0 < x.natAbs := by omega
  unfold ratN
  rw [Nat.gcd_self, Nat.div_self h2, Nt.decL_small (by decide)]
  decide
theorem same_all {P : List (Int × Int)} (h : ∀ p ∈ P, p.1 = p.2) : Pl.sameP P = P.length := by
  unfold Pl.sameP
  rw [List.countP_eq_length]
  intro p hp
  simpa using h p hp
theorem kapF_self {f : Int} {P : List (Int × Int)} (h : ∀ p ∈ P, p.1 = p.2) (h0 : (kapF f P ratOf).2 = 0) : kapF f P ratOf = (([49], [49]), 0) := by
  unfold kapF at h0 ⊢
  by_cases h1 : f = 0
  · rw [if_neg (by simpa using h1)] at h0 ⊢
    by_cases h2 : P.length = 0
    · rw [if_pos h2] at h0; cases h0
    · rw [if_neg h2]
      by_cases h3 : Pl.chanceP P = P.length * P.length
      · rw [if_pos h3, ratOf_self (by decide)]
      · rw [if_neg h3, same_all h]
        refine ratOf_self fun e => h3 ?_
        have : (Pl.chanceP P : Int) = (P.length : Int) * (P.length : Int) := by omega
        rw [← Int.natCast_mul] at this
        exact Int.natCast_inj.1 this
  · rw [if_pos h1] at h0
    exact absurd h0 h1
theorem pairsOf_self (a : Int) (gs : List (List Cod)) : ∀ p ∈ pairsOf a a gs, p.1 = p.2 := by
  intro p hp
  unfold pairsOf at hp
  obtain ⟨hp, _⟩ := List.mem_filter.1 hp
  obtain ⟨g, _, rfl⟩ := List.mem_map.1 hp
  exact pairOf_same a g
end Go.Proofs.YtaakpcmflladaaaDoor
