/- Pairs of codes of common cases, counted: plain Lean. -/
import Derived.Test.YtaakpcmflladaaaDoorCode5
import Derived.Test.YtaakpcmflladaaaDoorKeyP
import Derived.Test.YtaakpcmflladaaaDoorKapP
set_option linter.all false
namespace Go.Proofs.YtaakpcmflladaaaDoor
open Go.RowKit Hv Go.Proofs
def pStep (a b : Int) (p : Int × Int) (x : Cod) : Int × Int := (if x.coder = a then x.code else p.1, if x.coder = b then x.code else p.2)
def pairOf (a b : Int) (g : List Cod) : Int × Int := g.foldl (pStep a b) (0, 0)
theorem pairOf_snoc (a b : Int) (g : List Cod) (x : Cod) : pairOf a b (g ++ [x]) = pStep a b (pairOf a b g) x := by
  unfold pairOf; rw [List.foldl_append]; rfl
theorem pairOf_swap (a b : Int) (g : List Cod) : pairOf b a g = ((pairOf a b g).2, (pairOf a b g).1) := by
  unfold pairOf
  have : ∀ (g : List Cod) (p : Int × Int), g.foldl (pStep b a) (p.2, p.1) = ((g.foldl (pStep a b) p).2, (g.foldl (pStep a b) p).1) := by
    intro g
    induction g with
    | nil => intro p; rfl
    | cons x g ih => intro p; rw [List.foldl_cons, List.foldl_cons, ← ih]; rfl
  exact this g (0, 0)
theorem pairOf_same (a : Int) (g : List Cod) : (pairOf a a g).1 = (pairOf a a g).2 := by
  have := pairOf_swap a a g
  exact congrArg Prod.fst this
def okPair (p : Int × Int) : Bool := (p.1 != 0) && (p.2 != 0)
def pairsOf (a b : Int) (gs : List (List Cod)) : List (Int × Int) := (gs.map (pairOf a b)).filter okPair
theorem pairsOf_snoc (a b : Int) (gs : List (List Cod)) (g : List Cod) : pairsOf a b (gs ++ [g]) = pairsOf a b gs ++ (if okPair (pairOf a b g) then [pairOf a b g] else []) := by
  unfold pairsOf
  rw [List.map_append, List.filter_append]
  congr 1
  rw [List.map_cons, List.map_nil, List.filter_cons]
  rfl
theorem pairsOf_len (a b : Int) (gs : List (List Cod)) : (pairsOf a b gs).length ≤ gs.length := by
  unfold pairsOf
  have := List.length_filter_le okPair (gs.map (pairOf a b))
  simpa using this
theorem pairsOf_swap (a b : Int) (gs : List (List Cod)) : pairsOf b a gs = Pl.swapP (pairsOf a b gs) := by
  induction gs with
  | nil => rfl
  | cons g gs ih =>
    unfold pairsOf at ih ⊢
    rw [List.map_cons, List.map_cons, List.filter_cons, List.filter_cons, ih, pairOf_swap a b g]
    have : okPair ((pairOf a b g).2, (pairOf a b g).1) = okPair (pairOf a b g) := by unfold okPair; exact Bool.and_comm _ _
    rw [this]
    cases okPair (pairOf a b g) <;> rfl
/-- The entries m count the elements of l. -/
structure Counts (m : List ((Int × Int) × Value)) (l : List (Int × Int)) : Prop where
  val : ∀ p v, (p, v) ∈ m → v = .int .i64 (l.count p : Int) ∧ p ∈ l
  has : ∀ p ∈ l, ∃ v, (p, v) ∈ m
theorem Counts.nil : Counts [] [] := ⟨fun p v h => (by cases h), fun p h => (by cases h)⟩
theorem Counts.look {m : List ((Int × Int) × Value)} {l : List (Int × Int)} (c : Counts m l) (hn : (m.map (·.1)).Nodup) (p : Int × Int) : (lk m p).getD (.int .i64 0) = .int .i64 (l.count p : Int) := by
  cases h : lk m p with
  | none =>
    have : p ∉ l := fun hp => by
      obtain ⟨v, hv⟩ := c.has p hp
      exact lk_none.1 h _ hv rfl
    rw [List.count_eq_zero_of_not_mem this]; rfl
  | some v => exact (c.val p v (lk_some_mem h)).1
theorem Counts.step {m : List ((Int × Int) × Value)} {l : List (Int × Int)} (c : Counts m l) (p : Int × Int) : Counts (mput m p (.int .i64 ((l.count p : Int) + 1))) (l ++ [p]) := by
  refine ⟨fun q v h => ?_, fun q hq => ?_⟩
  · rcases mem_mput h with h | ⟨h, hne⟩
    · injection h with h1 h2
      subst h1
      refine ⟨?_, by simp⟩
      rw [h2, List.count_append]; simp
    · have h' := c.val q v h
      have hne : p ≠ q := fun e => hne e.symm
      refine ⟨?_, List.mem_append_left _ h'.2⟩
      rw [h'.1, List.count_append]
      simp [List.count_cons, hne]
  · by_cases e : q = p
    · subst e; exact ⟨_, mem_mput_self q _⟩
    · rcases List.mem_append.1 hq with hq | hq
      · obtain ⟨v, hv⟩ := c.has q hq
        exact ⟨v, mem_mput_other hv e⟩
      · exact absurd (List.mem_singleton.1 hq) e
end Go.Proofs.YtaakpcmflladaaaDoor
