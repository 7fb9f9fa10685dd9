/- Small facts for Kappa. -/
import Derived.Test.YtaakpcmflladaaaDoorCode7
set_option linter.all false
namespace Go.Proofs.YtaakpcmflladaaaDoor
open Go.RowKit Hv Go.Proofs
theorem grp_len (cs : List Cod) : ∀ k, (grp cs k).length ≤ k
  | 0 => Nat.le_refl _
  | k + 1 => by
    have ih := grp_len cs k
    rw [grp]
    split
    · omega
    · unfold addLast
      rw [List.length_append, List.length_dropLast]
      split <;> simp <;> omega
def visN (w : World) (r : Nat) : Nat := match w.heap[r]? with | some (.mapIter _ _ vis _) => vis.size | _ => 0
theorem _root_.Go.Proofs.YtaakpcmflladaaaDoor.Hv.RangeIs.vis {P : Program} {k : TypeId} {κ : Type} [DecidableEq κ] {K : KeyT P k κ} {w : World} {b r : Nat} {m done : List (κ × Value)} (h : RangeIs K w b r m done) : visN w r = done.length := by
  obtain ⟨_, es, cl, since, c0, ds, h1, h2, _, _, _, _, h4⟩ := h
  unfold visN
  rw [h2]
  have := congrArg List.length h4
  simpa using this
theorem bothF_len {l : List Node} {cs : List Cod} {a b : Int} (h : bothF l cs a b = 0) : cs.length ≤ 20000 := by
  unfold bothF at h
  by_cases h1 : codersF l cs = 0
  · unfold codersF at h1
    by_cases h2 : treeF l = 0
    · rw [if_neg (by rw [h2]; decide)] at h1
      unfold codsF at h1
      by_cases h3 : 20000 < cs.length
      · rw [if_pos h3] at h1; cases h1
      · omega
    · rw [if_pos h2] at h1; exact absurd h1 h2
  · rw [if_pos h1] at h; exact absurd h h1
theorem counts_len {m : List ((Int × Int) × Value)} {P : List (Int × Int)} (c : Counts m P) (hn : (m.map (·.1)).Nodup) : m.length ≤ P.length := by
  have := List.Nodup.length_le_of_subset hn (l₂ := P) fun x hx => by
    obtain ⟨p, hp, rfl⟩ := List.mem_map.1 hx
    exact (c.val p.1 p.2 hp).2
  simpa using this
end Go.Proofs.YtaakpcmflladaaaDoor
