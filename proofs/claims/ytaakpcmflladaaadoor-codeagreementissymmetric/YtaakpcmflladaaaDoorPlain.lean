/- Plain lemmas on lists. -/
import Derived.WalkKit
set_option linter.all false
namespace Go.Proofs.YtaakpcmflladaaaDoor
namespace Pl
variable {α : Type} [DecidableEq α]
/-- Each element once. -/
def ded : List α → List α
  | [] => []
  | x :: l => if x ∈ l then ded l else x :: ded l
theorem mem_ded {x : α} : ∀ {l : List α}, x ∈ ded l ↔ x ∈ l
  | [] => by simp [ded]
  | y :: l => by
    unfold ded
    split
    · rename_i h
      rw [mem_ded, List.mem_cons]
      constructor
      · exact .inr
      · rintro (rfl | h2)
        · exact h
        · exact h2
    · rw [List.mem_cons, List.mem_cons, mem_ded]
theorem ded_nodup : ∀ (l : List α), (ded l).Nodup
  | [] => by simp [ded]
  | y :: l => by
    unfold ded
    split
    · exact ded_nodup l
    · rename_i h
      rw [List.nodup_cons]
      exact ⟨fun h2 => h (mem_ded.1 h2), ded_nodup l⟩
structure Tot (le : α → α → Bool) : Prop where
  trans : ∀ a b c, le a b = true → le b c = true → le a c = true
  total : ∀ a b, (le a b || le b a) = true
  anti : ∀ a b, le a b = true → le b a = true → a = b
omit [DecidableEq α] in
theorem sort_perm {le : α → α → Bool} (t : Tot le) {l l' : List α} (h : l.Perm l') : l.mergeSort le = l'.mergeSort le :=
  List.Perm.eq_of_pairwise (fun a b _ _ => t.anti a b) (List.pairwise_mergeSort t.trans t.total l) (List.pairwise_mergeSort t.trans t.total l')
    (((List.mergeSort_perm l le).trans h).trans (List.mergeSort_perm l' le).symm)
theorem sort_same {le : α → α → Bool} (t : Tot le) {l l' : List α} (h1 : l.Nodup) (h2 : l'.Nodup) (h : ∀ x, x ∈ l ↔ x ∈ l') : l.mergeSort le = l'.mergeSort le :=
  sort_perm t ((List.perm_ext_iff_of_nodup h1 h2).2 h)
omit [DecidableEq α] in
/-- A list that rises is the sorted one. -/
theorem sort_of_sorted {le : α → α → Bool} (t : Tot le) {l l' : List α} (h : l.Perm l') (hs : l.Pairwise (fun a b => le a b = true)) : l = l'.mergeSort le :=
  List.Perm.eq_of_pairwise (fun a b _ _ => t.anti a b) hs (List.pairwise_mergeSort t.trans t.total l') (h.trans (List.mergeSort_perm l' le).symm)
theorem tot_int : Tot (fun a b : Int => decide (a ≤ b)) := ⟨by simp; omega, by simp; omega, by simp; omega⟩
def leB (a b : ByteArray) : Bool := decide (a.data.toList ≤ b.data.toList)
theorem data_inj {a b : ByteArray} (h : a.data.toList = b.data.toList) : a = b := by
  cases a with | mk a => cases b with | mk b => simp at h; rw [h]
theorem tot_bytes : Tot leB := by
  refine ⟨?_, ?_, ?_⟩
  · intro a b c h1 h2
    simp only [leB, decide_eq_true_eq] at *
    exact List.le_trans h1 h2
  · intro a b
    simp only [leB, Bool.or_eq_true, decide_eq_true_eq]
    exact List.le_total _ _
  · intro a b h1 h2
    simp only [leB, decide_eq_true_eq] at *
    exact data_inj (List.le_antisymm h1 h2)
end Pl
end Go.Proofs.YtaakpcmflladaaaDoor
