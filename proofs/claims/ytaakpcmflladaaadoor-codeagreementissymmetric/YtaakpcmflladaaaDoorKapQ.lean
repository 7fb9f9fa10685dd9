/- What Kappa's loops have summed: plain Lean. -/
import Derived.Test.YtaakpcmflladaaaDoorCommonP
set_option linter.all false
namespace Go.Proofs.YtaakpcmflladaaaDoor
open Go.RowKit Hv Go.Proofs
def cntK (l ks : List (Int × Int)) (q : Int × Int → Bool) : Nat := ((ks.filter q).map fun p => l.count p).sum
theorem cntK_nil (l : List (Int × Int)) (q : Int × Int → Bool) : cntK l [] q = 0 := rfl
theorem cntK_snoc (l ks : List (Int × Int)) (p : Int × Int) (q : Int × Int → Bool) : cntK l (ks ++ [p]) q = cntK l ks q + if q p then l.count p else 0 := by
  unfold cntK
  rw [List.filter_append, List.map_append, List.sum_append]
  by_cases h : q p <;> simp [h]
theorem cntK_le (l ks : List (Int × Int)) (q : Int × Int → Bool) : cntK l ks q ≤ ks.length * l.length := by
  unfold cntK
  refine Nat.le_trans (Pl.sum_le _ l.length _ fun p _ => List.count_le_length) (Nat.mul_le_mul_right _ (List.length_filter_le _ _))
theorem cntK_all {l ks : List (Int × Int)} (hn : ks.Nodup) (h : ∀ x ∈ l, x ∈ ks) (q : Int × Int → Bool) : cntK l ks q = l.countP q := by
  have h1 := Pl.sum_by_key (fun p : Int × Int => p) (fun p => if q p then 1 else 0) ks hn l h
  have h2 : ∀ ks : List (Int × Int), (ks.map fun c => (l.countP fun x => decide (x = c)) * (if q c then 1 else 0)).sum = cntK l ks q := by
    intro ks
    induction ks with
    | nil => rfl
    | cons c ks ih =>
      rw [List.map_cons, List.sum_cons, ih]
      have e : (l.countP fun x => decide (x = c)) = l.count c := by
        rw [List.count]
        exact List.countP_congr fun x _ => by simp
      unfold cntK
      rw [List.filter_cons, e]
      by_cases hq : q c <;> simp [hq]
  have h3 : ∀ l : List (Int × Int), (l.map fun x => if q x then 1 else 0).sum = l.countP q := by
    intro l
    induction l with
    | nil => rfl
    | cons c l ih =>
      rw [List.map_cons, List.sum_cons, ih, List.countP_cons]
      omega
  rw [← h2, h1, h3]
/-- The map F holds the sums by f. -/
def SumM (F : List (Int × Value)) (l ks : List (Int × Int)) (f : Int × Int → Int) : Prop :=
  ∀ c, lk F c = if ks.any (fun p => decide (f p = c)) then some (.int .i64 (cntK l ks (fun p => decide (f p = c)) : Int)) else none
theorem SumM.nil (l : List (Int × Int)) (f : Int × Int → Int) : SumM [] l [] f := fun c => rfl
theorem SumM.look {F : List (Int × Value)} {l ks : List (Int × Int)} {f : Int × Int → Int} (s : SumM F l ks f) (c : Int) : (lk F c).getD (.int .i64 0) = .int .i64 (cntK l ks (fun p => decide (f p = c)) : Int) := by
  rw [s c]
  by_cases h : ks.any (fun p => decide (f p = c)) = true
  · rw [if_pos h]; rfl
  · rw [if_neg h]
    have : ks.filter (fun p => decide (f p = c)) = [] := by
      rw [List.filter_eq_nil_iff]
      intro p hp e
      exact h (List.any_eq_true.2 ⟨p, hp, e⟩)
    unfold cntK
    rw [this]; rfl
theorem lk_mput_ne {κ : Type} [DecidableEq κ] {m : List (κ × Value)} {x y : κ} {v : Value} (hn : (m.map (·.1)).Nodup) (hn2 : ((mput m x v).map (·.1)).Nodup) (h : y ≠ x) : lk (mput m x v) y = lk m y := by
  cases e : lk m y with
  | none =>
    refine lk_none.2 fun p hp hpy => ?_
    rcases mem_mput hp with rfl | ⟨hp, _⟩
    · exact h hpy.symm
    · exact lk_none.1 e p hp hpy
  | some u => exact lk_of_mem hn2 (mem_mput_other (lk_some_mem e) h)
theorem SumM.step {F : List (Int × Value)} {l ks : List (Int × Int)} {f : Int × Int → Int} (s : SumM F l ks f) (p : Int × Int) (hn : (F.map (·.1)).Nodup) {v : Value} (hv : v = .int .i64 ((cntK l ks (fun q => decide (f q = f p)) : Int) + (l.count p : Int))) (hn2 : ((mput F (f p) v).map (·.1)).Nodup) :
    SumM (mput F (f p) v) l (ks ++ [p]) f := by
  intro c
  rw [List.any_append, cntK_snoc]
  by_cases e : c = f p
  · subst e
    rw [lk_mput_self hn hn2, if_pos (by simp), hv]
    simp
  · rw [lk_mput_ne hn hn2 e, s c]
    have e2 : decide (f p = c) = false := decide_eq_false fun h => e h.symm
    have e3 : (ks.any (fun p => decide (f p = c)) || [p].any fun p => decide (f p = c)) = ks.any (fun p => decide (f p = c)) := by
      rw [List.any_cons, e2]; simp
    rw [e3, e2]
    rfl
/-- The sum of products over the keys of F. -/
theorem chance_all {F : List (Int × Value)} {l ks : List (Int × Int)} (s : SumM F l ks Prod.fst) (hn : ks.Nodup) (h : ∀ x ∈ l, x ∈ ks) {kc : List Int} (hk : kc.Nodup) (hkc : ∀ c v, (c, v) ∈ F → c ∈ kc) :
    (kc.map fun c => (l.countP fun p => decide (p.1 = c)) * (l.countP fun p => decide (p.2 = c))).sum = Pl.chanceP l := by
  have := Pl.sum_by_key (fun p : Int × Int => p.1) (fun c => l.countP fun p => decide (p.2 = c)) kc hk l (fun x hx => by
    have h1 := s x.1
    rw [if_pos (List.any_eq_true.2 ⟨x, h x hx, by simp⟩)] at h1
    exact hkc _ _ (lk_some_mem h1))
  exact this
theorem SumM.val {F : List (Int × Value)} {l ks : List (Int × Int)} {f : Int × Int → Int} (s : SumM F l ks f) (hn : (F.map (·.1)).Nodup) {c : Int} {v : Value} (h : (c, v) ∈ F) : v = .int .i64 (cntK l ks (fun p => decide (f p = c)) : Int) ∧ ∃ p ∈ ks, f p = c := by
  have h1 := lk_of_mem hn h
  rw [s c] at h1
  by_cases e : ks.any (fun p => decide (f p = c)) = true
  · rw [if_pos e] at h1
    injection h1 with h1
    obtain ⟨p, hp, e⟩ := List.any_eq_true.1 e
    exact ⟨h1.symm, p, hp, of_decide_eq_true e⟩
  · rw [if_neg e] at h1; cases h1
def kapF (f : Int) (P : List (Int × Int)) (r : Int → Int → (List UInt8 × List UInt8) × Int) : (List UInt8 × List UInt8) × Int :=
  if f ≠ 0 then (([], []), f) else if P.length = 0 then (([], []), 9) else if Pl.chanceP P = P.length * P.length then ((r 1 1).1, 0) else r ((Pl.sameP P : Int) * (P.length : Int) - (Pl.chanceP P : Int)) ((P.length : Int) * (P.length : Int) - (Pl.chanceP P : Int))
theorem kapF_swap (f : Int) (P : List (Int × Int)) (r : Int → Int → (List UInt8 × List UInt8) × Int) : kapF f (Pl.swapP P) r = kapF f P r := by
  unfold kapF
  rw [Pl.chanceP_swap, Pl.sameP_swap, Pl.swapP_len]
end Go.Proofs.YtaakpcmflladaaaDoor
