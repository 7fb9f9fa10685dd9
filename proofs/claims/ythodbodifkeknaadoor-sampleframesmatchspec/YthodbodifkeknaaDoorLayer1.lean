/- A stratum's clusters: the map of boxes. -/
import Derived.Test.YthodbodifkeknaaDoorKeys
import Derived.Test.YthodbodifkeknaaDoorBox
set_option linter.all false
namespace Go.Proofs.YthodbodifkeknaaDoor
open Go.RowKit Hv Go.Proofs
def Ki : KeyT Tryd.prog 3 Int := keyI Tryd.underlying3
def upd {α : Type} (f : Int → α) (c : Int) (x : α) : Int → α := fun y => if y = c then x else f y
theorem upd_self {α : Type} (f : Int → α) (c : Int) (x : α) : upd f c x c = x := if_pos rfl
theorem upd_other {α : Type} (f : Int → α) {c y : Int} (x : α) (h : y ≠ c) : upd f c x y = f y := if_neg h
theorem inClu_same (l : List Unit4) (u : Unit4) : inClu (l ++ [u]) u.cl = inClu l u.cl ++ [u] := by unfold inClu; rw [List.filter_append]; simp
theorem inClu_other {l : List Unit4} {u : Unit4} {c : Int} (h : c ≠ u.cl) : inClu (l ++ [u]) c = inClu l c := by
  unfold inClu; rw [List.filter_append, List.filter_cons, if_neg (by simpa using fun e => h e.symm)]; simp
theorem inClu_none {l : List Unit4} {c : Int} (h : ¬ ∃ u ∈ l, u.cl = c) : inClu l c = [] := by
  unfold inClu
  rw [List.filter_eq_nil_iff]
  intro u hu
  simp only [decide_eq_true_eq]
  exact fun e => h ⟨u, hu, e⟩
theorem inClu_le (l : List Unit4) (c : Int) : (inClu l c).length ≤ l.length := List.length_filter_le _ _
theorem total_snoc (l : List Unit4) (u : Unit4) : totalL (l ++ [u]) = totalL l + u.size := by unfold totalL; simp
theorem total_bound : ∀ {l : List Unit4}, (∀ u ∈ l, okUnit u) → 0 ≤ totalL l ∧ totalL l ≤ 1000000 * l.length
  | [], _ => by simp [totalL]
  | u :: l, h => by
    have h1 := total_bound (l := l) fun x hx => h x (by simp [hx])
    have h2 := h u (by simp)
    unfold okUnit at h2
    have : totalL (u :: l) = u.size + totalL l := by unfold totalL; simp
    rw [this]; simp only [List.length_cons]; omega
theorem take_snoc_of {α : Type} (l : List α) (k : Nat) (hk : k < l.length) {u : α} (e : u = l[k]) : l.take (k + 1) = l.take k ++ [u] := by rw [e]; exact take_snoc l k hk
structure CG (w : World) (h : View) (base : Nat) (m : List (Int × Value)) (l : List Unit4) (gb : Int → Nat) (vs : Int → Value) : Prop where
  ptr : ∀ p ∈ m, p.2 = .pointer (some ⟨gb p.1, 0, none⟩)
  box : ∀ p ∈ m, BoxAt w (gb p.1) 64 #[.int .i64 p.1, .int .i64 (totalL (inClu l p.1)), vs p.1]
  low : ∀ p ∈ m, base ≤ gb p.1
  own : ∀ p ∈ m, Own w h base 45 tUnit (vs p.1) (inClu l p.1)
  apart : ∀ p ∈ m, ∀ q ∈ m, p.1 ≠ q.1 → gb p.1 ≠ gb q.1 ∧ ∀ k, (vs p.1).ownBlock = some k → (vs q.1).ownBlock ≠ some k
variable {w w' : World} {h : View} {base mb : Nat} {m : List (Int × Value)} {l : List Unit4} {gb : Int → Nat} {vs : Int → Value}
theorem CG.nil : CG w h base [] [] gb vs := ⟨by simp, by simp, by simp, by simp, by simp⟩
theorem CG.block (g : CG w h base m l gb vs) (hk : ∀ p ∈ m, w'.heap[gb p.1]? = w.heap[gb p.1]? ∧ ∀ k, (vs p.1).ownBlock = some k → w'.heap[k]? = w.heap[k]?) : CG w' h base m l gb vs :=
  ⟨g.ptr, fun p hp => (g.box p hp).block (hk p hp).1, g.low, fun p hp => (g.own p hp).block (hk p hp).2, g.apart⟩
theorem CG.alloc (g : CG w h base m l gb vs) (o : Obj) : CG (w.alloc o) h base m l gb vs :=
  g.block fun p hp => ⟨Below.heap_alloc w o _ (g.box p hp).lt, fun k hk => Below.heap_alloc w o k ((g.own p hp).lt k hk).2⟩
theorem CG.far (g : CG w h base m l gb vs) {b : Nat} {T : TypeId} {cs : Array Value} (x : BoxAt w b T cs) (h1 : T ≠ 64) (h2 : T ≠ 45) (j : Nat) (u : Value) : CG (w.setCell ⟨b, j, none⟩ u) h base m l gb vs :=
  g.block fun p hp => ⟨heap_set _ _ _ _ ((g.box p hp).ne x h1.symm), fun k hk => by
    obtain ⟨c, hc⟩ := (g.own p hp).box hk
    exact heap_set _ _ _ _ (hc.ne x h2.symm)⟩
theorem CG.grown (g : CG w h base m l gb vs) {P : Program} {k : TypeId} {κ : Type} {K : KeyT P k κ} {m' : List (κ × Value)} (hm : MapIs K w mb m') (hg : w.grownBy w' (some mb)) : CG w' h base m l gb vs :=
  g.block fun p hp => ⟨hg.block _ (g.box p hp).lt (fun e => by injection e with e; exact hm.ne_box (g.box p hp) e.symm), fun k hk => hg.block k ((g.own p hp).lt k hk).2 (fun e => by
    obtain ⟨c, hc⟩ := (g.own p hp).box hk
    injection e with e
    exact hm.ne_box hc e.symm)⟩
theorem CG.add (g : CG w h base m l gb vs) {c : Int} (hc : ∀ p ∈ m, p.1 ≠ c) (hno : inClu l c = []) (hb : base ≤ w.heap.size) :
    CG (w.alloc (.cells #[.int .i64 c, .int .i64 0, .slice none 0 0] 64)) h base (m ++ [(c, .pointer (some ⟨w.heap.size, 0, none⟩))]) l (upd gb c w.heap.size) (upd vs c (.slice none 0 0)) := by
  have g' := g.alloc (.cells #[.int .i64 c, .int .i64 0, .slice none 0 0] 64)
  have hm : ∀ p, p ∈ m ++ [(c, Value.pointer (some ⟨w.heap.size, 0, none⟩))] → p ∈ m ∨ p = (c, .pointer (some ⟨w.heap.size, 0, none⟩)) := fun p hp => by simpa using hp
  refine ⟨fun p hp => ?_, fun p hp => ?_, fun p hp => ?_, fun p hp => ?_, fun p hp q hq hne => ?_⟩
  · rcases hm p hp with hp | rfl
    · rw [upd_other _ _ (hc p hp)]; exact g.ptr p hp
    · rw [upd_self]
  · rcases hm p hp with hp | rfl
    · rw [upd_other _ _ (hc p hp), upd_other _ _ (hc p hp)]; exact g'.box p hp
    · rw [upd_self, upd_self, hno]; exact BoxAt.new w _ _
  · rcases hm p hp with hp | rfl
    · rw [upd_other _ _ (hc p hp)]; exact g.low p hp
    · rw [upd_self]; exact hb
  · rcases hm p hp with hp | rfl
    · rw [upd_other _ _ (hc p hp)]; exact g'.own p hp
    · rw [upd_self, hno]; exact Own.nil
  · rcases hm p hp with hp | rfl <;> rcases hm q hq with hq | rfl
    · rw [upd_other _ _ (hc p hp), upd_other _ _ (hc q hq), upd_other _ _ (hc p hp), upd_other _ _ (hc q hq)]; exact g.apart p hp q hq hne
    · rw [upd_other _ _ (hc p hp), upd_self, upd_other _ _ (hc p hp), upd_self]
      have := (g.box p hp).lt
      exact ⟨by omega, fun k hk => by simp [Value.ownBlock]⟩
    · rw [upd_other _ _ (hc q hq), upd_self, upd_other _ _ (hc q hq), upd_self]
      have := (g.box q hq).lt
      exact ⟨by omega, fun k hk => by simp [Value.ownBlock] at hk⟩
    · exact absurd rfl hne
/-- The round's end: u has joined its cluster. -/
theorem CG.step (g : CG w h base m l gb vs) {u : Unit4} {v' : Value} {pv : Value} (hc : (u.cl, pv) ∈ m) (hn : (m.map (·.1)).Nodup)
    (hkeep : ∀ k, k < w.heap.size → k ≠ gb u.cl → (vs u.cl).ownBlock ≠ some k → w'.heap[k]? = w.heap[k]?)
    (hb : BoxAt w' (gb u.cl) 64 #[.int .i64 u.cl, .int .i64 (totalL (inClu l u.cl) + u.size), v'])
    (ho : Own w' h base 45 tUnit v' (inClu l u.cl ++ [u])) (hnew : ∀ k, v'.ownBlock = some k → (vs u.cl).ownBlock = some k ∨ w.heap.size ≤ k) :
    CG w' h base m (l ++ [u]) gb (upd vs u.cl v') := by
  have same : ∀ p ∈ m, p.1 = u.cl → p = (u.cl, pv) := fun p hp e => by
    have := lk_of_mem hn hc
    have h2 := lk_of_mem hn (x := p.1) (v := p.2) hp
    rw [e, this] at h2
    injection h2 with h2
    rw [← e] ; cases p; simp at e h2 ⊢; rw [h2]
  have kb : ∀ p ∈ m, p.1 ≠ u.cl → w'.heap[gb p.1]? = w.heap[gb p.1]? := fun p hp e => hkeep _ (g.box p hp).lt (g.apart p hp _ hc e).1 (fun e2 => by
    obtain ⟨c, hx⟩ := (g.own _ hc).box e2
    exact (g.box p hp).ne hx (by decide) rfl)
  have ko : ∀ p ∈ m, p.1 ≠ u.cl → ∀ k, (vs p.1).ownBlock = some k → w'.heap[k]? = w.heap[k]? := fun p hp e k hk => hkeep k ((g.own p hp).lt k hk).2 (fun e2 => by
    obtain ⟨c, hx⟩ := (g.own p hp).box hk
    exact hx.ne (g.box _ hc) (by decide) e2) (fun e2 => (g.apart p hp _ hc e).2 k hk e2)
  refine ⟨g.ptr, fun p hp => ?_, g.low, fun p hp => ?_, fun p hp q hq hne => ⟨(g.apart p hp q hq hne).1, ?_⟩⟩
  · by_cases e : p.1 = u.cl
    · rw [same p hp e, upd_self, inClu_same, total_snoc]; exact hb
    · rw [upd_other _ _ e, inClu_other e]; exact (g.box p hp).block (kb p hp e)
  · by_cases e : p.1 = u.cl
    · rw [same p hp e, upd_self, inClu_same]; exact ho
    · rw [upd_other _ _ e, inClu_other e]; exact (g.own p hp).block (ko p hp e)
  · have one : ∀ q ∈ m, q.1 ≠ u.cl → ∀ k, v'.ownBlock = some k → (vs q.1).ownBlock ≠ some k := fun q hq e k hk e2 => by
      rcases hnew k hk with h1 | h1
      · exact (g.apart q hq _ hc e).2 k e2 h1
      · have := ((g.own q hq).lt k e2).2; omega
    intro k hk
    by_cases e : p.1 = u.cl
    · have e2 : q.1 ≠ u.cl := fun e3 => hne (e.trans e3.symm)
      rw [e, upd_self] at hk
      rw [upd_other _ _ e2]
      exact one q hq e2 k hk
    · rw [upd_other _ _ e] at hk
      by_cases e2 : q.1 = u.cl
      · rw [e2, upd_self]; exact fun e3 => one p hp e k e3 hk
      · rw [upd_other _ _ e2]; exact (g.apart p hp q hq hne).2 k hk
end Go.Proofs.YthodbodifkeknaaDoor
