/- From the row's reading of an argument to the views. -/
import Derived.Test.YtaakpcmflladaaaDoorHvMap
import Derived.ChangeArms
import Derived.Lib.LaidTab
import Derived.DataReads
set_option linter.all false
namespace Go.Proofs.YtaakpcmflladaaaDoor
namespace Hv
open Go.RowKit Go.Proofs
variable {H : Type} {enc : TypeId × Value → H} {P : Program} {w : World} {base : Nat} {sp : Nat → Bool} {held : Bool}
/-- All of memory. -/
def fullV (w : World) : View := fun b => w.heap[b]?
theorem fullV_sub (w : World) : Sub (fullV w) w := ⟨fun _ _ e => e⟩
theorem fullV_cell (w : World) (a : Addr) : (fullV w).cell a = w.cell? a := rfl
theorem cells_at {a : Addr} {n : Nat} {cs : List Value} (h : w.cells? base a n = some cs) : cs.length = n ∧ ∀ j u, cs[j]? = some u → w.cell? (a.add j) = some u := by
  unfold World.cells? at h
  split at h
  · have hl := Lib.mapM_length h
    rw [List.length_range] at hl
    refine ⟨hl, fun j u hu => ?_⟩
    have hj : j < n := by rw [← hl]; exact (List.getElem?_eq_some_iff.1 hu).1
    obtain ⟨b, hb, e⟩ := Lib.mapM_at h j j (by rw [List.getElem?_range hj])
    rw [hu] at hb; cases hb; exact e
  · cases h
theorem slAt_of {α : Type} {t : Ty α} {h : View} {b off : Nat} (f : Nat → α) : ∀ (n : Nat), (∀ i < n, ∃ ds, t.K h (f i) ds ∧ ∀ j u, ds[j]? = some u → h.cell ⟨b, off + i * t.sz + j, none⟩ = some u) →
    ∃ cs, Rows t h ((List.range n).map f) cs ∧ ∀ j u, cs[j]? = some u → h.cell ⟨b, off + j, none⟩ = some u
  | 0, _ => ⟨[], .nil, by simp⟩
  | n + 1, hk => by
    obtain ⟨cs, r, hc⟩ := slAt_of f n fun i hi => hk i (by omega)
    obtain ⟨ds, k, hd⟩ := hk n (by omega)
    refine ⟨cs ++ ds, by rw [List.range_succ, List.map_append]; exact r.snoc k, fun j u hu => ?_⟩
    have hl := r.len
    rw [List.length_map, List.length_range] at hl
    by_cases hj : j < cs.length
    · rw [List.getElem?_append_left hj] at hu; exact hc j u hu
    · rw [List.getElem?_append_right (by omega)] at hu
      have := hd _ u hu
      rw [hl] at this
      have e : off + n * t.sz + (j - n * t.sz) = off + j := by omega
      rw [e] at this; exact this
/-- A slice of such elements, opened. -/
theorem open_sl {α : Type} {t : Ty α} {T e : TypeId} {fuel : Nat} {cs : List Value} {x : DataW H × List MemPlace} (hT : P.underlying T = some (.slice e)) (hsz : P.cellsOf e = t.sz) (hs0 : 0 < t.sz)
    (hopen : ∀ (fuel : Nat) (cs : List Value) (x : DataW H × List MemPlace), DataW.trod enc P w base sp held fuel e cs = some x → ∃ u : α, t.K (fullV w) u cs)
    (h : DataW.trod enc P w base sp held fuel T cs = some x) : ∃ v l, cs = [v] ∧ Sl (fullV w) t v l := by
  rcases DataW.trod_slice hT h with ⟨rfl, _⟩ | ⟨a, len, cap, elems, rest, n, rfl, rfl, _, hb, h1, h2, hel, hat, _⟩
  · exact ⟨_, [], rfl, Sl.nil⟩
  · rcases Nat.eq_zero_or_pos len with h0 | h0
    · subst h0
      exact ⟨_, [], rfl, some a, cap, rfl, Nat.zero_le _, by unfold maxLen at h2; omega, .inl rfl⟩
    · have hcell : ∀ i, ∃ u : α, i < len → ∃ ds, t.K (fullV w) u ds ∧ ∀ j v, ds[j]? = some v → w.cell? ((a.add (i * t.sz)).add j) = some v := by
        intro i
        by_cases hi : i < len
        · have := hat i hi
          rw [List.getElem?_eq_getElem (by omega), hsz] at this
          obtain ⟨ds, hds, htr⟩ := Option.bind_eq_some_iff.1 this
          obtain ⟨u, hu⟩ := hopen _ _ _ htr
          exact ⟨u, fun _ => ⟨ds, hu, (cells_at hds).2⟩⟩
        · have := hat 0 h0
          rw [List.getElem?_eq_getElem (by omega), hsz] at this
          obtain ⟨ds, hds, htr⟩ := Option.bind_eq_some_iff.1 this
          obtain ⟨u, hu⟩ := hopen _ _ _ htr
          exact ⟨u, fun h => absurd h hi⟩
      obtain ⟨f, hf⟩ := Classical.axiomOfChoice hcell
      have hspot : a.spot = none := by
        obtain ⟨ds, hK, hc⟩ := hf 0 h0
        have hl := t.len hK
        have h0' : 0 < ds.length := by omega
        have := hc 0 ds[0] (List.getElem?_eq_getElem h0')
        unfold World.cell? at this
        cases hsp : a.spot with
        | none => rfl
        | some s =>
          have e : ((a.add (0 * t.sz)).add 0).spot.isSome = true := by simp [Addr.add, hsp]
          rw [e] at this
          split at this
          · rw [if_pos rfl] at this; cases this
          · cases this
      obtain ⟨b, off, sp'⟩ := a
      simp only at hspot
      subst hspot
      obtain ⟨cs, r, hc⟩ := slAt_of (t := t) (h := fullV w) (b := b) (off := off) f len fun i hi => by
        obtain ⟨ds, hK, hc⟩ := hf i hi
        exact ⟨ds, hK, fun j u hu => by
          have := hc j u hu
          rw [Addr.add_lit, Addr.add_lit] at this
          exact this⟩
      have hlen : ((List.range len).map f).length = len := by simp
      refine ⟨_, (List.range len).map f, rfl, some ⟨b, off, none⟩, cap, by rw [hlen], by rw [hlen]; exact h1, by unfold maxLen at h2; exact h2, .inr ⟨b, off, cs, rfl, r, hc⟩⟩
end Hv
end Go.Proofs.YtaakpcmflladaaaDoor
