/- Blocks and maps that join the view. Plain lemmas over any program. -/
import Derived.Test.YtaakpcmflladaaaDoorHvMap
set_option linter.all false
namespace Go.Proofs.YtaakpcmflladaaaDoor
namespace Hv
open Go.RowKit Go.Maps
variable {P : Program} {k e t : TypeId} {κ : Type} [DecidableEq κ] {K : KeyT P k κ} {w w' w0 : World} {h h' h0 : View} {b : Nat} {m : List (κ × Value)}
/-- A new block that is written no more joins the view. -/
theorem Ext.addBlock {o : Obj} (x : Ext w0 h0 w h) (hb : w.heap[b]? = some o) (hnew : w0.heap.size ≤ b) (hn : h b = Option.none) :
    ∃ h', Ext w0 h0 w h' ∧ View.le h h' ∧ h' b = some o ∧ (∀ k, k ≠ b → h' k = h k) := by
  have hl : View.le h (fun k => if k = b then some o else h k) := by
    intro k o' e'
    by_cases hk : k = b
    · subst hk; rw [hn] at e'; cases e'
    · simp [hk, e']
  refine ⟨fun k => if k = b then some o else h k, ⟨x.below, x.le.trans hl, fun k hk => ?_, ⟨fun k o' e' => ?_⟩⟩, hl, by simp, fun k hk => by simp [hk]⟩
  · rw [if_neg (by omega)]; exact x.old k hk
  · by_cases hk : k = b
    · subst hk; rw [if_pos rfl] at e'; rw [hb]; exact e'
    · rw [if_neg hk] at e'; exact x.sub.at_ k o' e'
/-- A map that is written no more. -/
structure MapIn (K : KeyT P k κ) (h : View) (b : Nat) (m : List (κ × Value)) : Prop where
  ex : ∃ es clock, h b = some (.map es clock) ∧ es.toList.map (fun x => (x.key, x.val)) = m.map (fun p => (K.ek p.1, p.2)) ∧ (m.map (·.1)).Nodup ∧ (∀ p ∈ m, K.ok p.1) ∧ (∀ x ∈ es.toList, x.born < clock) ∧ (es.toList.map (·.born)).Nodup
theorem MapIn.is (hm : MapIn K h b m) (hs : Sub h w) : MapIs K w b m := by
  obtain ⟨es, c, hb, r⟩ := hm
  exact ⟨es, c, hs.at_ _ _ hb, r⟩
theorem MapIn.mono (hm : MapIn K h b m) (hl : View.le h h') : MapIn K h' b m := by
  obtain ⟨es, c, hb, r⟩ := hm
  exact ⟨es, c, hl _ _ hb, r⟩
theorem MapIn.nodup (hm : MapIn K h b m) : (m.map (·.1)).Nodup := by obtain ⟨_, _, _, _, h, _⟩ := hm; exact h
theorem MapIs.publish (hm : MapIs K w b m) (x : Ext w0 h0 w h) (hnew : w0.heap.size ≤ b) (hn : h b = Option.none) :
    ∃ h', Ext w0 h0 w h' ∧ View.le h h' ∧ MapIn K h' b m ∧ (∀ k, k ≠ b → h' k = h k) := by
  obtain ⟨es, c, hb, r⟩ := hm
  obtain ⟨h', x', l, e, o⟩ := x.addBlock hb hnew hn
  exact ⟨h', x', l, ⟨es, c, e, r⟩, o⟩
/-- A whole block of cells in the view. -/
theorem View.cell_of {cs : Array Value} {T : TypeId} {f : Nat × Nat} (hb : h b = some (.cells cs T f)) (j : Nat) : h.cell ⟨b, j, none⟩ = cs[j]? := by
  unfold View.cell; rw [hb]; rfl
theorem Sub.block_none (hs : Sub h w) (hb : w.heap.size ≤ b) : h b = none := hs.none_ge hb
end Hv
end Go.Proofs.YtaakpcmflladaaaDoor
