/- Ranging over a map of a call's own: the iterator, and what has come out of it. Plain lemmas over any program. -/
import Derived.Test.YtaakpcmflladaaaDoorHvMap
import Derived.Maps.RangeRun
set_option linter.all false
namespace Go.Proofs.YtaakpcmflladaaaDoor
namespace Hv
open Go.RowKit Go.Maps
open Go.ChangeMaps (setBlock)
variable {P : Program} {k e t : TypeId} {κ : Type} [DecidableEq κ] {K : KeyT P k κ} {w w' : World} {b r : Nat} {m done : List (κ × Value)}
/-- Block r is an iterator over map b, which has the entries m; those of done have come out. -/
structure RangeIs (K : KeyT P k κ) (w : World) (b r : Nat) (m done : List (κ × Value)) : Prop where
  map : MapIs K w b m
  ex : ∃ (es : Array MapEntry) (clock since c0 : Nat) (ds : List MapEntry), w.heap[b]? = some (.map es clock) ∧ w.heap[r]? = some (.mapIter (some b) since (ds.map (·.born)).toArray c0) ∧ (since ≤ c0 ∧ since ≤ clock) ∧
    (∀ x ∈ es.toList, x.born < since) ∧ (∀ x ∈ ds, x ∈ es.toList) ∧ (ds.map (·.born)).Nodup ∧ ds.map (fun x => (x.key, x.val)) = done.map (fun p => (K.ek p.1, p.2))
theorem RangeIs.lt (h : RangeIs K w b r m done) : r < w.heap.size := by
  obtain ⟨_, es, c, s, c0, ds, _, hr, _⟩ := h
  exact (Array.getElem?_eq_some_iff.1 hr).1
theorem RangeIs.ne (h : RangeIs K w b r m done) : b ≠ r := by
  obtain ⟨_, es, c, s, c0, ds, hb, hr, _⟩ := h
  rintro rfl
  rw [hb] at hr; cases hr
theorem RangeIs.block (h : RangeIs K w b r m done) (hb : w'.heap[b]? = w.heap[b]?) (hr : w'.heap[r]? = w.heap[r]?) : RangeIs K w' b r m done := by
  obtain ⟨hm, es, c, s, c0, ds, h1, h2, rest⟩ := h
  exact ⟨hm.block hb, es, c, s, c0, ds, hb.trans h1, hr.trans h2, rest⟩
theorem RangeIs.alloc (h : RangeIs K w b r m done) (o : Obj) : RangeIs K (w.alloc o) b r m done := h.block (Below.heap_alloc w o b h.map.lt) (Below.heap_alloc w o r h.lt)
theorem RangeIs.drew (h : RangeIs K w b r m done) : RangeIs K w.drew b r m done := h.block rfl rfl
theorem RangeIs.drewN (h : RangeIs K w b r m done) (n : Nat) : RangeIs K (w.drewN n) b r m done := h.block rfl rfl
theorem RangeIs.below (h : RangeIs K w b r m done) (hb : Below w.heap.size w w') : RangeIs K w' b r m done := h.block (hb.block b h.map.lt) (hb.block r h.lt)
theorem RangeIs.grown (h : RangeIs K w b r m done) {row : Option Nat} (hg : w.grownBy w' row) (h1 : row ≠ some b) (h2 : row ≠ some r) : RangeIs K w' b r m done :=
  h.block (hg.block b h.map.lt (fun e => h1 e.symm)) (hg.block r h.lt (fun e => h2 e.symm))
theorem RangeIs.setCell (h : RangeIs K w b r m done) (p : Addr) (u : Value) (hp : p.block ≠ b) (hr : p.block ≠ r) : RangeIs K (w.setCell p u) b r m done :=
  h.block (Below.heap_setCell w p u b (fun e => hp e.symm)) (Below.heap_setCell w p u r (fun e => hr e.symm))
theorem born_inj : ∀ {l : List MapEntry}, (l.map (·.born)).Nodup → ∀ {x y : MapEntry}, x ∈ l → y ∈ l → x.born = y.born → x = y
  | [], _, _, _, hx, _, _ => by simp at hx
  | a :: l, hn, x, y, hx, hy, h => by
    rw [List.map_cons, List.nodup_cons] at hn
    rcases List.mem_cons.1 hx with rfl | hx1
    · rcases List.mem_cons.1 hy with rfl | hy1
      · rfl
      · exact (hn.1 (List.mem_map.2 ⟨y, hy1, h.symm⟩)).elim
    · rcases List.mem_cons.1 hy with rfl | hy1
      · exact (hn.1 (List.mem_map.2 ⟨x, hx1, h⟩)).elim
      · exact born_inj hn.2 hx1 hy1 h
theorem RangeIs.mem (h : RangeIs K w b r m done) {p : κ × Value} (hp : p ∈ done) : p ∈ m := by
  obtain ⟨⟨es', c', hb', hm, hn, hok, hborn, hbn⟩, es, c, s, c0, ds, hb, hr, hs, h1, h2, h3, h4⟩ := h
  rw [hb] at hb'
  injection hb' with hb'
  injection hb' with e1 _
  subst e1
  have : (K.ek p.1, p.2) ∈ ds.map (fun x => (x.key, x.val)) := by rw [h4]; exact List.mem_map.2 ⟨p, hp, rfl⟩
  obtain ⟨x, hx, e⟩ := List.mem_map.1 this
  have : (x.key, x.val) ∈ es.toList.map (fun x => (x.key, x.val)) := List.mem_map.2 ⟨x, h2 x hx, rfl⟩
  rw [hm, e] at this
  obtain ⟨q, hq, e2⟩ := List.mem_map.1 this
  injection e2 with e3 e4
  have := K.inj _ _ e3
  have : q = p := Prod.ext this e4
  rw [← this]; exact hq
/-- Entries of a list of pairs, matched place by place. -/
theorem pairs_at {l : List MapEntry} {m : List (κ × Value)} (h : l.map (fun x => (x.key, x.val)) = m.map (fun p => (K.ek p.1, p.2))) {x : MapEntry} (hx : x ∈ l) : ∃ p ∈ m, x.key = K.ek p.1 ∧ x.val = p.2 := by
  have : (x.key, x.val) ∈ l.map (fun x => (x.key, x.val)) := List.mem_map.2 ⟨x, hx, rfl⟩
  rw [h] at this
  obtain ⟨p, hp, e⟩ := List.mem_map.1 this
  injection e with e1 e2
  exact ⟨p, hp, e1.symm, e2.symm⟩
theorem key_inj_of {l : List MapEntry} {m : List (κ × Value)} (h : l.map (fun x => (x.key, x.val)) = m.map (fun p => (K.ek p.1, p.2))) (hn : (m.map (·.1)).Nodup) : (l.map (·.key)).Nodup := by
  have e : l.map (·.key) = (m.map (·.1)).map K.ek := by
    have := congrArg (List.map Prod.fst) h
    rw [List.map_map, List.map_map] at this
    rw [List.map_map]; exact this
  rw [e]
  unfold List.Nodup at *
  rw [List.pairwise_map]
  exact List.Pairwise.imp (fun {a b} hne e => hne (K.inj a b e)) hn
theorem key_inj : ∀ {l : List MapEntry}, (l.map (·.key)).Nodup → ∀ {x y : MapEntry}, x ∈ l → y ∈ l → x.key = y.key → x = y
  | [], _, _, _, hx, _, _ => by simp at hx
  | a :: l, hn, x, y, hx, hy, h => by
    rw [List.map_cons, List.nodup_cons] at hn
    rcases List.mem_cons.1 hx with rfl | hx1
    · rcases List.mem_cons.1 hy with rfl | hy1
      · rfl
      · exact (hn.1 (List.mem_map.2 ⟨y, hy1, h.symm⟩)).elim
    · rcases List.mem_cons.1 hy with rfl | hy1
      · exact (hn.1 (List.mem_map.2 ⟨x, hx1, h⟩)).elim
      · exact key_inj hn.2 hx1 hy1 h
theorem RangeIs.nodup (h : RangeIs K w b r m done) : (done.map (·.1)).Nodup := by
  obtain ⟨⟨es', c', hb', hm, hn, hok, hborn, hbn⟩, es, c, s, c0, ds, hb, hr, hs, h1, h2, h3, h4⟩ := h
  rw [hb] at hb'
  injection hb' with hb'
  injection hb' with e1 _
  subst e1
  have hk := key_inj_of hm hn
  have h5 : (ds.map (·.key)).Nodup := by
    unfold List.Nodup at h3 ⊢
    rw [List.pairwise_map] at h3 ⊢
    refine List.Pairwise.imp_of_mem (fun {a b} ha hb hne e => hne ?_) h3
    rw [key_inj hk (h2 a ha) (h2 b hb) e]
  have e : ds.map (·.key) = (done.map (·.1)).map K.ek := by
    have := congrArg (List.map Prod.fst) h4
    rw [List.map_map, List.map_map] at this
    rw [List.map_map]; exact this
  rw [e] at h5
  unfold List.Nodup at h5 ⊢
  rw [List.pairwise_map] at h5
  exact List.Pairwise.imp (fun {a b} hne e => hne (by rw [e])) h5
theorem RangeIs.le (h : RangeIs K w b r m done) : done.length ≤ m.length := by
  have h1 := h.nodup
  have h2 := List.Nodup.length_le_of_subset h1 (l₂ := m.map (·.1)) fun x hx => by
    obtain ⟨p, hp, rfl⟩ := List.mem_map.1 hx
    exact List.mem_map.2 ⟨p, h.mem hp, rfl⟩
  simpa using h2
theorem RangeIs.start (h : MapIs K w b m) : ∃ it, (∀ (t : TypeId) (ht : P.underlying t = some (.map k e)), (Instr.range t (.map (some b))).run P w = .ok (.pointer (some ⟨w.heap.size, 0, none⟩)) (w.alloc it)) ∧ RangeIs K (w.alloc it) b w.heap.size m [] := by
  obtain ⟨es, c, hb, hm, hn, hok, hborn, hbn⟩ := id h
  refine ⟨.mapIter (some b) c #[] c, fun t ht => ?_, ⟨h.alloc _, es, c, c, c, [], ?_, ?_, ⟨Nat.le_refl _, Nat.le_refl _⟩, hborn, by simp, by simp, by simp⟩⟩
  · simp [Instr.range, run_underlying ht, MapKept.run_getObj_map hb, Result.andThen]
  · rw [Below.heap_alloc w _ b (Array.getElem?_eq_some_iff.1 hb).1]; exact hb
  · show (w.heap.push _)[w.heap.size]? = _; simp
theorem wpList_range {ops : Array Oper} {rest : List Oper} {o : Oper} {a : Act} {Q : Exit → Act → World → Prop} {mo : Operand} (h : MapIs K w b m) (ht : P.underlying t = some (.map k e)) (hg : o.guard = none) (hop : o.op = Op.range t mo) (hm : a.eval mo = .map (some b))
    (hk : ∀ it, RangeIs K (w.alloc it) b w.heap.size m [] → wpList P ops Q rest (a.put o.dst (.pointer (some ⟨w.heap.size, 0, none⟩))) (w.alloc it)) : wpList P ops Q (o :: rest) a w := by
  refine wpList_plain hg fun K' hK' => ?_
  obtain ⟨it, hr, hi⟩ := RangeIs.start (e := e) h
  unfold Oper.wp
  simp [execOp, hop, hm, hr t ht, Result.andThen]
  exact hK' _ _ (hk it hi)
theorem perm_of_full (hd : (done.map (·.1)).Nodup) (hm : (m.map (·.1)).Nodup) (h1 : ∀ p ∈ done, p ∈ m) (h2 : ∀ p ∈ m, p ∈ done) : done.Perm m := by
  have n1 : done.Nodup := by
    unfold List.Nodup at *
    rw [List.pairwise_map] at hd
    exact List.Pairwise.imp (fun {a b} hne e => hne (by rw [e])) hd
  have n2 : m.Nodup := by
    unfold List.Nodup at *
    rw [List.pairwise_map] at hm
    exact List.Pairwise.imp (fun {a b} hne e => hne (by rw [e])) hm
  exact (List.perm_ext_iff_of_nodup n1 n2).2 fun p => ⟨h1 p, h2 p⟩
theorem RangeIs.next (h : RangeIs K w b r m done) (ty : TypeId) :
    (done.Perm m ∧ (Instr.next (.pointer (some ⟨r, 0, none⟩)) false ty).run P w = .ok (.tuple #[.bool false]) w) ∨
    ∃ p w', p ∈ m ∧ (∀ q ∈ done, q.1 ≠ p.1) ∧ (Instr.next (.pointer (some ⟨r, 0, none⟩)) false ty).run P w = .ok (.tuple #[.bool true, K.ek p.1, p.2]) w' ∧ RangeIs K w' b r m (done ++ [p]) ∧ w.grownBy w' (some r) ∧ w'.heap.size = w.heap.size ∧
      (Instr.entry (.pointer (some ⟨r, 0, none⟩))).run P w' = .ok (.tuple #[K.ek p.1, p.2]) w' := by
  have hne := h.ne
  have hnd := h.nodup
  have hmem := fun p hp => h.mem (p := p) hp
  obtain ⟨hmap, es, c, s, c0, ds, hb, hr, hs, h1, h2, h3, h4⟩ := h
  obtain ⟨es', c', hb', hm, hn, hok, hborn, hbn⟩ := id hmap
  rw [hb] at hb'
  injection hb' with hb'
  injection hb' with e1 e2
  subst e1
  subst e2
  have hkn := key_inj_of hm hn
  rcases run_next_at (P := P) w ty r b s c0 _ es c hr hb h1 hs.1 with ⟨h0, hrun⟩ | ⟨x, hx, w1, hw1, hrun⟩
  · refine .inl ⟨perm_of_full hnd hn hmem fun p hp => ?_, hrun⟩
    have : (K.ek p.1, p.2) ∈ es.toList.map (fun x => (x.key, x.val)) := by rw [hm]; exact List.mem_map.2 ⟨p, hp, rfl⟩
    obtain ⟨y, hy, e⟩ := List.mem_map.1 this
    have hseen := all_seen es _ h0 y hy
    have hyd : y.born ∈ ds.map (·.born) := by simpa using hseen
    obtain ⟨z, hz, ez⟩ := List.mem_map.1 hyd
    have : z = y := born_inj hbn (h2 z hz) hy ez
    subst this
    obtain ⟨q, hq, q1, q2⟩ := pairs_at (K := K) h4 hz
    injection e with e3 e4
    have e5 : q.1 = p.1 := K.inj _ _ (q1.symm.trans e3)
    have : q = p := Prod.ext e5 (q2.symm.trans e4)
    rw [← this]; exact hq
  · obtain ⟨hxe, hxs⟩ := mem_left hx
    obtain ⟨p, hp, p1, p2⟩ := pairs_at (K := K) hm hxe
    have hxd : x.born ∉ ds.map (·.born) := by
      intro hc
      have : (ds.map (·.born)).toArray.contains x.born = true := by simpa using hc
      rw [this] at hxs; cases hxs
    have hr1 : w1.heap[r]? = some (.mapIter (some b) s (ds.map (·.born)).toArray c0) := by rcases hw1 with rfl | rfl <;> exact hr
    have hb1 : w1.heap[b]? = some (.map es c) := by rcases hw1 with rfl | rfl <;> exact hb
    have hsz : w1.heap.size = w.heap.size := by rcases hw1 with rfl | rfl <;> rfl
    have e3 : (ds.map (·.born)).toArray.push x.born = ((ds ++ [x]).map (·.born)).toArray := by simp
    have hnew : (setBlock w1 r (.mapIter (some b) s ((ds ++ [x]).map (·.born)).toArray c)).heap[r]? = some (.mapIter (some b) s ((ds ++ [x]).map (·.born)).toArray c) := by
      have hl : r < w1.heap.size := by rw [hsz]; exact (Array.getElem?_eq_some_iff.1 hr).1
      simp [setBlock, hl]
    have hold : ∀ i, i ≠ r → (setBlock w1 r (.mapIter (some b) s ((ds ++ [x]).map (·.born)).toArray c)).heap[i]? = w.heap[i]? := by
      intro i hi
      have e : (setBlock w1 r (.mapIter (some b) s ((ds ++ [x]).map (·.born)).toArray c)).heap[i]? = w1.heap[i]? := by
        simp only [setBlock]
        rw [Array.getElem?_setIfInBounds_ne (fun e => hi e.symm)]
      rw [e]
      rcases hw1 with rfl | rfl <;> rfl
    have hbb := (hold b hne).trans hb
    refine .inr ⟨p, setBlock w1 r (.mapIter (some b) s ((ds ++ [x]).map (·.born)).toArray c), hp, fun q hq e => ?_, ?_, ⟨hmap.block (hold b hne), es, c, s, c, ds ++ [x], hbb, hnew, ⟨hs.2, hs.2⟩, h1, ?_, ?_, ?_⟩, ⟨?_, ?_, ?_, ?_, ?_⟩, ?_, ?_⟩
    · -- no key twice
      have : (K.ek q.1, q.2) ∈ ds.map (fun x => (x.key, x.val)) := by rw [h4]; exact List.mem_map.2 ⟨q, hq, rfl⟩
      obtain ⟨y, hy, e5⟩ := List.mem_map.1 this
      injection e5 with e6 _
      have : y = x := key_inj hkn (h2 y hy) hxe (by rw [e6, p1, e])
      subst this
      exact hxd (List.mem_map.2 ⟨y, hy, rfl⟩)
    · rw [hrun, e3, p1, p2]
    · intro y hy
      rcases List.mem_append.1 hy with hy | hy
      · exact h2 y hy
      · rw [List.mem_singleton.1 hy]; exact hxe
    · rw [List.map_append, List.nodup_append]
      refine ⟨h3, by simp, ?_⟩
      intro y hy z hz e5
      rw [List.map_cons, List.map_nil, List.mem_singleton] at hz
      subst e5; subst hz
      exact hxd hy
    · rw [List.map_append, List.map_append, h4]; simp [p1, p2]
    · rcases hw1 with rfl | rfl <;> rfl
    · rcases hw1 with rfl | rfl <;> first | rfl | (simp [setBlock]; done) | trivial
    · rcases hw1 with rfl | rfl <;> rfl
    · simp [setBlock, hsz]
    · intro i hi hir
      exact hold i (fun e => hir (by rw [e]))
    · simp [setBlock, hsz]
    · rw [← p1, ← p2]
      rw [← e3] at hnew hbb ⊢
      exact run_entry_at _ r b s _ es c x hnew hbb hxe hbn
theorem wpList_next {ops : Array Oper} {rest : List Oper} {o : Oper} {a : Act} {Q : Exit → Act → World → Prop} {it : Operand} (h : RangeIs K w b r m done) (hg : o.guard = none) (hop : o.op = Op.next it false) (hit : a.eval it = .pointer (some ⟨r, 0, none⟩))
    (hDone : done.Perm m → wpList P ops Q rest (a.put o.dst (.tuple #[.bool false])) w)
    (hMore : ∀ p w', p ∈ m → (∀ q ∈ done, q.1 ≠ p.1) → RangeIs K w' b r m (done ++ [p]) → w.grownBy w' (some r) → w'.heap.size = w.heap.size → (Instr.entry (.pointer (some ⟨r, 0, none⟩))).run P w' = .ok (.tuple #[K.ek p.1, p.2]) w' →
      wpList P ops Q rest (a.put o.dst (.tuple #[.bool true, K.ek p.1, p.2])) w') : wpList P ops Q (o :: rest) a w := by
  refine wpList_plain hg fun K' hK' => ?_
  unfold Oper.wp
  rcases h.next o.type with ⟨h0, hrun⟩ | ⟨p, w', h1, h2, hrun, h3, h4, h5, h6⟩
  · simp [execOp, hop, hit, hrun, Result.andThen]
    exact hK' _ _ (hDone h0)
  · simp [execOp, hop, hit, hrun, Result.andThen]
    exact hK' _ _ (hMore p w' h1 h2 h3 h4 h5 h6)
end Hv
end Go.Proofs.YtaakpcmflladaaaDoor
