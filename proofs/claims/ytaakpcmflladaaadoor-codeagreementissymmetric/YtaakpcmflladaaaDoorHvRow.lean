/- Rows of whole numbers in a block of the call's own, written place by place. Plain lemmas over any program. -/
import Derived.Test.YtaakpcmflladaaaDoorHvMore
import Derived.Test.YtaakpcmflladaaaDoorBox
import Derived.Laws.MakeOwn
import Derived.Maps.AppendAt
set_option linter.all false
namespace Go.Proofs.YtaakpcmflladaaaDoor
namespace Hv
open Go.RowKit Go.Proofs
variable {w w' w1 : World} {g : Nat} {e : TypeId} {k : IntKind} {l : List Nat}
/-- Block g begins with the numbers l. -/
structure RowAt (w : World) (g : Nat) (e : TypeId) (k : IntKind) (l : List Nat) : Prop where
  ex : ∃ cur, BoxAt w g e cur ∧ l.length ≤ cur.size ∧ ∀ i (h : i < l.length), cur[i]? = some (.int k (l[i] : Int))
theorem RowAt.lt (r : RowAt w g e k l) : g < w.heap.size := by obtain ⟨cur, x, _⟩ := r; exact x.lt
theorem RowAt.cell (r : RowAt w g e k l) {i : Nat} (h : i < l.length) : w.cell? ⟨g, i, none⟩ = some (.int k (l[i] : Int)) := by
  obtain ⟨cur, x, _, hc⟩ := r
  rw [x.cell]; exact hc i h
theorem RowAt.frozen (r : RowAt w g e k l) (i : Nat) : w.frozen? ⟨g, i, none⟩ = false := by obtain ⟨cur, x, _⟩ := r; exact x.frozen i
theorem RowAt.block (r : RowAt w g e k l) (h : w'.heap[g]? = w.heap[g]?) : RowAt w' g e k l := by
  obtain ⟨cur, x, r⟩ := r
  exact ⟨cur, x.block h, r⟩
theorem RowAt.drew (r : RowAt w g e k l) : RowAt w.drew g e k l := r.block rfl
theorem RowAt.drewN (r : RowAt w g e k l) (n : Nat) : RowAt (w.drewN n) g e k l := r.block rfl
theorem RowAt.alloc (r : RowAt w g e k l) (o : Obj) : RowAt (w.alloc o) g e k l := r.block (Below.heap_alloc w o g r.lt)
theorem RowAt.far (r : RowAt w g e k l) {p : Addr} (hp : g ≠ p.block) (u : Value) : RowAt (w.setCell p u) g e k l := r.block (Below.heap_setCell w p u g hp)
theorem RowAt.below (r : RowAt w g e k l) (hb : Below w.heap.size w w') : RowAt w' g e k l := r.block (hb.block g r.lt)
theorem RowAt.grown (r : RowAt w g e k l) {row : Option Nat} (hg : w.grownBy w' row) (hr : row ≠ some g) : RowAt w' g e k l := r.block (hg.block g r.lt fun x => hr x.symm)
theorem RowAt.set (r : RowAt w g e k l) (i y : Nat) (hi : i < l.length) : RowAt (w.setCell ⟨g, i, none⟩ (.int k (y : Int))) g e k (l.set i y) := by
  obtain ⟨cur, x, hl, hc⟩ := r
  refine ⟨_, x.set i _, by simpa using hl, fun j hj => ?_⟩
  rw [List.length_set] at hj
  rw [Array.getElem?_setIfInBounds, List.getElem_set]
  by_cases e : i = j
  · subst e; simp; omega
  · simp [e, hc j hj]
/-- The numbers, laid in cells. -/
def cellsN (k : IntKind) (l : List Nat) : Array Value := (l.map fun n : Nat => Value.int k (n : Int)).toArray
theorem RowAt.new (w : World) (e : TypeId) (k : IntKind) (l : List Nat) : RowAt (w.alloc (.cells (cellsN k l) e (0, 0))) w.heap.size e k l :=
  ⟨_, BoxAt.new w _ e, by simp [cellsN], fun i h => by simp [cellsN, h]⟩
theorem made_zero (k : IntKind) (n : Nat) : madeCells (Value.cells (.int k 0)) n = cellsN k (List.replicate n 0) := by
  apply Array.ext
  · simp [madeCells, cellsN]
  · intro i h1 h2
    simp [madeCells, cellsN, Value.cells, Nat.mod_one]
variable {P : Program} {t : TypeId}
/-- 'make([]T, n)' of whole numbers. -/
theorem wpList_makeN {ops : Array Oper} {rest : List Oper} {o : Oper} {a : Act} {Q : Exit → Act → World → Prop} {L C : Operand} {n : Nat} {kl kc : IntKind} (ht : P.underlying t = some (.slice e)) (hi : (P.info? e).map (fun i => (i.zero, i.size, i.bytes)) = some (some (.int k 0), 1, 8))
    (hg : o.guard = none) (hop : o.op = .makeSlice t L C) (hl : a.eval L = .int kl (n : Int)) (hc : a.eval C = .int kc (n : Int)) (hn : n ≤ 17592186044416)
    (hk : RowAt (w.alloc (.cells (cellsN k (List.replicate n 0)) e)) w.heap.size e k (List.replicate n 0) → wpList P ops Q rest (a.put o.dst (.slice (some ⟨w.heap.size, 0, none⟩) n n)) (w.alloc (.cells (cellsN k (List.replicate n 0)) e))) : wpList P ops Q (o :: rest) a w := by
  obtain ⟨i, hi, hz⟩ := Option.map_eq_some_iff.1 hi
  simp only [Prod.mk.injEq] at hz
  have hr := run_make (P := P) w t e i (.int k 0) ht hi hz.1 kl kc n n (by omega) (Int.le_refl _) (by rw [hz.2.2]; omega) (by omega)
  simp only [Int.toNat_natCast, hz.2.1, Nat.mul_one, made_zero] at hr
  refine wpList_plain hg fun K hK' => ?_
  unfold Oper.wp
  simp [execOp, hop, hl, hc, hr, Result.andThen]
  exact hK' _ _ (hk (RowAt.new w e k _))
/-- Block g alone has turned. -/
structure Turn (w : World) (g : Nat) (w' : World) : Prop where
  by_ : w.grownBy w' (some g)
  size : w'.heap.size = w.heap.size
theorem Turn.refl (w : World) (g : Nat) : Turn w g w := ⟨World.grownBy.refl _ _, rfl⟩
theorem Turn.drew (t : Turn w g w') : Turn w g w'.drew := ⟨⟨t.by_.os, t.by_.tape, t.by_.output, t.by_.size, t.by_.block⟩, t.size⟩
theorem Turn.drewN (t : Turn w g w') (n : Nat) : Turn w g (w'.drewN n) := ⟨⟨t.by_.os, t.by_.tape, t.by_.output, t.by_.size, t.by_.block⟩, t.size⟩
theorem Turn.set (t : Turn w g w') (i : Nat) (u : Value) : Turn w g (w'.setCell ⟨g, i, none⟩ u) :=
  ⟨⟨t.by_.os, t.by_.tape, t.by_.output, by rw [size_set, t.size]; exact Nat.le_refl _, fun j hj hne => (Below.heap_setCell w' _ u j (by rintro rfl; exact hne rfl)).trans (t.by_.block j hj hne)⟩, (size_set _ _ _).trans t.size⟩
theorem Turn.trans {w2 : World} (t : Turn w g w') (u : Turn w' g w2) : Turn w g w2 :=
  ⟨⟨u.by_.os.trans t.by_.os, u.by_.tape.trans t.by_.tape, u.by_.output.trans t.by_.output, Nat.le_trans t.by_.size u.by_.size, fun j hj hne => (u.by_.block j (by rw [t.size]; exact hj) hne).trans (t.by_.block j hj hne)⟩, u.size.trans t.size⟩
theorem Turn.sub {h : View} (t : Turn w g w') (s : Sub h w) (hn : h g = none) : Sub h w' := s.grown t.by_ fun j e => by injection e with e; subst e; exact hn
theorem Turn.ext {w0 : World} {h0 h : View} (t : Turn w g w') (x : Ext w0 h0 w h) (hb : w0.heap.size ≤ g) (hn : h g = none) : Ext w0 h0 w' h := x.grown t.by_ fun j e => by injection e with e; subst e; exact ⟨hb, hn⟩
theorem Turn.cell {a : Addr} {u : Value} (t : Turn w g w') (h : w.cell? a = some u) (hne : a.block ≠ g) : w'.cell? a = some u := t.by_.cell h (by simpa using fun e => hne e)
/-- A part of a list, in its midst. -/
theorem set_mid {α : Type} (a o b : List α) (i : Nat) (y : α) (hi : i < o.length) : (a ++ o ++ b).set (a.length + i) y = a ++ o.set i y ++ b := by
  rw [List.append_assoc, List.append_assoc, List.set_append, if_neg (by omega), List.set_append, if_pos (by omega)]
  congr 3; omega
theorem get_mid {α : Type} (a o b : List α) (i : Nat) (hi : i < o.length) (h : a.length + i < (a ++ o ++ b).length) : (a ++ o ++ b)[a.length + i] = o[i] := by
  rw [List.getElem_append_left (by simp; omega), List.getElem_append_right (by omega)]
  congr 1; omega
theorem RowAt.cell_mid {a o b : List Nat} (r : RowAt w g e k (a ++ o ++ b)) {i : Nat} (hi : i < o.length) : w.cell? ⟨g, a.length + i, none⟩ = some (.int k (o[i] : Int)) := by
  have h : a.length + i < (a ++ o ++ b).length := by simp; omega
  rw [r.cell h, get_mid a o b i hi h]
theorem RowAt.set_mid {a o b : List Nat} (r : RowAt w g e k (a ++ o ++ b)) (i y : Nat) (hi : i < o.length) : RowAt (w.setCell ⟨g, a.length + i, none⟩ (.int k (y : Int))) g e k (a ++ o.set i y ++ b) := by
  rw [← Hv.set_mid a o b i y hi]
  exact r.set _ _ (by simp; omega)
/-- An own row of numbers. -/
def tN (k : IntKind) : Ty Nat := tVia (fun n : Nat => (n : Int)) (tInt k)
theorem tN_K {h : View} {n : Nat} {cs : List Value} (x : (tN k).K h n cs) : cs = [.int k n] ∧ inRange k n := x
theorem tN_mk {h : View} {n : Nat} (r : inRange k n) : (tN k).K h n [.int k n] := ⟨rfl, r⟩
theorem rowsN {h : View} : ∀ {l : List Nat}, (∀ x ∈ l, inRange k (x : Int)) → Rows (tN k) h l (l.map fun n : Nat => Value.int k (n : Int))
  | [], _ => .nil
  | x :: l, hx => Rows.cons (tN_mk (hx x (by simp))) (rowsN fun y hy => hx y (by simp [hy]))
theorem rowsN_cells {h : View} : ∀ {l : List Nat} {cs : List Value}, Rows (tN k) h l cs → cs = l.map fun n : Nat => Value.int k (n : Int)
  | [], _, r => by cases r; rfl
  | x :: l, _, r => by
    cases r with
    | cons k1 r1 =>
      obtain ⟨rfl, _⟩ := tN_K k1
      rw [rowsN_cells r1]; rfl
/-- A row that is written no more joins the view: a slice of its first numbers. -/
theorem RowAt.publish {w0 : World} {h0 h : View} (r : RowAt w g e k l) (x : Ext w0 h0 w h) (hb : w0.heap.size ≤ g) (hn : h g = none) (hl : l.length ≤ 9223372036854775807) (hr : ∀ x ∈ l, inRange k (x : Int)) :
    ∃ h', Ext w0 h0 w h' ∧ View.le h h' ∧ (∀ c, l.length ≤ c → c ≤ 9223372036854775807 → Sl h' (tN k) (.slice (some ⟨g, 0, none⟩) l.length c) l) ∧ (∀ b, b ≠ g → h' b = h b) := by
  obtain ⟨cur, bx, hs, hc⟩ := r
  obtain ⟨h', x', l', e', o'⟩ := x.addBlock bx hb hn
  refine ⟨h', x', l', fun c h1 h2 => ⟨_, c, rfl, h1, h2, .inr ⟨g, 0, _, rfl, rowsN hr, fun j u hu => ?_⟩⟩, o'⟩
  rw [View.cell_of e', Nat.zero_add]
  obtain ⟨hj, hv⟩ := List.getElem?_eq_some_iff.1 hu
  rw [List.length_map] at hj
  rw [hc j hj, ← hv]; simp
/-- From appends to a row that is written. -/
theorem Own.rowAt {h : View} {base : Nat} {v : Value} (o : Own w h base e (tN k) v l) (h0 : l ≠ []) : ∃ g c, v = .slice (some ⟨g, 0, none⟩) l.length c ∧ base ≤ g ∧ h g = none ∧ l.length ≤ c ∧ c ≤ 9223372036854775807 ∧ RowAt w g e k l := by
  obtain ⟨⟨cs, hr, rs⟩, hout⟩ := o
  rcases hr.2 with ⟨_, hn⟩ | ⟨g, cap, cur, rfl, hb, hh, h1, h2, h3, h4⟩
  · exact absurd (List.eq_nil_of_length_eq_zero hn) h0
  · have hc := rowsN_cells rs
    subst hc
    have s1 : (tN k).sz = 1 := rfl
    rw [s1, Nat.mul_one] at h3 h4
    refine ⟨g, cap, rfl, hb, hout g rfl, h1, by unfold maxLen at h2; omega, cur, hh, by omega, fun i hi => ?_⟩
    have : (cur.toList.take l.length)[i]? = some (.int k (l[i] : Int)) := by rw [h4]; simp [hi]
    rw [List.getElem?_take] at this
    rw [if_pos hi] at this
    simpa using this
/-- The laws of an own row of numbers, at a literal of one. -/
theorem Own.num_range {h : View} {base : Nat} {v : Value} (o : Own w h base e (tN k) v l) : ∀ x ∈ l, inRange k (x : Int) := by
  obtain ⟨⟨cs, hr, rs⟩, hout⟩ := o
  clear hr hout
  induction rs with
  | nil => intro x hx; cases hx
  | cons k1 _ ih =>
    intro x hx
    rcases List.mem_cons.1 hx with rfl | hx
    · exact (tN_K k1).2
    · exact ih x hx
/-- The append of the elements of a slice that is read. -/
theorem wpList_appN {α : Type} {T0 : Ty α} {ops : Array Oper} {rest : List Oper} {o : Oper} {a : Act} {Q : Exit → Act → World → Prop} {s x : Operand} {T : TypeId} {bytes base : Nat} {h : View} {v : Value} {xs ys : List α}
    (st : SlT P T e T0.sz bytes) (hsz : 0 < T0.sz) (hgd : o.guard = none) (ho : o.op = .call { callee := .builtin .append, args := #[s, x], argTypes := #[T, T] })
    (hown : Own w h base e T0 v xs) (hsub : Sub h w) (hs : a.eval s = v) {ad : Addr} {c m : Nat} (hx : a.eval x = .slice (some ad) m c) (hm : m = ys.length) (hat : SlAt h T0 (some ad) ys) (hne : ys ≠ [])
    (hbytes : (xs.length + ys.length) * bytes ≤ 140737488355328) (h63 : xs.length + ys.length ≤ 9223372036854775807) (hbase : base ≤ w.heap.size)
    (hk : ∀ v' w', Own w' h base e T0 v' (xs ++ ys) → w.grownBy w' v.ownBlock → Sub h w' → (∀ k, v'.ownBlock = some k → v.ownBlock = some k ∨ w.heap.size ≤ k) → wpList P ops Q rest (a.put o.dst v') w') : wpList P ops Q (o :: rest) a w := by
  obtain ⟨i, z, hi, hz, h1, h2, h3⟩ := st.info
  rcases hat with hn | ⟨b, off, cs, hA, r, hc⟩
  · exact absurd hn hne
  · injection hA with hA
    subst hA
    exact wpList_appendN hgd s x T ho i z bytes st.under hi hz h1 h2 h3 hsz hs hown hsub _ m c hm hx r (fun j u hu => by rw [Addr.add_lit]; exact hsub.cell (hc j u hu)) hbytes h63 hbase hk
end Hv
end Go.Proofs.YtaakpcmflladaaaDoor
