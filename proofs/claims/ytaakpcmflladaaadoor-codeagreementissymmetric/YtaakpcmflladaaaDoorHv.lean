/- The view library: what a value reads as in a part of memory that nobody writes, and rows of a call's own. Plain lemmas over any program. -/
import Derived.WalkKit
import Derived.KernelRfl
import Derived.RowKit3
import Derived.Maps.AppendAt
import Derived.Deep.LoopGhost
import Derived.Deep.QuietTactic
import Derived.BigQuiet
import Derived.OwnWalk
set_option linter.all false
namespace Go.Proofs.YtaakpcmflladaaaDoor
namespace Hv
open Go.RowKit

/-- A part of memory: blocks that nobody writes any more. -/
abbrev View := Nat → Option Obj
def View.le (h h' : View) : Prop := ∀ b o, h b = some o → h' b = some o
theorem View.le.refl (h : View) : View.le h h := fun _ _ e => e
theorem View.le.trans {h h' h'' : View} (a : View.le h h') (b : View.le h' h'') : View.le h h'' := fun k o e => b k o (a k o e)
structure Sub (h : View) (w : World) : Prop where
  at_ : ∀ b o, h b = some o → w.heap[b]? = some o
theorem Sub.lt {h : View} {w : World} (s : Sub h w) {b : Nat} {o : Obj} (e : h b = some o) : b < w.heap.size := by
  have := s.at_ b o e
  exact (Array.getElem?_eq_some_iff.1 this).1
theorem Sub.none_ge {h : View} {w : World} (s : Sub h w) {b : Nat} (hb : w.heap.size ≤ b) : h b = none := by
  cases e : h b with
  | none => rfl
  | some o => have := s.lt e; omega
theorem Sub.alloc {h : View} {w : World} (s : Sub h w) (o : Obj) : Sub h (w.alloc o) :=
  ⟨fun b x e => by rw [Below.heap_alloc w o b (s.lt e)]; exact s.at_ b x e⟩
theorem Sub.drew {h : View} {w : World} (s : Sub h w) : Sub h w.drew := ⟨s.at_⟩
theorem Sub.drewN {h : View} {w : World} (s : Sub h w) (n : Nat) : Sub h (w.drewN n) := ⟨s.at_⟩
theorem Sub.setCell {h : View} {w : World} (s : Sub h w) {p : Addr} (hp : h p.block = none) (u : Value) : Sub h (w.setCell p u) :=
  ⟨fun b x e => by
    rw [Below.heap_setCell w p u b (by rintro rfl; rw [hp] at e; cases e)]; exact s.at_ b x e⟩
theorem Sub.grown {h : View} {w w' : World} (s : Sub h w) {row : Option Nat} (hg : w.grownBy w' row) (hr : ∀ k, row = some k → h k = none) : Sub h w' :=
  ⟨fun b x e => by
    rw [hg.block b (s.lt e) (by intro hk; rw [hr b hk.symm] at e; cases e)]; exact s.at_ b x e⟩
theorem Sub.below {h : View} {w w' : World} (s : Sub h w) (hb : Below w.heap.size w w') : Sub h w' :=
  ⟨fun b x e => by rw [hb.block b (s.lt e)]; exact s.at_ b x e⟩
def View.cell (h : View) (a : Addr) : Option Value :=
  match h a.block with
  | some (.cells c _ _) => if a.spot.isSome then none else c[a.off]?
  | _ => none
theorem View.cell_le {h h' : View} (l : View.le h h') {a : Addr} {v : Value} (e : h.cell a = some v) : h'.cell a = some v := by
  unfold View.cell at *
  split at e
  · rename_i c t f hb
    rw [l _ _ hb]; exact e
  · cases e
theorem Sub.cell {h : View} {w : World} (s : Sub h w) {a : Addr} {v : Value} (e : h.cell a = some v) : w.cell? a = some v := by
  unfold View.cell at e
  split at e
  · rename_i c t f hb
    unfold World.cell?
    rw [s.at_ _ _ hb]; exact e
  · cases e

/-- From world w and view h to world w' and view h': nothing that was there has turned, the view has grown by new blocks alone. -/
structure Ext (w : World) (h : View) (w' : World) (h' : View) : Prop where
  below : Below w.heap.size w w'
  le : View.le h h'
  old : ∀ b, b < w.heap.size → h' b = h b
  sub : Sub h' w'
theorem Ext.refl {w : World} {h : View} (s : Sub h w) : Ext w h w h := ⟨Below.refl _ _, View.le.refl _, fun _ _ => rfl, s⟩
theorem Ext.trans {w w1 w2 : World} {h h1 h2 : View} (a : Ext w h w1 h1) (b : Ext w1 h1 w2 h2) : Ext w h w2 h2 :=
  ⟨a.below.trans (b.below.mono a.below.size), a.le.trans b.le, fun k hk => (b.old k (Nat.lt_of_lt_of_le hk a.below.size)).trans (a.old k hk), b.sub⟩
theorem Ext.alloc {w w1 : World} {h h1 : View} (a : Ext w h w1 h1) (o : Obj) : Ext w h (w1.alloc o) h1 :=
  ⟨a.below.alloc a.below.size o, a.le, a.old, a.sub.alloc o⟩
theorem Ext.drew {w w1 : World} {h h1 : View} (a : Ext w h w1 h1) : Ext w h w1.drew h1 := ⟨a.below.drew, a.le, a.old, a.sub.drew⟩
theorem Ext.drewN {w w1 : World} {h h1 : View} (a : Ext w h w1 h1) (n : Nat) : Ext w h (w1.drewN n) h1 :=
  ⟨⟨a.below.os, a.below.tape, a.below.output, a.below.size, a.below.block⟩, a.le, a.old, a.sub.drewN n⟩
theorem Ext.setCell {w w1 : World} {h h1 : View} (a : Ext w h w1 h1) {p : Addr} (hp : w.heap.size ≤ p.block) (hv : h1 p.block = none) (u : Value) : Ext w h (w1.setCell p u) h1 :=
  ⟨a.below.setCell hp u, a.le, a.old, a.sub.setCell hv u⟩
theorem Ext.grown {w w1 w2 : World} {h h1 : View} (a : Ext w h w1 h1) {row : Option Nat} (hg : w1.grownBy w2 row) (hr : ∀ k, row = some k → w.heap.size ≤ k ∧ h1 k = none) : Ext w h w2 h1 :=
  ⟨a.below.grown hg a.below.size (fun k e => (hr k e).1), a.le, a.old, a.sub.grown hg (fun k e => (hr k e).2)⟩
theorem Ext.below' {w w1 w2 : World} {h h1 : View} (a : Ext w h w1 h1) (hb : Below w1.heap.size w1 w2) : Ext w h w2 h1 :=
  ⟨a.below.trans (hb.mono a.below.size), a.le, a.old, a.sub.below hb⟩
theorem Ext.ge {w w1 : World} {h h1 : View} (a : Ext w h w1 h1) : w.heap.size ≤ w1.heap.size := a.below.size
/-- A block of the call's own that is not in the view before: in the view no more than in the elder one. -/
theorem Ext.none {w w1 : World} {h h1 : View} (a : Ext w h w1 h1) {g : Nat} (hg : g < w.heap.size) (e : h g = none) : h1 g = none := (a.old g hg).trans e

/-! ### Kinds of data -/
structure Ty (α : Type) where
  sz : Nat
  K : View → α → List Value → Prop
  len : ∀ {h x cs}, K h x cs → cs.length = sz
  one : ∀ {h x cs}, K h x cs → ∀ u ∈ cs, u.oneCell' = true
  mono : ∀ {h h' x cs}, View.le h h' → K h x cs → K h' x cs

/-- Elements, laid one behind the other. -/
inductive Rows {α : Type} (t : Ty α) (h : View) : List α → List Value → Prop
  | nil : Rows t h [] []
  | cons {x xs cs ds} : t.K h x cs → Rows t h xs ds → Rows t h (x :: xs) (cs ++ ds)
variable {α β : Type} {t : Ty α} {h h' : View}
theorem Rows.len {xs : List α} {cs : List Value} (r : Rows t h xs cs) : cs.length = xs.length * t.sz := by
  induction r with
  | nil => simp
  | cons k _ ih => rw [List.length_append, t.len k, ih, List.length_cons, Nat.succ_mul, Nat.add_comm]
theorem Rows.mono {xs : List α} {cs : List Value} (l : View.le h h') (r : Rows t h xs cs) : Rows t h' xs cs := by
  induction r with
  | nil => exact .nil
  | cons k _ ih => exact .cons (t.mono l k) ih
theorem Rows.one {xs : List α} {cs : List Value} (r : Rows t h xs cs) : ∀ u ∈ cs, u.oneCell' = true := by
  induction r with
  | nil => intro u hu; cases hu
  | cons k _ ih =>
    intro u hu
    rcases List.mem_append.1 hu with hu | hu
    · exact t.one k u hu
    · exact ih u hu
theorem Rows.snoc {xs : List α} {cs ds : List Value} {x : α} (r : Rows t h xs cs) (k : t.K h x ds) : Rows t h (xs ++ [x]) (cs ++ ds) := by
  induction r with
  | nil => simpa using Rows.cons k .nil
  | cons k' _ ih => simpa [List.append_assoc] using Rows.cons k' ih
theorem Rows.append {xs ys : List α} {cs ds : List Value} (r : Rows t h xs cs) (r' : Rows t h ys ds) : Rows t h (xs ++ ys) (cs ++ ds) := by
  induction r with
  | nil => simpa using r'
  | cons k' _ ih => simpa [List.append_assoc] using Rows.cons k' ih
/-- Element i: its cells. -/
theorem Rows.at_ {xs : List α} {cs : List Value} (r : Rows t h xs cs) : ∀ (i : Nat) (hi : i < xs.length),
    ∃ ds, t.K h xs[i] ds ∧ ∀ j u, ds[j]? = some u → cs[i * t.sz + j]? = some u := by
  induction r with
  | nil => intro i hi; simp at hi
  | @cons x xs cs ds k r ih =>
    intro i hi
    cases i with
    | zero => exact ⟨cs, k, fun j u hu => by
        have := (List.getElem?_eq_some_iff.1 hu).1
        rw [Nat.zero_mul, Nat.zero_add, List.getElem?_append_left this]; exact hu⟩
    | succ i =>
      obtain ⟨es, ke, he⟩ := ih i (by simpa using hi)
      refine ⟨es, ke, fun j u hu => ?_⟩
      have hl := t.len k
      rw [List.getElem?_append_right (by rw [hl, Nat.succ_mul]; omega)]
      have e : (i + 1) * t.sz + j - cs.length = i * t.sz + j := by rw [hl, Nat.succ_mul]; omega
      rw [e]; exact he j u hu
theorem Rows.take {xs : List α} {cs : List Value} (r : Rows t h xs cs) : ∀ n, Rows t h (xs.take n) (cs.take (n * t.sz)) := by
  induction r with
  | nil => intro n; simpa using Rows.nil
  | @cons x xs cs ds k r ih =>
    intro n
    cases n with
    | zero => simpa using Rows.nil
    | succ n =>
      have hl := t.len k
      rw [List.take_succ_cons, Nat.succ_mul, Nat.add_comm, ← hl, List.take_length_add_append, hl]
      exact .cons k (ih n)
theorem Rows.drop {xs : List α} {cs : List Value} (r : Rows t h xs cs) : ∀ n, Rows t h (xs.drop n) (cs.drop (n * t.sz)) := by
  induction r with
  | nil => intro n; simpa using Rows.nil
  | @cons x xs cs ds k r ih =>
    intro n
    cases n with
    | zero => simpa using Rows.cons k r
    | succ n =>
      have hl := t.len k
      rw [List.drop_succ_cons, Nat.succ_mul, Nat.add_comm, ← hl, List.drop_length_add_append, hl]
      exact ih n
/-- One element put in another's place. -/
theorem Rows.set {xs : List α} {cs ds : List Value} {y : α} (r : Rows t h xs cs) (k : t.K h y ds) : ∀ i, i < xs.length →
    Rows t h (xs.set i y) (cs.take (i * t.sz) ++ ds ++ cs.drop ((i + 1) * t.sz)) := by
  induction r with
  | nil => intro i hi; simp at hi
  | @cons x xs cs es k' r ih =>
    intro i hi
    have hl := t.len k'
    cases i with
    | zero =>
      simp only [List.set_cons_zero, Nat.zero_mul, List.take_zero, List.nil_append, Nat.zero_add, Nat.one_mul, ← hl, List.drop_left]
      exact .cons k r
    | succ i =>
      have e1 : (i + 1) * t.sz = cs.length + i * t.sz := by rw [hl, Nat.succ_mul]; omega
      have e2 : (i + 1 + 1) * t.sz = cs.length + (i + 1) * t.sz := by rw [hl, Nat.succ_mul (i + 1)]; omega
      rw [List.set_cons_succ, e1, e2, List.take_length_add_append, List.drop_length_add_append, List.append_assoc, List.append_assoc]
      exact .cons k' (by rw [← List.append_assoc]; exact ih i (by simpa using hi))

/-! ### Plain kinds -/
def inRange : IntKind → Int → Prop
  | .i8, n => -128 ≤ n ∧ n ≤ 127
  | .i16, n => -32768 ≤ n ∧ n ≤ 32767
  | .i32, n => -2147483648 ≤ n ∧ n ≤ 2147483647
  | .i64, n => -9223372036854775808 ≤ n ∧ n ≤ 9223372036854775807
  | .u8, n => 0 ≤ n ∧ n ≤ 255
  | .u16, n => 0 ≤ n ∧ n ≤ 65535
  | .u32, n => 0 ≤ n ∧ n ≤ 4294967295
  | .u64, n => 0 ≤ n ∧ n ≤ 18446744073709551615
def tInt (k : IntKind) : Ty Int where
  sz := 1
  K := fun _ n cs => cs = [.int k n] ∧ inRange k n
  len := fun h => by rw [h.1]; rfl
  one := fun h u hu => by rw [h.1] at hu; obtain rfl := List.mem_singleton.1 hu; rfl
  mono := fun _ h => h
abbrev tI : Ty Int := tInt .i64
def tBool : Ty Bool where
  sz := 1
  K := fun _ n cs => cs = [.bool n]
  len := fun h => by rw [h]; rfl
  one := fun h u hu => by rw [h] at hu; obtain rfl := List.mem_singleton.1 hu; rfl
  mono := fun _ h => h
def tStr : Ty ByteArray where
  sz := 1
  K := fun _ n cs => cs = [.string n] ∧ n.size ≤ 9223372036854775807
  len := fun h => by rw [h.1]; rfl
  one := fun h u hu => by rw [h.1] at hu; obtain rfl := List.mem_singleton.1 hu; rfl
  mono := fun _ h => h
/-- Two, one behind the other. -/
def tProd (a : Ty α) (b : Ty β) : Ty (α × β) where
  sz := a.sz + b.sz
  K := fun h x cs => ∃ c d, cs = c ++ d ∧ a.K h x.1 c ∧ b.K h x.2 d
  len := fun ⟨c, d, e, k, l⟩ => by rw [e, List.length_append, a.len k, b.len l]
  one := fun ⟨c, d, e, k, l⟩ u hu => by
    rw [e] at hu
    rcases List.mem_append.1 hu with hu | hu
    · exact a.one k u hu
    · exact b.one l u hu
  mono := fun hl ⟨c, d, e, k, l⟩ => ⟨c, d, e, a.mono hl k, b.mono hl l⟩
def tVia {γ : Type} (f : γ → α) (t : Ty α) : Ty γ where
  sz := t.sz
  K := fun h x cs => t.K h (f x) cs
  len := fun h => t.len h
  one := fun h => t.one h
  mono := fun l h => t.mono l h
/-- Elements that lie from an address on. -/
def SlAt (h : View) (t : Ty α) (A : Option Addr) (xs : List α) : Prop :=
  xs = [] ∨ ∃ b off cs, A = some ⟨b, off, none⟩ ∧ Rows t h xs cs ∧ ∀ j u, cs[j]? = some u → h.cell ⟨b, off + j, none⟩ = some u
theorem SlAt.mono {A : Option Addr} {xs : List α} (l : View.le h h') (s : SlAt h t A xs) : SlAt h' t A xs := by
  rcases s with s | ⟨b, off, cs, hA, r, hc⟩
  · exact .inl s
  · exact .inr ⟨b, off, cs, hA, r.mono l, fun j u hu => View.cell_le l (hc j u hu)⟩
theorem SlAt.at_ {A : Option Addr} {xs : List α} (s : SlAt h t A xs) (i : Nat) (hi : i < xs.length) :
    ∃ b off ds, A = some ⟨b, off, none⟩ ∧ t.K h xs[i] ds ∧ ∀ j u, ds[j]? = some u → h.cell ⟨b, off + i * t.sz + j, none⟩ = some u := by
  rcases s with s | ⟨b, off, cs, hA, r, hc⟩
  · rw [s] at hi; simp at hi
  · obtain ⟨ds, k, hd⟩ := r.at_ i hi
    exact ⟨b, off, ds, hA, k, fun j u hu => by rw [Nat.add_assoc]; exact hc _ _ (hd j u hu)⟩
/-- A slice that is read. -/
structure Sl (h : View) (t : Ty α) (v : Value) (xs : List α) : Prop where
  ex : ∃ A c, v = .slice A xs.length c ∧ xs.length ≤ c ∧ c ≤ 9223372036854775807 ∧ SlAt h t A xs
def tSl (t : Ty α) : Ty (List α) where
  sz := 1
  K := fun h xs cs => ∃ v, cs = [v] ∧ Sl h t v xs
  len := fun ⟨v, e, _⟩ => by rw [e]; rfl
  one := fun ⟨v, e, ⟨A, c, e2, _⟩⟩ u hu => by rw [e] at hu; obtain rfl := List.mem_singleton.1 hu; rw [e2]; rfl
  mono := fun l ⟨v, e, ⟨A, c, e2, h1, h2, s⟩⟩ => ⟨v, e, ⟨A, c, e2, h1, h2, s.mono l⟩⟩
theorem Sl.mono {v : Value} {xs : List α} (l : View.le h h') (s : Sl h t v xs) : Sl h' t v xs := by
  obtain ⟨A, c, e, h1, h2, s⟩ := s
  exact ⟨A, c, e, h1, h2, s.mono l⟩
theorem Sl.nil : Sl h t (.slice none 0 0) [] := ⟨none, 0, rfl, Nat.le_refl _, Nat.zero_le _, .inl rfl⟩

/-! ### A row of the call's own -/
structure Own (w : World) (h : View) (base : Nat) (e : TypeId) (t : Ty α) (v : Value) (xs : List α) : Prop where
  ex : ∃ cs, w.ownsRow base e t.sz v xs.length cs ∧ Rows t h xs cs
  out : ∀ g, v.ownBlock = some g → h g = none
variable {w w' : World} {base : Nat} {e : TypeId} {v : Value} {xs : List α}
theorem ownsRow_lt {n size : Nat} {cs : List Value} (h : w.ownsRow base e size v n cs) (k : Nat) (hk : v.ownBlock = some k) : base ≤ k ∧ k < w.heap.size := by
  rcases h.2 with ⟨rfl, _⟩ | ⟨g, cap, cur, rfl, hb, hh, _⟩
  · simp [Value.ownBlock] at hk
  · have : g = k := by simpa [Value.ownBlock] using hk
    subst this
    exact ⟨hb, (Array.getElem?_eq_some_iff.1 hh).1⟩
theorem ownsRow_block {n size : Nat} {cs : List Value} (h : w.ownsRow base e size v n cs) (hk : ∀ k, v.ownBlock = some k → w'.heap[k]? = w.heap[k]?) : w'.ownsRow base e size v n cs := by
  obtain ⟨h1, h2⟩ := h
  refine ⟨h1, ?_⟩
  rcases h2 with h2 | ⟨g, cap, cur, rfl, hb, hh, r⟩
  · exact .inl h2
  · exact .inr ⟨g, cap, cur, rfl, hb, (hk g rfl).trans hh, r⟩
theorem Own.lt (o : Own w h base e t v xs) : ∀ k, v.ownBlock = some k → base ≤ k ∧ k < w.heap.size := by
  obtain ⟨⟨cs, hr, _⟩, _⟩ := o
  exact ownsRow_lt hr
theorem Own.nil : Own w h base e t (.slice none 0 0) [] := ⟨⟨[], ⟨by simp, .inl ⟨rfl, rfl⟩⟩, .nil⟩, fun g hg => by simp [Value.ownBlock] at hg⟩
/-- What turns no block of the row's, and leaves the view. -/
theorem Own.block (o : Own w h base e t v xs) (hk : ∀ k, v.ownBlock = some k → w'.heap[k]? = w.heap[k]?) : Own w' h base e t v xs := by
  obtain ⟨⟨cs, hr, rs⟩, ho⟩ := o
  exact ⟨⟨cs, ownsRow_block hr hk, rs⟩, ho⟩
theorem Own.alloc (o : Own w h base e t v xs) (x : Obj) : Own (w.alloc x) h base e t v xs := o.block fun k hk => Below.heap_alloc w x k (o.lt k hk).2
theorem Own.drew (o : Own w h base e t v xs) : Own w.drew h base e t v xs := o.block fun _ _ => rfl
theorem Own.drewN (o : Own w h base e t v xs) (n : Nat) : Own (w.drewN n) h base e t v xs := o.block fun _ _ => rfl
theorem Own.setCell (o : Own w h base e t v xs) {p : Addr} (hp : ∀ k, v.ownBlock = some k → k ≠ p.block) (u : Value) : Own (w.setCell p u) h base e t v xs :=
  o.block fun k hk => Below.heap_setCell w p u k (hp k hk)
theorem Own.below (o : Own w h base e t v xs) (hb : Below w.heap.size w w') : Own w' h base e t v xs := o.block fun k hk => hb.block k (o.lt k hk).2
theorem Own.grown (o : Own w h base e t v xs) {row : Option Nat} (hg : w.grownBy w' row) (hne : ∀ k, v.ownBlock = some k → some k ≠ row) : Own w' h base e t v xs :=
  o.block fun k hk => hg.block k (o.lt k hk).2 (hne k hk)
theorem Own.ext (o : Own w h base e t v xs) (x : Ext w h w' h') : Own w' h' base e t v xs := by
  obtain ⟨⟨cs, hr, rs⟩, ho⟩ := o
  exact ⟨⟨cs, ownsRow_block hr (fun k hk => x.below.block k (ownsRow_lt hr k hk).2), rs.mono x.le⟩, fun g hg => (x.old g (ownsRow_lt hr g hg).2).trans (ho g hg)⟩
theorem Own.sl (o : Own w h base e t v xs) : ∃ A c, v = .slice A xs.length c ∧ xs.length ≤ c ∧ c ≤ 9223372036854775807 := by
  obtain ⟨⟨cs, hr, rs⟩, ho⟩ := o
  rcases hr.2 with ⟨rfl, h0⟩ | ⟨g, cap, cur, rfl, _, _, h1, h2, _⟩
  · exact ⟨none, 0, by rw [h0], by omega, by omega⟩
  · exact ⟨_, cap, rfl, h1, by unfold maxLen at h2; omega⟩
/-- Element i of a row of one's own, in memory. -/
theorem Own.at_ (o : Own w h base e t v xs) (i : Nat) (hi : i < xs.length) :
    ∃ g cap ds, v = .slice (some ⟨g, 0, none⟩) xs.length cap ∧ base ≤ g ∧ g < w.heap.size ∧ h g = none ∧ t.K h xs[i] ds ∧ ∀ j u, ds[j]? = some u → w.cell? ⟨g, i * t.sz + j, none⟩ = some u := by
  obtain ⟨⟨cs, hr, rs⟩, ho⟩ := o
  have hl := ownsRow_lt hr
  rcases hr.2 with ⟨rfl, h0⟩ | ⟨g, cap, cur, rfl, hb, hh, h1, h2, hcs, htk⟩
  · omega
  · obtain ⟨ds, k, hd⟩ := rs.at_ i hi
    refine ⟨g, cap, ds, rfl, hb, (hl g rfl).2, ho g rfl, k, fun j u hu => ?_⟩
    have := hd j u hu
    unfold World.cell?
    simp only [hh]
    rw [← htk] at this
    obtain ⟨hj, hv⟩ := List.getElem?_eq_some_iff.1 this
    rw [List.getElem_take] at hv
    have hj' : i * t.sz + j < cur.size := by
      have h1' : (cur.toList.take (xs.length * t.sz)).length ≤ cur.size := by rw [List.length_take]; exact Nat.min_le_right _ _
      omega
    simp only [Option.isSome_none, Bool.false_eq_true, if_false]
    rw [Array.getElem?_eq_getElem hj']
    rw [← hv]; simp
/-- The row is written no more: it joins the view. -/
theorem Own.publish {w0 : World} {h0 : View} (x : Ext w0 h0 w h) (o : Own w h base e t v xs) (hbase : w0.heap.size ≤ base) :
    ∃ h', Ext w0 h0 w h' ∧ View.le h h' ∧ Sl h' t v xs ∧ (∀ b, v.ownBlock ≠ some b → h' b = h b) := by
  have hlt := o.lt
  obtain ⟨⟨cs, hr, rs⟩, ho⟩ := o
  rcases hr.2 with ⟨rfl, hn⟩ | ⟨g, cap, cur, rfl, hb, hh, h1, h2, hcs, htk⟩
  · have : xs = [] := List.eq_nil_of_length_eq_zero hn
    subst this
    exact ⟨h, x, View.le.refl _, Sl.nil, fun _ _ => rfl⟩
  · have hg := ho g rfl
    have hl : View.le h (fun b => if b = g then some (.cells cur e (0, 0)) else h b) := by
      intro b o' e'
      by_cases hbg : b = g
      · subst hbg; rw [hg] at e'; cases e'
      · simp [hbg, e']
    refine ⟨fun b => if b = g then some (.cells cur e (0, 0)) else h b, ⟨x.below, x.le.trans hl, fun b hb' => ?_, ⟨fun b o' e' => ?_⟩⟩, hl, ⟨_, cap, rfl, h1, by unfold maxLen at h2; omega, ?_⟩, fun b hne => ?_⟩
    · rw [if_neg (by omega)]; exact x.old b hb'
    · by_cases hbg : b = g
      · subst hbg; rw [if_pos rfl] at e'; rw [hh]; exact e'
      · rw [if_neg hbg] at e'; exact x.sub.at_ b o' e'
    · refine .inr ⟨g, 0, cs, rfl, rs.mono hl, fun j u hu => ?_⟩
      unfold View.cell
      rw [← htk] at hu
      obtain ⟨hj, hv⟩ := List.getElem?_eq_some_iff.1 hu
      rw [List.getElem_take] at hv
      have hj' : j < cur.size := by
        have h1' : (cur.toList.take (xs.length * t.sz)).length ≤ cur.size := by rw [List.length_take]; exact Nat.min_le_right _ _
        omega
      simp only [if_true, Option.isSome_none, Bool.false_eq_true, if_false, Nat.zero_add]
      rw [Array.getElem?_eq_getElem hj', ← hv]; simp
    · have : b ≠ g := by rintro rfl; exact hne rfl
      simp [this]
/-- The law of an append of elements that lie at ad (at none where there are none). -/
theorem wpList_appendN {P : Program} {ops : Array Oper} {rest : List Oper} {o : Oper} {a : Act} {Q : Exit → Act → World → Prop} (hgd : o.guard = none) (s x : Operand) (T : TypeId)
    (ho : o.op = .call { callee := .builtin .append, args := #[s, x], argTypes := #[T, T] })
    (i : TypeInfo) (z : Value) (bytes : Nat) (ht : P.underlying T = some (.slice e)) (hi : P.info? e = some i) (hz : i.zero = some z)
    (hsize : i.size = t.sz) (hby : i.bytes = bytes) (hzs : z.cells.size = t.sz) (hsz : 0 < t.sz)
    (hs : a.eval s = v) (hown : Own w h base e t v xs) (hsub : Sub h w) {ys : List α} {ds : List Value}
    (ad : Addr) (m c : Nat) (hm : m = ys.length) (hx : a.eval x = .slice (some ad) m c) (hy : Rows t h ys ds) (hnews : ∀ j u, ds[j]? = some u → w.cell? (ad.add j) = some u)
    (hbytes : (xs.length + ys.length) * bytes ≤ 140737488355328) (h63 : xs.length + ys.length ≤ 9223372036854775807) (hbase : base ≤ w.heap.size)
    (hk : ∀ v' w', Own w' h base e t v' (xs ++ ys) → w.grownBy w' v.ownBlock → Sub h w' → (∀ k, v'.ownBlock = some k → v.ownBlock = some k ∨ w.heap.size ≤ k) → wpList P ops Q rest (a.put o.dst v') w') : wpList P ops Q (o :: rest) a w := by
  obtain ⟨⟨cs, hr, rs⟩, hout⟩ := hown
  subst hm
  refine Go.wpList_append_own_at w hgd s x T ho base e i z t.sz bytes ht hi hz hsize hby hzs hsz v xs.length cs hs hr ad ys.length c ds hx (by rw [hy.len]) hnews hy.one (by unfold maxLen; omega) hbytes hbase ?_
  intro v' w' hr' hg _ hat
  have hw : ∀ k, v'.ownBlock = some k → v.ownBlock = some k ∨ w.heap.size ≤ k := by
    intro k hk'
    rcases hat with hat | hat
    · rw [← hat]; exact .inl hk'
    · rw [hat] at hk'; injection hk' with hk'; exact .inr (by omega)
  refine hk v' w' ⟨⟨cs ++ ds, by simpa using hr', rs.append hy⟩, fun g hg' => ?_⟩ hg (hsub.grown hg hout) hw
  rcases hw g hg' with hv | hv
  · exact hout g hv
  · exact hsub.none_ge hv
theorem wpList_append1 {P : Program} {ops : Array Oper} {rest : List Oper} {o : Oper} {a : Act} {Q : Exit → Act → World → Prop} (hgd : o.guard = none) (s x : Operand) (T : TypeId)
    (ho : o.op = .call { callee := .builtin .append, args := #[s, x], argTypes := #[T, T] })
    (i : TypeInfo) (z : Value) (bytes : Nat) (ht : P.underlying T = some (.slice e)) (hi : P.info? e = some i) (hz : i.zero = some z)
    (hsize : i.size = t.sz) (hby : i.bytes = bytes) (hzs : z.cells.size = t.sz) (hsz : 0 < t.sz)
    (hs : a.eval s = v) (hown : Own w h base e t v xs) (hsub : Sub h w) (y : α) {ds : List Value}
    (ad : Addr) (c : Nat) (hx : a.eval x = .slice (some ad) 1 c) (hy : t.K h y ds) (hnews : ∀ j u, ds[j]? = some u → w.cell? (ad.add j) = some u)
    (hbytes : (xs.length + 1) * bytes ≤ 140737488355328) (h63 : xs.length + 1 ≤ 9223372036854775807) (hbase : base ≤ w.heap.size)
    (hk : ∀ v' w', Own w' h base e t v' (xs ++ [y]) → w.grownBy w' v.ownBlock → Sub h w' → (∀ k, v'.ownBlock = some k → v.ownBlock = some k ∨ w.heap.size ≤ k) → wpList P ops Q rest (a.put o.dst v') w') : wpList P ops Q (o :: rest) a w :=
  wpList_appendN hgd s x T ho i z bytes ht hi hz hsize hby hzs hsz hs hown hsub ad 1 c rfl hx (ys := [y]) (ds := ds) (by simpa using Rows.cons hy Rows.nil) hnews hbytes h63 hbase hk
/-- A slice type T over elements e: cells and bytes of one. -/
structure SlT (P : Program) (T e : TypeId) (sz bytes : Nat) : Prop where
  under : P.underlying T = some (.slice e)
  info : ∃ i z, P.info? e = some i ∧ i.zero = some z ∧ i.size = sz ∧ i.bytes = bytes ∧ z.cells.size = sz
theorem SlT.of {P : Program} {T e : TypeId} {sz bytes : Nat} (h1 : P.underlying T = some (.slice e))
    (h2 : (P.info? e).map (fun i => (i.zero.map (fun z => z.cells.size), i.size, i.bytes)) = some (some sz, sz, bytes)) : SlT P T e sz bytes := by
  obtain ⟨i, hi, hz⟩ := Option.map_eq_some_iff.1 h2
  simp only [Prod.mk.injEq] at hz
  obtain ⟨z, hz1, hz2⟩ := Option.map_eq_some_iff.1 hz.1
  exact ⟨h1, i, z, hi, hz1, hz.2.1, hz.2.2, hz2⟩
theorem cells_new (w : World) (cs : Array Value) (T : TypeId) (f : Nat × Nat) (n : Nat) (hn : n = w.heap.size) (j : Nat) (u : Value) (hu : cs.toList[j]? = some u) :
    (w.alloc (.cells cs T f)).cell? (Addr.add ⟨n, 0, none⟩ j) = some u := by
  subst hn
  rw [Addr.add_lit]
  simp only [World.cell?, World.alloc, Array.getElem?_push_size]
  simpa using hu
/-- The append of ONE element that has just been laid into a new block. -/
theorem wpList_app1 {P : Program} {ops : Array Oper} {rest : List Oper} {o : Oper} {a : Act} {Q : Exit → Act → World → Prop} {s x : Operand} {T : TypeId} {bytes : Nat}
    (st : SlT P T e t.sz bytes) (hsz : 0 < t.sz) (hgd : o.guard = none) (ho : o.op = .call { callee := .builtin .append, args := #[s, x], argTypes := #[T, T] })
    (hown : Own w h base e t v xs) (hsub : Sub h w) (hs : a.eval s = v) (y : α) {cs : Array Value} {n c : Nat} {f : Nat × Nat} {T2 : TypeId} (hx : a.eval x = .slice (some ⟨n, 0, none⟩) 1 c) (hn : n = w.heap.size) (hy : t.K h y cs.toList)
    (hbytes : (xs.length + 1) * bytes ≤ 140737488355328) (h63 : xs.length + 1 ≤ 9223372036854775807) (hbase : base ≤ w.heap.size)
    (hk : ∀ v' w', Own w' h base e t v' (xs ++ [y]) → (w.alloc (.cells cs T2 f)).grownBy w' v.ownBlock → Sub h w' → (∀ k, v'.ownBlock = some k → v.ownBlock = some k ∨ w.heap.size < k) → wpList P ops Q rest (a.put o.dst v') w') : wpList P ops Q (o :: rest) a (w.alloc (.cells cs T2 f)) := by
  obtain ⟨i, z, hi, hz, h1, h2, h3⟩ := st.info
  refine wpList_append1 hgd s x T ho i z bytes st.under hi hz h1 h2 h3 hsz hs (hown.alloc _) (hsub.alloc _) y ⟨n, 0, none⟩ c hx hy (cells_new w cs T2 f n hn) hbytes h63 (by simp; omega) ?_
  intro v' w' ho' hg hs' hnew
  refine hk v' w' ho' hg hs' (fun k hk => (hnew k hk).imp id fun hlt => by simp at hlt; omega)
theorem cell_alloc {w : World} {a : Addr} {u : Value} (h : w.cell? a = some u) (o : Obj) : (w.alloc o).cell? a = some u := (World.cell?_alloc_lt w o a (World.block_lt_of_cell? w a h)).trans h
theorem cell_drew {w : World} {a : Addr} {u : Value} (h : w.cell? a = some u) : w.drew.cell? a = some u := h
theorem cell_drewN {w : World} {a : Addr} {u : Value} (h : w.cell? a = some u) (n : Nat) : (w.drewN n).cell? a = some u := h
theorem cell_grown {w w' : World} {a : Addr} {u : Value} (h : w.cell? a = some u) {row : Option Nat} (hg : w.grownBy w' row) (hr : row ≠ some a.block) : w'.cell? a = some u :=
  (World.cell?_of_block (hg.block _ (World.block_lt_of_cell? w a h) (fun e => hr e.symm))).trans h
theorem cell_below {w w' : World} {a : Addr} {u : Value} (h : w.cell? a = some u) (hb : Below w.heap.size w w') : w'.cell? a = some u := (hb.cell (World.block_lt_of_cell? w a h)).trans h
theorem cell_far {w : World} {a p : Addr} {u : Value} (h : w.cell? a = some u) (hp : a.block ≠ p.block) (x : Value) : (w.setCell p x).cell? a = some u :=
  (World.cell?_of_block (Below.heap_setCell w p x _ hp)).trans h
/-- The world as cells in a new block. -/
theorem cell_new (w : World) (cs : Array Value) (T : TypeId) (f : Nat × Nat) (j : Nat) : (w.alloc (.cells cs T f)).cell? ⟨w.heap.size, j, none⟩ = cs[j]? := by
  simp only [World.cell?, World.alloc, Array.getElem?_push_size]; rfl
/-- Many rows, no two in one block, are written no more: all join the view. -/
theorem publishAll {κ : Type} {w0 : World} {h0 : View} (f : κ → List α) : ∀ (l : List (κ × Value)) {h : View}, Ext w0 h0 w h → (∀ p ∈ l, Own w h w0.heap.size e t p.2 (f p.1)) →
    l.Pairwise (fun p q => ∀ g, p.2.ownBlock = some g → q.2.ownBlock ≠ some g) →
    ∃ h', Ext w0 h0 w h' ∧ View.le h h' ∧ (∀ p ∈ l, Sl h' t p.2 (f p.1)) ∧ (∀ b, (∀ p ∈ l, p.2.ownBlock ≠ some b) → h' b = h b)
  | [], h, x, _, _ => ⟨h, x, View.le.refl _, fun p hp => (by cases hp), fun _ _ => rfl⟩
  | p :: l, h, x, ho, hd => by
    rw [List.pairwise_cons] at hd
    obtain ⟨h1, x1, l1, s1, b1⟩ := (ho p (by simp)).publish x (Nat.le_refl _)
    have ho' : ∀ q ∈ l, Own w h1 w0.heap.size e t q.2 (f q.1) := fun q hq => by
      obtain ⟨⟨cs, hr, rs⟩, hout⟩ := ho q (List.mem_cons_of_mem _ hq)
      refine ⟨⟨cs, hr, rs.mono l1⟩, fun g hg => ?_⟩
      rw [b1 g (fun e => hd.1 q hq g e hg)]
      exact hout g hg
    obtain ⟨h2, x2, l2, s2, b2⟩ := publishAll f l x1 ho' hd.2
    refine ⟨h2, x2, l1.trans l2, fun q hq => ?_, fun b hb => ?_⟩
    · rcases List.mem_cons.1 hq with rfl | hq
      · exact s1.mono l2
      · exact s2 q hq
    · rw [b2 b (fun q hq => hb q (List.mem_cons_of_mem _ hq)), b1 b (hb p (by simp))]
end Hv
end Go.Proofs.YtaakpcmflladaaaDoor
