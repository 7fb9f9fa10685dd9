/- The rounds of the limb algorithms, in plain Lean: sums, differences, products, short division, long division. -/
import Derived.Test.YtaakpcmflladaaaDoorNatP
set_option linter.all false
namespace Go.Proofs.YtaakpcmflladaaaDoor
namespace Nt
theorem pow_pos (n : Nat) : 0 < B ^ n := Nat.pow_pos B_pos
theorem mod_div (s : Nat) : s % B + B * (s / B) = s := Nat.mod_add_div s B
/-- A sum. -/
structure Plus (a b o : List Nat) (c i : Nat) : Prop where
  ok : Ok o
  len : o.length = i
  sum : val o + B ^ i * c = val (a.take i) + val (b.take i)
  c1 : c ≤ 1
theorem Plus.start (a b : List Nat) : Plus a b [] 0 0 := ⟨fun x hx => (by cases hx), rfl, by simp [val], by omega⟩
theorem Plus.step {a b o : List Nat} {c i s : Nat} (ha : Ok a) (hb : Ok b) (h : Plus a b o c i) (hs : s = c + at_ a i + at_ b i) : Plus a b (o ++ [s % B]) (s / B) (i + 1) := by
  have h1 := at_lt ha i
  have h2 := at_lt hb i
  refine ⟨h.ok.append (ok_cons (Nat.mod_lt _ B_pos) (by intro x hx; cases hx)), by simp [h.len], ?_, ?_⟩
  · rw [val_snoc, h.len, val_take_at a i, val_take_at b i, Nat.pow_succ]
    have e := h.sum
    have e2 := mod_div s
    have e3 : B ^ i * (s % B) + B ^ i * B * (s / B) = B ^ i * s := by rw [Nat.mul_assoc, ← Nat.mul_add, e2]
    have e4 : B ^ i * s = B ^ i * c + B ^ i * at_ a i + B ^ i * at_ b i := by rw [hs, Nat.mul_add, Nat.mul_add]
    omega
  · have := h.c1
    have hlt : s < 2 * B := by omega
    have := (Nat.div_lt_iff_lt_mul B_pos).2 hlt
    omega
theorem Plus.done {a b o : List Nat} {i : Nat} (h : Plus a b o 0 i) (h1 : a.length ≤ i) (h2 : b.length ≤ i) : trimL o = limbs (val a + val b) := by
  rw [trimL_val h.ok]
  have := h.sum
  rw [val_take_ge h1, val_take_ge h2] at this
  rw [← this]; simp
/-- A difference. -/
structure Minus (a b o : List Nat) (c i : Nat) : Prop where
  ok : Ok o
  len : o.length = a.length
  sum : val (o.take i) + val (b.take i) = val (a.take i) + B ^ i * c
  c1 : c ≤ 1
theorem Minus.start (a b : List Nat) : Minus a b (List.replicate a.length 0) 0 0 := ⟨ok_zeros _, by simp, by simp [val], by omega⟩
theorem take_set (o : List Nat) (i x : Nat) (h : i < o.length) : (o.set i x).take (i + 1) = o.take i ++ [x] := by
  rw [List.take_succ_eq_append_getElem (by simpa using h), List.take_set_of_le (Nat.le_refl _)]
  simp
theorem Minus.step {a b o : List Nat} {c i y c' : Nat} (ha : Ok a) (hb : Ok b) (h : Minus a b o c i) (hi : i < a.length) (hy : y + (c + at_ b i) = a[i] + B * c') (hyb : y < B) (hc' : c' ≤ 1) : Minus a b (o.set i y) c' (i + 1) := by
  refine ⟨h.ok.set i y hyb, by simp [h.len], ?_, hc'⟩
  rw [take_set _ _ _ (by rw [h.len]; exact hi), val_snoc, List.length_take, Nat.min_eq_left (by rw [h.len]; omega), val_take_at b i, val_take_succ hi, Nat.pow_succ]
  have e := h.sum
  have e3 : B ^ i * y + B ^ i * c + B ^ i * at_ b i = B ^ i * a[i] + B ^ i * B * c' := by rw [← Nat.mul_add, ← Nat.mul_add, Nat.mul_assoc, ← Nat.mul_add]; congr 1; omega
  omega
theorem Minus.done {a b o : List Nat} {c : Nat} (hb : Ok b) (h : Minus a b o c a.length) (hlb : b.length ≤ a.length) (hle : val b ≤ val a) : trimL o = limbs (val a - val b) := by
  rw [trimL_val h.ok]
  have e := h.sum
  rw [val_take_ge (by rw [h.len]; exact Nat.le_refl _), val_take_ge hlb, val_take_ge (Nat.le_refl _)] at e
  have h1 := val_lt h.ok
  rw [h.len] at h1
  have hc : c = 0 := by
    rcases Nat.eq_zero_or_pos c with h0 | h0
    · exact h0
    · have := Nat.mul_le_mul_left (B ^ a.length) h0
      omega
  subst hc
  congr 1; omega
/-- A product: the rounds over a (i), and within them over b (k). -/
structure Times (a b o : List Nat) (L i : Nat) : Prop where
  ok : Ok o
  len : o.length = L
  sum : val o = val (a.take i) * val b
structure Inner (a b o : List Nat) (L i k c : Nat) : Prop where
  ok : Ok o
  len : o.length = L
  sum : val o + B ^ (i + k) * c = val (a.take i) * val b + B ^ i * at_ a i * val (b.take k)
  cB : c < B
theorem Times.start (a b : List Nat) (L : Nat) : Times a b (List.replicate L 0) L 0 := ⟨ok_zeros _, by simp, by simp [val_zeros, val]⟩
theorem Times.inner {a b o : List Nat} {L i : Nat} (h : Times a b o L i) : Inner a b o L i 0 0 := ⟨h.ok, h.len, by simp [h.sum, val], B_pos⟩
theorem Inner.room {a b o : List Nat} {L i k c : Nat} (ha : Ok a) (hb : Ok b) (h : Inner a b o L i k c) (hi : i < a.length) (hL : a.length + b.length ≤ L) (hk : k < b.length ∨ 0 < c) : i + k < L := by
  rcases hk with hk | hc
  · omega
  · rcases Nat.lt_or_ge k b.length with hk | hk
    · omega
    · have e := h.sum
      rw [val_take_ge hk, ← Nat.add_mul, ← val_take_at] at e
      have h1 := val_lt (ha.take (i + 1))
      rw [List.length_take, Nat.min_eq_left (by omega)] at h1
      have h2 := val_lt hb
      have h3 : val (a.take (i + 1)) * val b < B ^ (i + 1 + b.length) := by
        rw [Nat.pow_add]; exact Nat.mul_lt_mul'' h1 h2
      have h4 : B ^ (i + k) ≤ B ^ (i + k) * c := Nat.le_mul_of_pos_right _ hc
      have h5 : B ^ (i + k) < B ^ (i + 1 + b.length) := by omega
      have := (Nat.pow_lt_pow_iff_right (by decide : 1 < B)).1 h5
      omega
theorem Inner.small {x y c z : Nat} (hx : x < B) (hy : y < B) (hc : c < B) (hz : z < B) : z + c + x * y < B * B := by
  have h1 : x * y ≤ (B - 1) * (B - 1) := Nat.mul_le_mul (by omega) (by omega)
  have h2 : (B - 1) * (B - 1) + (B - 1) + (B - 1) + 1 = B * B := by decide
  omega
theorem Inner.step {a b o : List Nat} {L i k c s : Nat} (ha : Ok a) (hb : Ok b) (h : Inner a b o L i k c) (hr : i + k < o.length) (hs : s = o[i + k] + c + at_ a i * at_ b k) : Inner a b (o.set (i + k) (s % B)) L i (k + 1) (s / B) := by
  have hlt := Inner.small (at_lt ha i) (at_lt hb k) h.cB (h.ok.get _ hr)
  refine ⟨h.ok.set _ _ (Nat.mod_lt _ B_pos), by simp [h.len], ?_, ?_⟩
  · have e := h.sum
    have e1 := val_set hr (s % B)
    have e2 := mod_div s
    have e3 : B ^ (i + k) * (s % B) + B ^ (i + (k + 1)) * (s / B) = B ^ (i + k) * s := by
      rw [← Nat.add_assoc, Nat.pow_succ, Nat.mul_assoc, ← Nat.mul_add, e2]
    have e4 : B ^ (i + k) * s = B ^ (i + k) * o[i + k] + B ^ (i + k) * c + B ^ i * at_ a i * (B ^ k * at_ b k) := by
      rw [hs, Nat.mul_add, Nat.mul_add]; congr 1
      rw [Nat.pow_add, Nat.mul_assoc, Nat.mul_assoc]; congr 1
      rw [← Nat.mul_assoc, ← Nat.mul_assoc, Nat.mul_comm (B ^ k)]
    rw [val_take_at b k, Nat.mul_add]
    omega
  · rw [hs]; exact (Nat.div_lt_iff_lt_mul B_pos).2 hlt
theorem Inner.done {a b o : List Nat} {L i k : Nat} (h : Inner a b o L i k 0) (hk : b.length ≤ k) : Times a b o L (i + 1) := by
  refine ⟨h.ok, h.len, ?_⟩
  have e := h.sum
  rw [val_take_ge hk, ← Nat.add_mul, ← val_take_at] at e
  simpa using e
theorem Times.done {a b o : List Nat} {L : Nat} (h : Times a b o L a.length) : trimL o = limbs (val a * val b) := by
  rw [trimL_val h.ok, h.sum, val_take_ge (Nat.le_refl _)]
/-- Division by one limb. i: how many limbs are still to come. -/
structure Short (a o : List Nat) (d r i : Nat) : Prop where
  ok : Ok o
  len : o.length = a.length
  sum : val (a.drop i) = d * val (o.drop i) + r
  rd : r < d
theorem Short.start {a : List Nat} {d : Nat} (hd : 0 < d) : Short a (List.replicate a.length 0) d 0 a.length := ⟨ok_zeros _, by simp, by simp [val], hd⟩
theorem drop_set (o : List Nat) (i x : Nat) (h : i < o.length) : (o.set i x).drop i = x :: o.drop (i + 1) := by
  rw [List.drop_eq_getElem_cons (by simpa using h)]
  simp [List.drop_set]
theorem Short.small {a o : List Nat} {d r i s : Nat} (ha : Ok a) (hdB : d ≤ B) (h : Short a o d r i) (j : Nat) (hj : j < a.length) (hs : s = r * B + a[j]) : s < d * B := by
  have h1 := ha.get j hj
  have h2 : (r + 1) * B ≤ d * B := Nat.mul_le_mul_right _ h.rd
  rw [Nat.succ_mul] at h2
  omega
theorem Short.step {a o : List Nat} {d r i s : Nat} (ha : Ok a) (hd : 0 < d) (hdB : d ≤ B) (h : Short a o d r (i + 1)) (hi : i < a.length) (hs : s = r * B + a[i]) : Short a (o.set i (s / d)) d (s % d) i := by
  have hlt := h.small ha hdB i hi hs
  refine ⟨h.ok.set _ _ ((Nat.div_lt_iff_lt_mul hd).2 (by rw [Nat.mul_comm]; exact hlt)), by simp [h.len], ?_, Nat.mod_lt _ hd⟩
  rw [drop_set _ _ _ (by rw [h.len]; exact hi), val_drop hi, val, h.sum]
  have e := Nat.div_add_mod s d
  have e2 : B * (d * val (o.drop (i + 1)) + r) = d * (B * val (o.drop (i + 1))) + r * B := by
    rw [Nat.mul_add, ← Nat.mul_assoc, Nat.mul_comm B d, Nat.mul_assoc, Nat.mul_comm B r]
  rw [e2, Nat.mul_add d]
  omega
theorem Short.done {a o : List Nat} {d r : Nat} (hd : 0 < d) (h : Short a o d r 0) : trimL o = limbs (val a / d) ∧ r = val a % d := by
  have e := h.sum
  simp only [List.drop_zero] at e
  have h1 : val a / d = val o := by rw [e, Nat.mul_add_div hd, Nat.div_eq_of_lt h.rd]; simp
  have h2 : val a % d = r := by rw [e, Nat.mul_add_mod, Nat.mod_eq_of_lt h.rd]
  exact ⟨by rw [trimL_val h.ok, h1], h2.symm⟩
/-! ### Long division -/
/-- Two limbs of v at the top (v1, v2), the rest of it below; three of u (top, two of them, and next). -/
structure Top (u v : Nat) (n v1 v2 top next : Nat) : Prop where
  vlo : (v1 * B + v2) * B ^ n ≤ v
  vhi : v < (v1 * B + v2 + 1) * B ^ n
  ulo : (top * B + next) * B ^ n ≤ u
  uhi : u < (top * B + next + 1) * B ^ n
  v1p : 0 < v1
  v2B : v2 < B
  nB : next < B
/-- A guess that is not too small. -/
theorem Top.first {u v n v1 v2 top next : Nat} (t : Top u v n v1 v2 top next) (hu : u < B * v) : u / v ≤ min (top / v1) (B - 1) := by
  have hv : 0 < v := by
    have h1 := pow_pos n
    have h2 : 1 * 1 ≤ (v1 * B + v2) * B ^ n := Nat.mul_le_mul (by have := Nat.mul_le_mul_right B t.v1p; have := B_pos; omega) h1
    have := t.vlo; omega
  have h1 : u / v < B := (Nat.div_lt_iff_lt_mul hv).2 hu
  refine Nat.le_min.2 ⟨?_, by omega⟩
  rw [Nat.le_div_iff_mul_le t.v1p]
  have h2 : u / v * v ≤ u := Nat.div_mul_le_self u v
  generalize u / v = q at *
  -- q * v1 * B^(n+1) ≤ q * v ≤ u < (top + 1) * B^(n+1)
  have h3 : q * (v1 * B) * B ^ n ≤ q * v := by
    rw [Nat.mul_assoc]; refine Nat.mul_le_mul_left _ (Nat.le_trans (Nat.mul_le_mul_right _ (Nat.le_add_right _ _)) t.vlo)
  have h4 : q * (v1 * B) * B ^ n < (top * B + next + 1) * B ^ n := by have := t.uhi; omega
  have h5 : q * (v1 * B) < top * B + next + 1 := Nat.lt_of_mul_lt_mul_right h4
  have h6 : q * v1 * B < (top + 1) * B := by rw [Nat.mul_assoc, Nat.succ_mul]; have := t.nB; omega
  have := Nat.lt_of_mul_lt_mul_right h6
  omega
/-- A guess that is too great by the first limbs is too great. -/
theorem Top.less {u v n v1 v2 top next g : Nat} (t : Top u v n v1 v2 top next) (h : top * B + next < g * (v1 * B + v2)) : u / v < g := by
  have h1 : (top * B + next + 1) * B ^ n ≤ g * v := by
    calc (top * B + next + 1) * B ^ n ≤ g * (v1 * B + v2) * B ^ n := Nat.mul_le_mul_right _ h
      _ = g * ((v1 * B + v2) * B ^ n) := Nat.mul_assoc _ _ _
      _ ≤ g * v := Nat.mul_le_mul_left _ t.vlo
  have h2 : u < g * v := by have := t.uhi; omega
  have hv : 0 < v := by
    rcases Nat.eq_zero_or_pos v with h0 | h0
    · rw [h0] at h2; simp at h2
    · exact h0
  exact (Nat.div_lt_iff_lt_mul hv).2 h2
/-- One that is not, is too great by one at most. -/
theorem Top.near {u v n v1 v2 top next g : Nat} (t : Top u v n v1 v2 top next) (hg : g ≤ B - 1) (h : g * (v1 * B + v2) ≤ top * B + next) : g ≤ u / v + 1 := by
  have hv : B * B ^ n ≤ v := by
    refine Nat.le_trans (Nat.mul_le_mul_right _ ?_) t.vlo
    have := Nat.mul_le_mul_right B t.v1p
    omega
  have hvp : 0 < v := Nat.lt_of_lt_of_le (Nat.mul_pos B_pos (pow_pos n)) hv
  have h1 : g * (v1 * B + v2) * B ^ n ≤ u := Nat.le_trans (Nat.mul_le_mul_right _ h) t.ulo
  have h2 : g * v ≤ g * (v1 * B + v2) * B ^ n + g * B ^ n := by
    calc g * v ≤ g * ((v1 * B + v2 + 1) * B ^ n) := Nat.mul_le_mul_left _ (Nat.le_of_lt t.vhi)
      _ = g * (v1 * B + v2) * B ^ n + g * B ^ n := by rw [Nat.succ_mul, Nat.mul_add, Nat.mul_assoc]
  have h3 : g * B ^ n ≤ B * B ^ n := Nat.mul_le_mul_right _ (by omega)
  have h4 : u < (u / v + 1) * v := by
    have := Nat.div_add_mod u v
    have := Nat.mod_lt u hvp
    rw [Nat.succ_mul, Nat.mul_comm]; omega
  generalize u / v = q at *
  rcases Nat.lt_or_ge (q + 1) g with hc | hc
  · exfalso
    have h5 : (q + 2) * v ≤ g * v := Nat.mul_le_mul_right _ hc
    have h6 : (q + 2) * v = (q + 1) * v + v := Nat.succ_mul _ _
    have h7 : (q + 1) * v = q * v + v := Nat.succ_mul _ _
    omega
  · exact hc
/-- g times v is taken from u, limb by limb. -/
structure Take (u v o : List Nat) (g b i : Nat) : Prop where
  ok : Ok o
  len : o.length = u.length
  rest : o.drop i = u.drop i
  sum : val (o.take i) + g * val (v.take i) = val (u.take i) + B ^ i * b
  bB : b ≤ B
theorem Take.start {u v : List Nat} (hu : Ok u) (g : Nat) : Take u v u g 0 0 := ⟨hu, rfl, rfl, by simp [val], by omega⟩
theorem Take.small {v : List Nat} (hv : Ok v) {g b : Nat} (hg : g < B) (hb : b ≤ B) (i : Nat) : b + g * at_ v i ≤ B * (B - 1) + 1 := by
  have h1 : g * at_ v i ≤ (B - 1) * (B - 1) := Nat.mul_le_mul (by omega) (by have := at_lt hv i; omega)
  have h2 : (B - 1) * (B - 1) + B = B * (B - 1) + 1 := by decide
  omega
theorem Take.step {u v o : List Nat} {g b i s y b' : Nat} (hv : Ok v) (hg : g < B) (h : Take u v o g b i) (hi : i < u.length) (hs : s = b + g * at_ v i) (hy : y + s % B = u[i] + B * b') (hyB : y < B) (hb' : b' ≤ 1) : Take u v (o.set i y) g (s / B + b') (i + 1) := by
  have hsm := Take.small hv hg h.bB i
  have hio : i < o.length := by rw [h.len]; exact hi
  refine ⟨h.ok.set i y hyB, by simp [h.len], ?_, ?_, ?_⟩
  · rw [List.drop_set_of_lt (by omega)]
    have := congrArg (List.drop 1) h.rest
    simpa [List.drop_drop, Nat.add_comm] using this
  · rw [take_set _ _ _ hio, val_snoc, List.length_take, Nat.min_eq_left (by omega), val_take_at v i, val_take_succ hi, Nat.pow_succ]
    have e := h.sum
    have e2 := mod_div s
    have e3 : B ^ i * y + B ^ i * s = B ^ i * u[i] + B ^ i * B * (s / B + b') := by
      rw [← Nat.mul_add, Nat.mul_assoc, ← Nat.mul_add]; congr 1
      rw [Nat.mul_add]; omega
    have e4 : B ^ i * s = B ^ i * b + g * (B ^ i * at_ v i) := by
      rw [hs, Nat.mul_add]; congr 1
      rw [← Nat.mul_assoc, Nat.mul_comm (B ^ i) g, Nat.mul_assoc]
    rw [Nat.mul_add]
    omega
  · have h1 : s / B < B := (Nat.div_lt_iff_lt_mul B_pos).2 (by
      rw [hs]
      have : B * (B - 1) + 1 < B * B := by decide
      omega)
    omega
/-- u[i] in terms of what is there now. -/
theorem Take.cur {u v o : List Nat} {g b i : Nat} (h : Take u v o g b i) (hi : i < u.length) (hio : i < o.length) : o[i] = u[i] := by
  have e := h.rest
  rw [List.drop_eq_getElem_cons hi, List.drop_eq_getElem_cons hio] at e
  injection e
/-- Behind the taking: exact, or one too much. -/
theorem Take.exact {u v o : List Nat} {g : Nat} (hvl : v.length < u.length) (h : Take u v o g 0 u.length) (hg : val u / val v ≤ g) (hv : 0 < val v) : g = val u / val v ∧ val o = val u % val v := by
  have e := h.sum
  rw [val_take_ge (by rw [h.len]; exact Nat.le_refl _), val_take_ge (by omega), val_take_ge (Nat.le_refl _)] at e
  have h1 : g ≤ val u / val v := (Nat.le_div_iff_mul_le hv).2 (by omega)
  have h2 : g = val u / val v := by omega
  refine ⟨h2, ?_⟩
  have := Nat.div_add_mod (val u) (val v)
  rw [h2, Nat.mul_comm] at e
  omega
theorem Take.over {u v o : List Nat} {g b : Nat} (hvl : v.length < u.length) (h : Take u v o g b u.length) (hb : 0 < b) (hg : g ≤ val u / val v + 1) (hv : 0 < val v) (hvB : val v ≤ B ^ u.length) :
    g = val u / val v + 1 ∧ ∀ c x : Nat, x < B ^ u.length → x + B ^ u.length * c = val o + val v → x = val u % val v := by
  have e := h.sum
  rw [val_take_ge (by rw [h.len]; exact Nat.le_refl _), val_take_ge (by omega), val_take_ge (Nat.le_refl _)] at e
  have h1 := val_lt h.ok
  rw [h.len] at h1
  have h2 : B ^ u.length ≤ B ^ u.length * b := Nat.le_mul_of_pos_right _ hb
  have h3 : val u < g * val v := by omega
  have h4 : val u / val v < g := (Nat.div_lt_iff_lt_mul hv).2 h3
  have h5 : g = val u / val v + 1 := by omega
  refine ⟨h5, fun c x hx hc => ?_⟩
  have h6 := Nat.div_add_mod (val u) (val v)
  have h7 : g * val v = val v * (val u / val v) + val v := by rw [h5, Nat.succ_mul, Nat.mul_comm]
  have h8 : val u % val v < val v := Nat.mod_lt _ hv
  have h9 : val u % val v ≤ val u := Nat.mod_le _ _
  -- x + B^n * c = val u % val v + B^n * b
  have h10 : x + B ^ u.length * c = val u % val v + B ^ u.length * b := by omega
  have h11 : val u % val v < B ^ u.length := by
    omega
  have h12 := congrArg (· % B ^ u.length) h10
  simp only [Nat.add_mul_mod_self_left] at h12
  rw [Nat.mod_eq_of_lt hx, Nat.mod_eq_of_lt h11] at h12
  exact h12
/-- v is given back. -/
structure Give (u v o : List Nat) (c i : Nat) : Prop where
  ok : Ok o
  len : o.length = u.length
  rest : o.drop i = u.drop i
  sum : val (o.take i) + B ^ i * c = val (u.take i) + val (v.take i)
  c1 : c ≤ 1
theorem Give.start {u v : List Nat} (hu : Ok u) : Give u v u 0 0 := ⟨hu, rfl, rfl, by simp [val], by omega⟩
theorem Give.cur {u v o : List Nat} {c i : Nat} (h : Give u v o c i) (hi : i < u.length) (hio : i < o.length) : o[i] = u[i] := by
  have e := h.rest
  rw [List.drop_eq_getElem_cons hi, List.drop_eq_getElem_cons hio] at e
  injection e
theorem Give.step {u v o : List Nat} {c i s : Nat} (hu : Ok u) (hv : Ok v) (h : Give u v o c i) (hi : i < u.length) (hs : s = u[i] + c + at_ v i) : Give u v (o.set i (s % B)) (s / B) (i + 1) := by
  have hio : i < o.length := by rw [h.len]; exact hi
  have h1 := hu.get i hi
  have h2 := at_lt hv i
  refine ⟨h.ok.set i _ (Nat.mod_lt _ B_pos), by simp [h.len], ?_, ?_, ?_⟩
  · rw [List.drop_set_of_lt (by omega)]
    have := congrArg (List.drop 1) h.rest
    simpa [List.drop_drop, Nat.add_comm] using this
  · rw [take_set _ _ _ hio, val_snoc, List.length_take, Nat.min_eq_left (by omega), val_take_at v i, val_take_succ hi, Nat.pow_succ]
    have e := h.sum
    have e2 := mod_div s
    have e3 : B ^ i * (s % B) + B ^ i * B * (s / B) = B ^ i * s := by rw [Nat.mul_assoc, ← Nat.mul_add, e2]
    have e4 : B ^ i * s = B ^ i * u[i] + B ^ i * c + B ^ i * at_ v i := by rw [hs, Nat.mul_add, Nat.mul_add]
    omega
  · have := h.c1
    have hlt : s < 2 * B := by omega
    have := (Nat.div_lt_iff_lt_mul B_pos).2 hlt
    omega
theorem Give.done {u v o : List Nat} {c : Nat} (hvl : v.length < u.length) (h : Give u v o c u.length) : val o + B ^ u.length * c = val u + val v ∧ val o < B ^ u.length := by
  have e := h.sum
  rw [val_take_ge (by rw [h.len]; exact Nat.le_refl _), val_take_ge (Nat.le_refl _), val_take_ge (by omega)] at e
  have h1 := val_lt h.ok
  rw [h.len] at h1
  exact ⟨e, h1⟩
/-- The long division: j + 1 limbs are behind (counted from the top). A: what is divided, V: by what. -/
structure Long (A : Nat) (u q v : List Nat) (j : Nat) : Prop where
  oku : Ok u
  okq : Ok q
  sum : val u + B ^ j * val (q.drop j) * val v = A
  low : val (u.drop j) < val v
theorem Long.high {A : Nat} {u q v : List Nat} {j : Nat} (hv : Ok v) (h : Long A u q v j) (i : Nat) (hi : j + v.length ≤ i) (hil : i < u.length) : u[i] = 0 := by
  have h1 := h.low
  have h2 := val_lt hv
  have hs := val_split (u.drop j) (i - j) (by simp; omega)
  rw [List.drop_drop] at hs
  have e : j + (i - j) = i := by omega
  rw [e, val_drop hil] at hs
  rcases Nat.eq_zero_or_pos u[i] with h0 | h0
  · exact h0
  · exfalso
    have h3 : B ^ v.length ≤ B ^ (i - j) := Nat.pow_le_pow_right B_pos (by omega)
    have h4 : B ^ (i - j) ≤ B ^ (i - j) * (u[i] + B * val (u.drop (i + 1))) := Nat.le_mul_of_pos_right _ (by omega)
    omega
theorem val_all_zero : ∀ {l : List Nat}, (∀ i (h : i < l.length), l[i] = 0) → val l = 0
  | [], _ => rfl
  | x :: l, h => by
    have h0 := h 0 (by simp)
    simp at h0
    rw [val, h0, val_all_zero (l := l) fun i hi => by have := h (i + 1) (by simpa using hi); simpa using this, Nat.mul_zero]
/-- The part that a step works on. -/
theorem Long.part {A : Nat} {u q v : List Nat} {j : Nat} (hv : Ok v) (h : Long A u q v (j + 1)) (hj : j + v.length < u.length) :
    val ((u.drop j).take (v.length + 1)) = val (u.drop j) ∧ val (u.drop j) < B * val v := by
  have h1 := val_split (u.drop j) (v.length + 1) (by simp; omega)
  have h2 : val ((u.drop j).drop (v.length + 1)) = 0 := by
    rw [List.drop_drop]
    refine val_all_zero fun i hi => ?_
    rw [List.getElem_drop]
    exact h.high hv _ (by omega) (by simp at hi; omega)
  rw [h2] at h1
  refine ⟨by omega, ?_⟩
  rw [val_drop (by omega : j < u.length)]
  have h3 := h.oku.get j (by omega)
  have h4 : B * (val (u.drop (j + 1)) + 1) ≤ B * val v := Nat.mul_le_mul_left _ h.low
  rw [Nat.mul_add] at h4
  omega
theorem Long.step {A : Nat} {u q v u' : List Nat} {j : Nat} (hv : Ok v) (hvp : 0 < val v) (h : Long A u q v (j + 1)) (hj : j + v.length < u.length) (hjq : j < q.length)
    (hu' : Ok u') (hl : u'.length = u.length) (hlow : u'.take j = u.take j) (hval : val (u'.drop j) = val (u.drop j) % val v) : Long A u' (q.set j (val (u.drop j) / val v)) v j := by
  have hp := (h.part hv hj).2
  have hq : val (u.drop j) / val v < B := (Nat.div_lt_iff_lt_mul hvp).2 hp
  refine ⟨hu', h.okq.set _ _ hq, ?_, by rw [hval]; exact Nat.mod_lt _ hvp⟩
  rw [drop_set _ _ _ hjq, val, val_split u' j (by omega), hlow, hval]
  have e := h.sum
  rw [val_split u j (by omega)] at e
  have e1 := Nat.div_add_mod (val (u.drop j)) (val v)
  generalize val (u.drop j) / val v = g at *
  generalize val (u.drop j) % val v = r at *
  rw [← e1] at e
  rw [← e, Nat.pow_succ]
  have e2 : B ^ j * (g + B * val (q.drop (j + 1))) * val v = B ^ j * (val v * g) + B ^ j * B * val (q.drop (j + 1)) * val v := by
    rw [Nat.mul_add, Nat.add_mul, Nat.mul_assoc, Nat.mul_comm g, ← Nat.mul_assoc (B ^ j) B]
  rw [e2, Nat.mul_add]
  omega
theorem Long.done {A : Nat} {u q v : List Nat} (h : Long A u q v 0) (hvp : 0 < val v) : val q = A / val v ∧ val u = A % val v := by
  have e := h.sum
  have hl := h.low
  simp only [List.drop_zero, Nat.pow_zero, Nat.one_mul] at e hl
  constructor
  · rw [← e, Nat.add_mul_div_right _ _ hvp, Nat.div_eq_of_lt hl, Nat.zero_add]
  · rw [← e, Nat.add_mul_mod_self_right, Nat.mod_eq_of_lt hl]
theorem scale_div {a b s : Nat} (hs : 0 < s) : a * s / (b * s) = a / b ∧ a * s % (b * s) = a % b * s :=
  ⟨Nat.mul_div_mul_right _ _ hs, Nat.mul_mod_mul_right _ _ _⟩
/-- The first limbs. -/
theorem Top.of {u v : List Nat} {m : Nat} (hu : Ok u) (hv : Ok v) (hl : v.length = m + 2) (hlu : u.length = m + 3) (h1 : 0 < v[m + 1]) :
    Top (val u) (val v) m v[m + 1] v[m] (u[m + 2] * B + u[m + 1]) u[m] := by
  have ev := val_split v m (by omega)
  rw [val_drop (by omega : m < v.length), val_drop (by omega : m + 1 < v.length), List.drop_of_length_le (by omega : v.length ≤ m + 1 + 1)] at ev
  have eu := val_split u m (by omega)
  rw [val_drop (by omega : m < u.length), val_drop (by omega : m + 1 < u.length), val_drop (by omega : m + 2 < u.length), List.drop_of_length_le (by omega : u.length ≤ m + 2 + 1)] at eu
  simp only [val, Nat.mul_zero, Nat.add_zero] at ev eu
  have l1 := val_lt (hv.take m)
  rw [List.length_take, Nat.min_eq_left (by omega)] at l1
  have l2 := val_lt (hu.take m)
  rw [List.length_take, Nat.min_eq_left (by omega)] at l2
  have c1 : v[m] + B * v[m + 1] = v[m + 1] * B + v[m] := by rw [Nat.mul_comm, Nat.add_comm]
  have c2 : u[m] + B * (u[m + 1] + B * u[m + 2]) = (u[m + 2] * B + u[m + 1]) * B + u[m] := by
    rw [Nat.mul_comm B (u[m + 1] + _), Nat.mul_comm B u[m + 2], Nat.add_comm u[m + 1], Nat.add_comm]
  rw [c1, Nat.mul_comm] at ev
  rw [c2, Nat.mul_comm] at eu
  refine ⟨by omega, ?_, by omega, ?_, h1, hv.get m (by omega), hu.get m (by omega)⟩
  · rw [Nat.succ_mul]; omega
  · rw [Nat.succ_mul]; omega
end Nt
end Go.Proofs.YtaakpcmflladaaaDoor
