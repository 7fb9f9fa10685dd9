/- value's naturals: the long division, and the greatest common divisor. -/
import Derived.Test.YtaakpcmflladaaaDoorNat6
set_option linter.all false
namespace Go.Proofs.YtaakpcmflladaaaDoor
open Go.RowKit Hv Go.Proofs Nt
theorem Long.rest {A : Nat} {u q v : List Nat} {j : Nat} (hv : Ok v) (h : Long A u q v (j + 1)) (hj : j + v.length < u.length) : val (u.drop (j + (v.length + 1))) = 0 := by
  refine val_all_zero fun i hi => ?_
  rw [List.getElem_drop]
  exact h.high hv _ (by omega) (by simp at hi; omega)
/-- One round of the long division, in place. -/
theorem Long.round {A : Nat} {u q v u' : List Nat} {j : Nat} (hv : Ok v) (hvp : 0 < val v) (h : Long A u q v (j + 1)) (hj : j + v.length < u.length) (hjq : j < q.length)
    (hu' : Ok u') (hl : u'.length = v.length + 1) (hval : val u' = val ((u.drop j).take (v.length + 1)) % val v) :
    Long A (u.take j ++ u' ++ u.drop (j + (v.length + 1))) (q.set j (val ((u.drop j).take (v.length + 1)) / val v)) v j ∧ (u.take j ++ u' ++ u.drop (j + (v.length + 1))).length = u.length := by
  obtain ⟨h1, h2⟩ := h.part hv hj
  have h3 := Long.rest hv h hj
  have hlen : (u.take j ++ u' ++ u.drop (j + (v.length + 1))).length = u.length := by simp [hl]; omega
  rw [h1] at hval ⊢
  have htk : (u.take j).length = j := by rw [List.length_take]; omega
  refine ⟨h.step hv hvp hj hjq (((h.oku.take j).append hu').append (h.oku.drop _)) hlen ?_ ?_, hlen⟩
  · rw [List.append_assoc, List.take_append_of_le_length (by omega), List.take_of_length_le (by omega)]
  · rw [List.append_assoc]
    have : (u.take j ++ (u' ++ u.drop (j + (v.length + 1)))).drop j = u' ++ u.drop (j + (v.length + 1)) := by
      rw [List.drop_append_of_le_length (by omega), List.drop_of_length_le (by omega)]; rfl
    rw [this, val_append, h3, Nat.mul_zero, Nat.add_zero, hval]
theorem Long.begin {A : Nat} {u v : List Nat} {L : Nat} (hu : Ok u) (hA : val u = A) (hL : L + v.length = u.length) (hz : ∀ h : 0 < u.length, u[u.length - 1] = 0) (hvt : ∀ h : 0 < v.length, v[v.length - 1] ≠ 0) (hvl : 0 < v.length) : Long A u (List.replicate L 0) v L := by
  refine ⟨hu, ok_zeros _, by rw [hA, List.drop_of_length_le (by simp)]; simp [val], ?_⟩
  have e : u.drop L = (u.drop L).take (v.length - 1) ++ [0] := by
    have hl : (u.drop L).length = v.length := by rw [List.length_drop]; omega
    have h2 : (u.drop L).take (v.length - 1 + 1) = (u.drop L).take (v.length - 1) ++ [(u.drop L)[v.length - 1]] := List.take_succ_eq_append_getElem (by omega)
    rw [List.take_of_length_le (by omega)] at h2
    have h3 : (u.drop L)[v.length - 1]'(by omega) = 0 := by
      rw [List.getElem_drop]
      have := hz (by omega)
      have e2 : L + (v.length - 1) = u.length - 1 := by omega
      simp only [e2]; exact this
    rw [h3] at h2
    exact h2
  rw [e, val_snoc]
  have h1 := val_lt ((hu.drop L).take (v.length - 1))
  have h2 : ((u.drop L).take (v.length - 1)).length = v.length - 1 := by rw [List.length_take, List.length_drop]; omega
  rw [h2] at h1
  have h3 : B ^ (v.length - 1) ≤ val v := by
    have h4 := val_split v (v.length - 1) (by omega)
    rw [val_drop (by omega : v.length - 1 < v.length)] at h4
    have h5 := hvt hvl
    have h6 : B ^ (v.length - 1) ≤ B ^ (v.length - 1) * (v[v.length - 1] + B * val (v.drop (v.length - 1 + 1))) := Nat.le_mul_of_pos_right _ (by omega)
    omega
  omega
theorem scale_facts {b : Nat} (h2 : 2 ≤ (limbs b).length) {x : Nat} (hx : x = (limbs b)[(limbs b).length - 1]) : 0 < B / (x + 1) ∧ B / (x + 1) < B ∧ 2 ≤ (limbs (b * (B / (x + 1)))).length ∧ limbs (B / (x + 1)) = [B / (x + 1)] ∧ b ≠ 0 := by
  have hb : b ≠ 0 := by rintro rfl; rw [limbs_zero] at h2; simp at h2
  have hxB : x < B := by rw [hx]; exact (ok_limbs b).get _ _
  have hx0 : x ≠ 0 := by rw [hx]; exact limbs_last (by omega)
  have h3 : 0 < B / (x + 1) := Nat.div_pos (by omega) (by omega)
  have h4 : B / (x + 1) < B := Nat.div_lt_self B_pos (by omega)
  refine ⟨h3, h4, ?_, limbs_one (by omega) h4, hb⟩
  have h5 : 1 < (limbs b).length := h2
  rw [limbs_len_lt] at h5
  have h6 : B ^ 1 ≤ b * (B / (x + 1)) := Nat.le_trans h5 (Nat.le_mul_of_pos_right _ h3)
  exact limbs_len_lt.2 h6
theorem _root_.Go.Proofs.YtaakpcmflladaaaDoor.Hv.Own.empty {α : Type} {t : Ty α} {h : View} {w : World} {e : TypeId} {base : Nat} (hs : Sub h w) (hb : base ≤ w.heap.size) : Own (w.alloc (.cells #[] e (0, 0))) h base e t (.slice (some ⟨w.heap.size, 0, none⟩) 0 0) [] :=
  ⟨⟨[], ⟨by simp, .inr ⟨w.heap.size, 0, #[], rfl, hb, BoxAt.new w #[] e, Nat.le_refl _, by unfold maxLen; omega, by simp, by simp⟩⟩, .nil⟩, fun g hg => by
    have : w.heap.size = g := by simpa [Value.ownBlock] using hg
    subst this; exact hs.none_ge (Nat.le_refl _)⟩
def OverR (w : World) (h : View) (a b : Nat) (e : Ending) (w' : World) : Prop := ∃ h' q r, e = .returned (.tuple #[q, r]) ∧ Ext w h w' h' ∧ IsNat h' q (a / b) ∧ IsNat h' r (a % b)
theorem OverR.of {w w' : World} {h h' : View} {a b : Nat} {q r : Value} (x : Ext w h w' h') (hq : IsNat h' q (a / b)) (hr : IsNat h' r (a % b)) : OverR w h a b (.returned (.tuple #[q, r])) w' := ⟨h', q, r, rfl, x, hq, hr⟩
theorem isNat_nil (h : View) : IsNat h (.slice none 0 0) 0 := by unfold IsNat; rw [limbs_zero]; exact Sl.nil
theorem cmpN_neg {a b : Nat} : (cmpN a b < 0) ↔ a < b := by
  unfold cmpN
  split
  · simp [*]
  · split <;> simp <;> omega
theorem over_less (h : View) (w : World) (hs : Sub h w) (va vb : Value) (a b : Nat) (ha : IsNat h va a) (hb : IsNat h vb b) (hlt : a < b) :
    Calls Tryd.prog 65 #[va, vb] w (OverR w h a b) := by
  have CC := Aside.mk (compare_any h w hs va vb a b ha hb)
  have e : cmpN a b = -1 := by unfold cmpN; rw [if_pos hlt]
  rw [e] at CC
  have H1 := Aside.mk (show IsNat h va (a % b) by rw [Nat.mod_eq_of_lt hlt]; exact ha)
  have H2 := Aside.mk (show IsNat h (.slice none 0 0) (a / b) by rw [Nat.div_eq_of_lt hlt]; exact isNat_nil h)
  have X := Aside.mk (Ext.refl hs)
  clear ha hb e hlt
  unfold QR at CC
  go_enter Tryd.func65, Tryd.ntmps65
  go_wp2_with (go_at_call 85; refine CC.out.mono ?_; rintro e w' ⟨rfl, n, rfl⟩)
  go_ret2
  exact OverR.of (X.out.drewN n) H2.out H1.out
theorem over_short (h : View) (w : World) (hs : Sub h w) (va vb : Value) (a b : Nat) (ha : IsNat h va a) (hb : IsNat h vb b) (hge : ¬ a < b) (h1 : (limbs b).length = 1) (hl : (limbs a).length ≤ 8796093022208) :
    Calls Tryd.prog 65 #[va, vb] w (OverR w h a b) := by
  have CC := Aside.mk (compare_any h w hs va vb a b ha hb)
  obtain ⟨c, hc⟩ : ∃ c, c = cmpN a b := ⟨_, rfl⟩
  have hc0 : ¬ c < 0 := by rw [hc, cmpN_neg]; exact hge
  rw [← hc] at CC
  have hb0 : b ≠ 0 := by rintro rfl; rw [limbs_zero] at h1; simp at h1
  have hbl : limbs b = [b] := by
    have : b < B ^ 1 := limbs_len.1 (Nat.le_of_eq h1)
    rw [Nat.pow_one] at this
    exact limbs_one hb0 this
  have hbB : b < B := by rw [← Nat.pow_one B]; exact limbs_len.1 (Nat.le_of_eq h1)
  have SH := Aside.mk (fun (n : Nat) => short_any h (w.drewN n) (hs.drewN n) va (limbs a) b ha (ok_limbs a) (by omega) (Nat.le_of_lt hbB) (by omega))
  rw [val_limbs] at SH
  have X := Aside.mk (Ext.refl hs)
  have SM := Aside.mk (fun (vw : View) (W : World) (hsW : Sub vw W) => small_any vw W hsW (a % b) (by have := Nat.mod_lt a (show b > 0 by omega); rw [Nt.B_eq] at hbB; omega))
  have hbb := hb
  unfold IsNat at hbb
  rw [hbl] at hbb
  obtain ⟨A2, c2, rfl, q3, q4, s2⟩ := hbb
  obtain ⟨b2, o2, y, hy, rfl, e2, r2⟩ := limb_at s2 hs 0 (by simp)
  have hyb : y = b := hy
  subst hyb
  unfold QR at CC
  unfold ShortR at SH
  unfold NatR at SM
  clear ha hb hc hge h1 hbl hbB hb0 hy r2 s2 hl
  simp only [List.length_cons, List.length_nil, Nat.zero_add, Nat.add_zero] at q3 CC e2 ⊢
  go_enter Tryd.func65, Tryd.ntmps65
  go_wp2_with (first
    | (go_at_call 85; refine CC.out.mono ?_; rintro e w' ⟨rfl, n, rfl⟩)
    | (go_at_call 86; refine (SH.out n).mono ?_; rintro e w1 ⟨h1, q, rfl, x1, i1⟩)
    | (go_at_call 24; refine (SM.out h1 w1 x1.sub).mono ?_; rintro e w2 ⟨h2, r, rfl, x2, i2⟩))
  go_ret2
  exact OverR.of (((X.out.drewN n).trans x1).trans x2) (i1.mono x2.le) i2
end Go.Proofs.YtaakpcmflladaaaDoor
