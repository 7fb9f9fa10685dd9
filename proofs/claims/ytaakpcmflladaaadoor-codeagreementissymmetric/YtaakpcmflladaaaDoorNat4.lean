/- value's naturals: short division. -/
import Derived.Test.YtaakpcmflladaaaDoorNat3
set_option linter.all false
namespace Go.Proofs.YtaakpcmflladaaaDoor
open Go.RowKit Hv Go.Proofs Nt
theorem zL : (Tryd.prog.info? 75).map (fun i => (i.zero, i.size, i.bytes)) = some (some (.int .u64 0), 1, 8) := by kernel_rfl
theorem u64_in (n : Int) (h0 : 0 ≤ n) (h : n ≤ 1000000000000000000) : IntKind.u64.wrap n = n := by
  rw [IntKind.wrap_u64]; omega
theorem u64_of {n : Nat} (h : n < B) : inRange .u64 (n : Int) := by
  rw [Nt.B_eq] at h
  exact ⟨by omega, by omega⟩
theorem u64_of_ok {l : List Nat} (h : Ok l) : ∀ x ∈ l, inRange .u64 (x : Int) := fun x hx => u64_of (h x hx)
def ShortR (w : World) (h : View) (q r : Nat) (e : Ending) (w' : World) : Prop := ∃ h' v, e = .returned (.tuple #[v, .int .u64 (r : Int)]) ∧ Ext w h w' h' ∧ IsNat h' v q
theorem ShortR.of {w w' : World} {h h' : View} {q r r' : Nat} {v : Value} (hr : r' = r) (x : Ext w h w' h') (i : IsNat h' v q) : ShortR w h q r (.returned (.tuple #[v, .int .u64 (r' : Int)])) w' := ⟨h', v, by rw [hr], x, i⟩
set_option maxRecDepth 100000 in
set_option maxHeartbeats 800000 in
theorem short_any (h : View) (w : World) (hs : Sub h w) (v : Value) (l : List Nat) (d : Nat) (hv : Sl h (tN .u64) v l) (hok : Ok l) (hd : 0 < d) (hdB : d ≤ B) (hl : l.length ≤ 17592186044416) :
    Calls Tryd.prog 86 #[v, .int .u64 (d : Int)] w (ShortR w h (val l / d) (val l % d)) := by
  obtain ⟨A, c, rfl, q1, q2, s1⟩ := hv
  have hx := Ext.refl hs
  have HS := Aside.mk (fun (o : List Nat) (r i : Nat) (hh : Short l o d r (i + 1)) (hi : i < l.length) => hh.step hok hd hdB hi rfl)
  have HM := Aside.mk (fun (o : List Nat) (r i : Nat) (hh : Short l o d r (i + 1)) (hi : i < l.length) => hh.small hok hdB i hi rfl)
  have HD := Aside.mk (fun (o : List Nat) (r : Nat) (hh : Short l o d r 0) => hh.done hd)
  have H0 := Aside.mk (@Short.start l d hd)
  have HB := Aside.mk hok
  have HdB := Aside.mk hdB
  have hdB' : d ≤ 1000000000 := hdB
  have hw0 : h w.heap.size = none := hs.none_ge (Nat.le_refl _)
  have HW0 := Aside.mk hw0
  clear hok hdB hw0
  have hd' : (0 : Int) < (d : Int) := by omega
  have hd2 : ((d : Int) == 0) = false := by rw [beq_eq_false_iff_ne]; omega
  go_enter Tryd.func86, Tryd.ntmps86
  go_wp2_with (refine wpList_makeN (n := l.length) (k := .u64) Tryd.underlying73 zL rfl rfl rfl rfl hl ?_; intro hr0)
  go_loopw [7, 8] (fun r i wr => ∃ (k rr : Nat) (i0 : Int) (o : List Nat), k ≤ l.length ∧ r = .int .u64 rr ∧ rr < d ∧ i = .int .i64 i0 ∧ Aside (i0 = (k : Int) - 1) ∧ Ext w h wr h ∧ RowAt wr w.heap.size 75 .u64 o ∧ Aside (Short l o d rr k)) (fun _ i _ => ((intOf i) + 1).toNat)
  case atStart => exact ⟨l.length, 0, _, _, Nat.le_refl _, rfl, hd, rfl, ⟨rfl⟩, hx.alloc _, hr0, H0⟩
  case round =>
    obtain ⟨k, rr, i0, o, hk, rfl, hrd, rfl, hi, hx, hr, HH⟩ := hrel
    rcases k with _ | k
    · have : i0 = -1 := by have := hi.out; omega
      subst this
      obtain ⟨d1, d2⟩ := HD.out _ _ HH.out
      obtain ⟨h', x', l', s', _⟩ := hr.publish hx (Nat.le_refl _) HW0.out (by have := HH.out.len; omega) (u64_of_ok HH.out.ok)
      have hol := HH.out.len
      have S := Aside.mk (s' l.length (by omega) (by omega))
      rw [hol] at S
      have X := Aside.mk x'
      have D1 := Aside.mk d1
      have D2 := Aside.mk d2
      have HO := Aside.mk HH.out.ok
      clear hi hr hol d1 d2 s' l' x'
      go_wp2_with (go_at_call 89; refine (trim_any h' wr X.out.sub _ o S.out).mono ?_; rintro e w' ⟨r, rfl, rfl, s2⟩)
      go_ret2
      exact ShortR.of D2.out X.out (by unfold IsNat; rw [← D1.out]; exact s2)
    · have : i0 = (k : Int) := by have := hi.out; omega
      subst this
      clear hi
      obtain ⟨b1, o1, x, hx', rfl, e1, r1⟩ := limb_at s1 hx.sub k hk
      have hsm := HM.out o rr k HH.out hk
      have HN := Aside.mk (HS.out o rr k HH.out hk)
      rw [← hx'] at hsm HN
      have hxB : x < 1000000000 := by rw [hx']; exact HB.out.get k hk
      have hs2 : rr * 1000000000 + x < 1000000000000000000 := by
        have h5 : d * B ≤ B * B := Nat.mul_le_mul_right _ HdB.out
        have h6 : B * B = 1000000000000000000 := by decide
        have h7 : rr * B + x < d * B := hsm
        have h8 : rr * B = rr * 1000000000 := rfl
        omega
      have hol := HH.out.len
      have hkl : k < o.length := by omega
      have HOL := Aside.mk hol
      clear hx' hsm r1 hol
      have e3 : w.heap.size < wr.heap.size := hr.lt
      have hf := hr.frozen k
      have hcell := hr.cell hkl
      obtain ⟨q, hq⟩ : ∃ q, q = (rr * 1000000000 + x) / d := ⟨_, rfl⟩
      obtain ⟨r, hrr⟩ : ∃ r, r = (rr * 1000000000 + x) % d := ⟨_, rfl⟩
      have hrd' : r < d := by rw [hrr]; exact Nat.mod_lt _ hd
      have hqs : q ≤ 1000000000000000000 := by rw [hq]; exact Nat.le_trans (Nat.div_le_self _ _) (by omega)
      have ew : IntKind.u64.wrap (((rr : Int) * 1000000000 + (x : Int)).tdiv (d : Int)) = (q : Int) := by
        have e5 : (((rr : Int) * 1000000000 + (x : Int)).tdiv (d : Int)) = (q : Int) := by
          rw [Int.tdiv_eq_ediv_of_nonneg (by omega), hq, Int.natCast_ediv, Int.natCast_add, Int.natCast_mul]; rfl
        rw [e5]
        exact u64_in _ (by omega) (by omega)
      have et : (((rr : Int) * 1000000000 + (x : Int)).tmod (d : Int)) = (r : Int) := by
        rw [Int.tmod_eq_emod_of_nonneg (by omega), hrr, Int.natCast_emod, Int.natCast_add, Int.natCast_mul]; rfl
      have HN : Aside (Short l (o.set k q) d r k) := ⟨by rw [hq, hrr]; exact HN.out⟩
      have hd3 : ¬ d = 0 := by omega
      have hk' : k < l.length := hk
      clear hq hrr
      go_wp2
      refine wp_region_mix (fun W => RowAt W w.heap.size 75 .u64 o ∨ RowAt W w.heap.size 75 .u64 (o.set k q)) [9] 11 (by kernel_rfl) (by kernel_rfl) (by decide) (.inl hr.drew) ?_
      show wpMix _ _ _ _ _ [0, 1, 2, 3, 4, 5, 6, 7, 8, 9, 10] _ _
      iterate 9
        refine mix_e rfl rfl rfl ?_
        apply Exists.intro
        constructor
        · rintro W q0
          go_simp
          rfl
        simp only [Act.put, List.setIfInBounds_toArray, List.set_cons_zero, List.set_cons_succ]
      refine mix_w rfl rfl rfl ?_
      go_wp2
      refine ⟨rfl, .inr (hr.set k q hkl).drew, ?_⟩
      clear ew et hd3 hcell hf
      refine mix_e rfl rfl rfl ?_
      apply Exists.intro
      constructor
      · rintro W q0
        go_simp
        rfl
      simp only [Act.put, List.setIfInBounds_toArray, List.set_cons_zero, List.set_cons_succ]
      refine mix_nil (wpList_nil (onlyN ?_))
      have hx5 : Ext w h (wr.setCell ⟨w.heap.size, k, none⟩ (.int .u64 (q : Int))).drew h := (hx.setCell (Nat.le_refl _) HW0.out _).drew
      have hr5 := (hr.set k q hkl).drew
      revert hx5 hr5
      generalize (wr.setCell ⟨w.heap.size, k, none⟩ (.int .u64 (q : Int))).drew = wr2
      intro hx5 hr5
      go_wp2
      go_roundw
      case rel => exact ⟨k, r, _, _, by omega, rfl, hrd', rfl, ⟨rfl⟩, hx5, hr5, HN⟩
      case measure => simp [intOf] <;> omega
end Go.Proofs.YtaakpcmflladaaaDoor
