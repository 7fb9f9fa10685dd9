/- value's naturals: trim, small, order, compare. Plain walks. -/
import Derived.Test.YtaakpcmflladaaaDoorHvMix
import Derived.Test.YtaakpcmflladaaaDoorHvMap
import Derived.Test.YtaakpcmflladaaaDoorHvRow
import Derived.Test.YtaakpcmflladaaaDoorNatAlg
import Derived.Test.YtaakpcmflladaaaDoorNatDec
import Derived.Test.YtaakpcmflladaaaDoorAside
import Derived.Test.YtaakpcmflladaaaDoorProg
set_option linter.all false
namespace Go.Proofs.YtaakpcmflladaaaDoor
open Go.RowKit Hv Go.Proofs Nt
theorem slL : SlT Tryd.prog 73 75 1 8 := SlT.of Tryd.underlying73 (by kernel_rfl)
theorem limb_at {q : IntKind} {h : View} {w : World} {A : Option Addr} {l : List Nat} (s : SlAt h (tN q) A l) (hs : Sub h w) (k : Nat) (hk : k < l.length) : ∃ b off x, x = l[k] ∧ A = some ⟨b, off, none⟩ ∧ w.cell? ⟨b, off + k, none⟩ = some (.int q (x : Int)) ∧ inRange q (x : Int) := by
  obtain ⟨b, off, ds, rfl, hK, hc⟩ := s.at_ k hk
  obtain ⟨rfl, r⟩ := tN_K hK
  refine ⟨b, off, l[k], rfl, rfl, ?_, r⟩
  have := hs.cell (hc 0 _ rfl)
  simpa [show (tN q).sz = 1 from rfl] using this
theorem _root_.Go.Proofs.YtaakpcmflladaaaDoor.Hv.Sl.take {α : Type} {t : Ty α} {h : View} {A : Option Addr} {n c : Nat} {xs : List α} (s : Sl h t (.slice A n c) xs) (k : Nat) (hk : k ≤ xs.length) : Sl h t (.slice A k c) (xs.take k) := by
  obtain ⟨A', c', e, h1, h2, hat⟩ := s
  injection e with e1 e2 e3
  subst e1; subst e3
  have hl : (xs.take k).length = k := by rw [List.length_take]; omega
  refine ⟨A, c, by rw [hl], by omega, h2, ?_⟩
  rcases hat with rfl | ⟨b, off, cs, rfl, r, hc⟩
  · exact .inl (by simp)
  · refine .inr ⟨b, off, cs.take (k * t.sz), rfl, r.take k, fun j u hu => hc j u ?_⟩
    rw [List.getElem?_take] at hu
    split at hu
    · exact hu
    · cases hu
def TrimR (w : World) (h : View) (xs : List Nat) (e : Ending) (w' : World) : Prop := ∃ r, e = .returned r ∧ w = w' ∧ Sl h (tN .u64) r (trimL xs)
theorem trim_zero {xs : List Nat} {k : Nat} (hk : k < xs.length) (h0 : xs[k] = 0) : trimL (xs.take (k + 1)) = trimL (xs.take k) := by
  rw [List.take_succ_eq_append_getElem hk, h0, trimL_snoc_zero]
theorem trim_stop {xs : List Nat} {k : Nat} (hk : k < xs.length) (h0 : xs[k] ≠ 0) : trimL (xs.take (k + 1)) = xs.take (k + 1) := by
  rw [List.take_succ_eq_append_getElem hk, trimL_snoc h0]
set_option maxRecDepth 100000 in
theorem trim_any (h : View) (w : World) (hs : Sub h w) (v : Value) (xs : List Nat) (hv : Sl h (tN .u64) v xs) : Calls Tryd.prog 89 #[v] w (TrimR w h xs) := by
  have hv0 := hv
  obtain ⟨A, c, rfl, hl1, hl2, hsl⟩ := hv
  have HV := Aside.mk hv0
  clear hv0
  go_enter Tryd.func89, Tryd.ntmps89
  go_wp2
  go_loop [0] (fun a => ∃ k : Nat, k ≤ xs.length ∧ a = .slice A k c ∧ Aside (trimL (xs.take k) = trimL xs)) (fun a => (match a with | .slice _ k _ => k | _ => 0))
  case atStart => exact ⟨xs.length, Nat.le_refl _, rfl, ⟨by rw [List.take_length]⟩⟩
  case round =>
    obtain ⟨k, hk, rfl, HT⟩ := hrel
    rcases k with _ | k
    · have H0 := Aside.mk (show trimL xs = xs.take 0 by rw [← HT.out]; rfl)
      go_wp2
      go_ret
      exact ⟨_, rfl, rfl, by rw [H0.out]; exact HV.out.take 0 (Nat.zero_le _)⟩
    · obtain ⟨b, off, x, hx, rfl, c0, r0⟩ := limb_at hsl hs k hk
      by_cases h0 : x = 0
      · have HZ := Aside.mk (trim_zero hk (hx.symm.trans h0))
        subst h0
        clear hx
        go_wp2
        go_round
        case rel => exact ⟨k, by omega, by simp, ⟨HZ.out.symm.trans HT.out⟩⟩
        case measure => simp
      · have HZ := Aside.mk (trim_stop hk (hx ▸ h0))
        have hb : ((x : Int) == 0) = false := by rw [beq_eq_false_iff_ne]; omega
        clear hx h0
        go_wp2
        go_ret
        exact ⟨_, rfl, rfl, by rw [← HT.out, HZ.out]; exact HV.out.take _ hk⟩
/-- A value that reads as a number, in limbs. -/
def IsNat (h : View) (v : Value) (n : Nat) : Prop := Sl h (tN .u64) v (limbs n)
theorem IsNat.mono {h h' : View} {v : Value} {n : Nat} (i : IsNat h v n) (l : View.le h h') : IsNat h' v n := Sl.mono l i
def NatR (w : World) (h : View) (n : Nat) (e : Ending) (w' : World) : Prop := ∃ h' r, e = .returned r ∧ Ext w h w' h' ∧ IsNat h' r n
theorem NatR.of {w w' : World} {h h' : View} {n : Nat} {r : Value} (x : Ext w h w' h') (i : IsNat h' r n) : NatR w h n (.returned r) w' := ⟨h', r, rfl, x, i⟩
theorem small_len {n : Nat} (hn : n ≤ 18446744073709551615) {o : List Nat} {m : Nat} (h : o ++ limbs m = limbs n) : o.length + (limbs m).length ≤ 3 := by
  have h1 := @limbs_len n 3
  have h2 : n < B ^ 3 := Nat.lt_of_le_of_lt hn (by decide)
  rw [← List.length_append, h]; exact h1.2 h2
theorem limbs_step {o : List Nat} {m n : Nat} (h0 : m ≠ 0) (h : o ++ limbs m = limbs n) : (o ++ [m % 1000000000]) ++ limbs (m / 1000000000) = limbs n := by
  rw [← h, limbs_pos h0, List.append_assoc]; rfl
set_option maxRecDepth 100000 in
theorem small_any (h : View) (w : World) (hs : Sub h w) (n : Nat) (hn : n ≤ 18446744073709551615) : Calls Tryd.prog 24 #[.int .u64 (n : Int)] w (NatR w h n) := by
  have hx := Ext.refl hs
  have HL := Aside.mk (@small_len n hn)
  go_enter Tryd.func24, Tryd.ntmps24
  go_wp2
  go_loopw [0, 3] (fun m a wr => ∃ (k : Nat) (o : List Nat), k ≤ 18446744073709551615 ∧ m = .int .u64 k ∧ Ext w h wr h ∧ Own wr h w.heap.size 75 (tN .u64) a o ∧ Aside (o ++ limbs k = limbs n)) (fun m _ _ => (intOf m).toNat)
  case atStart => exact ⟨n, [], hn, rfl, hx, Own.nil, ⟨rfl⟩⟩
  case round =>
    obtain ⟨k, o, hk, rfl, hx, ho, HO⟩ := hrel
    rcases Nat.eq_zero_or_pos k with h0 | h0
    · subst h0
      have e := HO.out
      rw [limbs_zero, List.append_nil] at e
      subst e
      obtain ⟨h', x', _, s', _⟩ := ho.publish hx (Nat.le_refl _)
      have S := Aside.mk s'
      have X := Aside.mk x'
      clear s' x' ho
      go_wp2
      go_ret
      exact NatR.of X.out S.out
    · have HN := Aside.mk (limbs_step (by omega) HO.out)
      have hlen := HL.out HO.out
      have hr : inRange .u64 ((k % 1000000000 : Nat) : Int) := ⟨by omega, by omega⟩
      have e1 : ((k % 1000000000 : Nat) : Int) = (k : Int) % 1000000000 := by omega
      go_wp2_with (at_builtin; go_loud (refine wpList_app1 (t := tN .u64) slL (by decide) rfl rfl ho hx.sub rfl (k % 1000000000) rfl rfl (by simpa using tN_mk hr) (by omega) (by omega) (by have := hx.ge; omega) ?_); intro v' w' ho' hg hs' hnew)
      have x5 : Ext w h w' h := (hx.alloc _).grown hg fun g e => ⟨(ho.lt g e).1, ho.2 g e⟩
      go_roundw
      case rel => exact ⟨k / 1000000000, _, by omega, by simp, x5, ho', HN⟩
      case measure => simp [intOf]; omega
end Go.Proofs.YtaakpcmflladaaaDoor
