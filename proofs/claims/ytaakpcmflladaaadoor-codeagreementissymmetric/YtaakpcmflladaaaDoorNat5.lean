/- value's naturals: products. -/
import Derived.Test.YtaakpcmflladaaaDoorNat4
set_option linter.all false
namespace Go.Proofs.YtaakpcmflladaaaDoor
open Go.RowKit Hv Go.Proofs Nt
theorem inner_at {a b o : List Nat} {L i k c : Nat} (ha : Ok a) (hb : Ok b) (h : Inner a b o L i k c) (hi : i < a.length) (hk : k < b.length) (hr : i + k < o.length) {x y z : Nat} (hx : x = a[i]) (hy : y = b[k]) (hz : z = o[i + k]) :
    Inner a b (o.set (i + k) ((z + c + x * y) % B)) L i (k + 1) ((z + c + x * y) / B) ∧ x < B ∧ y < B ∧ z < B ∧ c < B := by
  subst hx; subst hy; subst hz
  refine ⟨h.step ha hb hr (by rw [at_eq hi, at_eq hk]), ha.get _ _, hb.get _ _, h.ok.get _ _, h.cB⟩
theorem inner_past {a b o : List Nat} {L i k c : Nat} (ha : Ok a) (hb : Ok b) (h : Inner a b o L i k c) (hk : b.length ≤ k) (hr : i + k < o.length) {z : Nat} (hz : z = o[i + k]) :
    Inner a b (o.set (i + k) ((z + c) % B)) L i (k + 1) ((z + c) / B) ∧ z < B ∧ c < B := by
  subst hz
  refine ⟨h.step ha hb hr (by rw [at_ge hk]; simp), h.ok.get _ _, h.cB⟩
theorem prod_cast (x y z c : Nat) : (((z + c + x * y) % B : Nat) : Int) = ((z : Int) + (c : Int) + (x : Int) * (y : Int)) % 1000000000 ∧ (((z + c + x * y) / B : Nat) : Int) = ((z : Int) + (c : Int) + (x : Int) * (y : Int)) / 1000000000 := by
  have e : ((B : Nat) : Int) = 1000000000 := rfl
  rw [Int.natCast_emod, Int.natCast_ediv, Int.natCast_add, Int.natCast_add, Int.natCast_mul, e]
  exact ⟨rfl, rfl⟩
theorem sum_cast (z c : Nat) : (((z + c) % B : Nat) : Int) = ((z : Int) + (c : Int)) % 1000000000 ∧ (((z + c) / B : Nat) : Int) = ((z : Int) + (c : Int)) / 1000000000 := by
  have e : ((B : Nat) : Int) = 1000000000 := rfl
  rw [Int.natCast_emod, Int.natCast_ediv, Int.natCast_add, e]
  exact ⟨rfl, rfl⟩
theorem prod_le {x y : Nat} (hx : x < B) (hy : y < B) : 0 ≤ (x : Int) * (y : Int) ∧ (x : Int) * (y : Int) ≤ 999999998000000001 := by
  have h1 : x * y ≤ (B - 1) * (B - 1) := Nat.mul_le_mul (by omega) (by omega)
  have h2 : (B - 1) * (B - 1) = 999999998000000001 := by decide
  have h3 : ((x * y : Nat) : Int) = (x : Int) * (y : Int) := Int.natCast_mul x y
  omega
set_option maxRecDepth 100000 in
set_option maxHeartbeats 1600000 in
theorem times_any (h : View) (w : World) (hs : Sub h w) (va vb : Value) (la lb : List Nat) (ha : Sl h (tN .u64) va la) (hb : Sl h (tN .u64) vb lb) (oka : Ok la) (okb : Ok lb) (hl : la.length + lb.length ≤ 17592186044416) :
    Calls Tryd.prog 87 #[va, vb] w (NatR w h (val la * val lb)) := by
  obtain ⟨A1, c1, rfl, q1, q2, s1⟩ := ha
  obtain ⟨A2, c2, rfl, q3, q4, s2⟩ := hb
  have hx := Ext.refl hs
  have HW0 := Aside.mk (show h w.heap.size = none from hs.none_ge (Nat.le_refl _))
  have HI := Aside.mk (fun (o : List Nat) (i k c : Nat) (hh : Inner la lb o (la.length + lb.length) i k c) => @inner_at la lb o _ i k c oka okb hh)
  have HP := Aside.mk (fun (o : List Nat) (i k c : Nat) (hh : Inner la lb o (la.length + lb.length) i k c) => @inner_past la lb o _ i k c oka okb hh)
  have HR := Aside.mk (fun (o : List Nat) (i k c : Nat) (hh : Inner la lb o (la.length + lb.length) i k c) => hh.room oka okb)
  have H0 := Aside.mk (Times.start la lb (la.length + lb.length))
  clear oka okb
  go_enter Tryd.func87, Tryd.ntmps87
  go_wp2_with (refine wpList_makeN (n := la.length + lb.length) (k := .u64) Tryd.underlying73 zL rfl rfl (by simp; rfl) (by simp; rfl) hl ?_; intro hr0)
  go_loopw [19] (fun i wr => ∃ (k : Nat) (o : List Nat), k ≤ la.length ∧ i = .int .i64 k ∧ Ext w h wr h ∧ RowAt wr w.heap.size 75 .u64 o ∧ Aside (Times la lb o (la.length + lb.length) k)) (fun i _ => la.length - (intOf i).toNat)
  case atStart => exact ⟨0, _, Nat.zero_le _, rfl, hx.alloc _, hr0, H0⟩
  case round =>
    clear hr0 hx
    obtain ⟨i, o, hi, rfl, hx, hr, HT⟩ := hrel
    by_cases hlt : i < la.length
    · obtain ⟨b1, o1, x, hx', rfl, e1, r1⟩ := limb_at s1 hx.sub i hlt
      have HX := Aside.mk hx'
      have hxr := r1.2
      clear hx' r1
      go_wp2
      go_loopw [8, 9] (fun cc kk wr => ∃ (k c : Nat) (o : List Nat), cc = .int .u64 c ∧ kk = .int .i64 k ∧ Ext w h wr h ∧ RowAt wr w.heap.size 75 .u64 o ∧ Aside (Inner la lb o (la.length + lb.length) i k c)) (fun _ kk _ => la.length + lb.length - (intOf kk).toNat)
      case atStart => exact ⟨0, 0, o, rfl, rfl, hx, hr, ⟨HT.out.inner⟩⟩
      case round =>
        clear HT hr hx e1 o
        obtain ⟨k, c, o, rfl, rfl, hx, hr, HH⟩ := hrel
        have hol := HH.out.len
        have HOL := Aside.mk hol
        have hcB := HH.out.cB
        rw [Nt.B_eq] at hcB
        by_cases hk : k < lb.length
        · have hrm := HR.out o i k c HH.out hlt (Nat.le_refl _) (.inl hk)
          have hik : i + k < o.length := by omega
          obtain ⟨b2, o2, y, hy, rfl, e2, r2⟩ := limb_at s2 hx.sub k hk
          obtain ⟨z, hz⟩ : ∃ z, z = o[i + k] := ⟨_, rfl⟩
          obtain ⟨g1, g2, g3, g4, g5⟩ := HI.out o i k c HH.out hlt hk hik HX.out hy hz
          have e3 := hr.cell hik
          rw [← hz] at e3
          have hf := hr.frozen (i + k)
          have hsz := hr.lt
          have GN := Aside.mk g1
          have hs5 := hr.set (i + k) ((z + c + x * y) % B) hik
          obtain ⟨p1, p2⟩ := prod_cast x y z c
          obtain ⟨p3, p4⟩ := prod_le g2 g3
          rw [p1] at hs5
          rw [Nt.B_eq] at g2 g3 g4
          have HS5 := Aside.mk hs5
          have P2 := Aside.mk p2
          clear hy hz g1 g5 p1 p2 hs5 r2 hol hxr
          go_wp2
          have hx5 : Ext w h (wr.setCell ⟨w.heap.size, i + k, none⟩ (.int .u64 (((z : Int) + (c : Int) + (x : Int) * (y : Int)) % 1000000000))) h := hx.setCell (Nat.le_refl _) HW0.out _
          go_roundw
          case rel => exact ⟨k + 1, (z + c + x * y) / B, _, by rw [P2.out], by simp, hx5, HS5.out, GN⟩
          case measure => simp [intOf] <;> omega
        · by_cases hc : 0 < c
          · have hrm := HR.out o i k c HH.out hlt (Nat.le_refl _) (.inr hc)
            have hik : i + k < o.length := by omega
            obtain ⟨z, hz⟩ : ∃ z, z = o[i + k] := ⟨_, rfl⟩
            obtain ⟨g1, g4, g5⟩ := HP.out o i k c HH.out (by omega) hik hz
            have e3 := hr.cell hik
            rw [← hz] at e3
            have hf := hr.frozen (i + k)
            have hsz := hr.lt
            have GN := Aside.mk g1
            have hs5 := hr.set (i + k) ((z + c) % B) hik
            obtain ⟨p1, p2⟩ := sum_cast z c
            rw [p1] at hs5
            rw [Nt.B_eq] at g4
            have HS5 := Aside.mk hs5
            have P2 := Aside.mk p2
            clear hz g1 g5 p1 p2 hs5 hol hxr
            go_wp2
            have hx5 : Ext w h (wr.setCell ⟨w.heap.size, i + k, none⟩ (.int .u64 (((z : Int) + (c : Int)) % 1000000000))) h := hx.setCell (Nat.le_refl _) HW0.out _
            go_roundw
            case rel => exact ⟨k + 1, (z + c) / B, _, by rw [P2.out], by simp, hx5, HS5.out, GN⟩
            case measure => simp [intOf] <;> omega
          · have : c = 0 := by omega
            subst this
            have GN := Aside.mk (HH.out.done (by omega))
            clear hol hcB
            go_wp2
            go_roundw
            case rel => exact ⟨i + 1, o, by omega, by simp, hx, hr, GN⟩
            case measure => simp [intOf] <;> omega
    · have hil : i = la.length := by omega
      subst hil
      have hol := HT.out.len
      obtain ⟨h', x', l', s', _⟩ := hr.publish hx (Nat.le_refl _) HW0.out (by omega) (u64_of_ok HT.out.ok)
      have S := Aside.mk (s' (la.length + lb.length) (by omega) (by omega))
      rw [hol] at S
      have X := Aside.mk x'
      have D := Aside.mk HT.out.done
      clear hr hol s' l' x' hx
      go_wp2_with (go_at_call 89; refine (trim_any h' wr X.out.sub _ o S.out).mono ?_; rintro e w' ⟨r, rfl, rfl, s2⟩)
      go_ret
      exact NatR.of X.out (by unfold IsNat; rw [← D.out]; exact s2)
end Go.Proofs.YtaakpcmflladaaaDoor
