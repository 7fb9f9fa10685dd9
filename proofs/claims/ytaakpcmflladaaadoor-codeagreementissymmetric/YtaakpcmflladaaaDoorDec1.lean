/- value.padded, the digits of a natural. -/
import Derived.Test.YtaakpcmflladaaaDoorRat1
import Derived.Test.YtaakpcmflladaaaDoorBld
import Derived.Lib.AppendIntMem
set_option linter.all false
namespace Go.Proofs.YtaakpcmflladaaaDoor
open Go.RowKit Hv Go.Proofs Nt
/-- The library's table of powers of ten holds what it was laid with. -/
def TabP (w : World) : Prop := Lib.TabIs Tryd.prog w "internal/strconv.uint64pow10" .u64 Lib.pow10Tab
theorem TabP.below {w w' : World} (h : TabP w) (hb : Below w.heap.size w w') : TabP w' := by
  unfold TabP Lib.TabIs World.var? at h ⊢
  cases hg : Tryd.prog.globalNamed "internal/strconv.uint64pow10" with
  | none => rw [hg] at h; cases h
  | some g =>
    rw [hg] at h
    simp only [Option.bind_some] at h ⊢
    have hlt : g < w.heap.size := by
      rcases Nat.lt_or_ge g w.heap.size with h' | h'
      · exact h'
      · rw [Array.getElem?_eq_none h'] at h; cases h
    rw [hb.block g hlt]
    exact h
theorem dec_eq (n : Nat) : Lib.decDigits n = decL n := by
  induction n using Nat.strongRecOn with
  | ind n ih =>
    rw [Lib.decDigits]
    by_cases h : n < 10
    · rw [dif_pos h, decL_small h]; unfold dg; rw [Nat.mod_eq_of_lt h]
    · rw [dif_neg h, decL_big h, ih _ (by omega)]; rfl
theorem itoa_nat (n : Nat) : Lib.itoa (n : Int) = decL n := by
  unfold Lib.itoa
  rw [if_neg (by omega), Int.toNat_natCast, dec_eq]
def bS (l : List UInt8) : ByteArray := ⟨l.toArray⟩
theorem ba_app (a b : List UInt8) : (ByteArray.mk a.toArray ++ ByteArray.mk b.toArray) = ByteArray.mk (a ++ b).toArray := by
  apply ByteArray.ext
  rw [ByteArray.data_append]
  simp
theorem ba_cons (a : UInt8) (b : List UInt8) : (ByteArray.mk #[a] ++ ByteArray.mk b.toArray) = ByteArray.mk (a :: b).toArray := ba_app [a] b
theorem ba_size (a : List UInt8) : (ByteArray.mk a.toArray).size = a.length := by simp [ByteArray.size]
theorem pad_rep {x : Nat} : ∀ {k : Nat}, (decL x).length ≤ k → pad k x = List.replicate (k - (decL x).length) 48 ++ decL x
  | 0, h => absurd (List.length_pos_iff.2 (decL_ne x)) (by omega)
  | k + 1, h => by
    by_cases hs : x < 10
    · rw [pad, decL_small hs, Nat.div_eq_of_lt hs, pad_zero]; rfl
    · have e := decL_big hs
      have hl : (decL x).length = (decL (x / 10)).length + 1 := by rw [e]; simp
      rw [pad, pad_rep (by omega : (decL (x / 10)).length ≤ k), hl, e, List.append_assoc]
      congr 2
      omega
set_option maxRecDepth 100000 in
set_option maxHeartbeats 800000 in
theorem padded_any (w : World) (ht : TabP w) (x : Nat) (hx : x < B) : Calls Tryd.prog 66 #[.int .i64 (x : Int), .int .i64 9] w fun e w' => e = .returned (.string (bS (pad 9 x))) ∧ Below w.heap.size w w' := by
  have hxB : x < 1000000000 := hx
  have CI := Aside.mk (Tryd.strconv_Itoa (x : Int) (by omega) (by omega) w ht)
  rw [itoa_nat] at CI
  have hl : (decL x).length ≤ 9 := dec_len.2 (by show x < 10 ^ 9; omega)
  have HR := Aside.mk (@pad_rep x 9 hl)
  generalize decL x = D at *
  generalize pad 9 x = R at *
  go_enter Tryd.func66, Tryd.ntmps66
  go_wp2_with (go_at_call 31; refine CI.out.mono ?_; rintro e w1 ⟨rfl, k, os, rfl⟩)
  have BL := Aside.mk (Lib.below_grow w.heap.size w (Nat.le_refl _) k os)
  generalize Go.Sort.grow (w.drewN k) os = w1 at *
  go_loop [5] (fun s => ∃ l : List UInt8, s = .string ⟨l.toArray⟩ ∧ l.length ≤ 9 ∧ Aside (l = List.replicate (l.length - D.length) 48 ++ D ∧ D.length ≤ l.length)) (fun s => 9 - (match s with | .string b => b.size | _ => 0))
  case atStart => exact ⟨D, rfl, hl, ⟨by simp, Nat.le_refl _⟩⟩
  case round =>
    obtain ⟨l, rfl, hl9, HL⟩ := hrel
    by_cases hlt : l.length < 9
    · have HN : Aside (48 :: l = List.replicate ((48 :: l).length - D.length) 48 ++ D ∧ D.length ≤ (48 :: l).length) := ⟨by
        obtain ⟨h1, h2⟩ := HL.out
        have e : (48 :: l).length - D.length = (l.length - D.length) + 1 := by rw [List.length_cons]; omega
        refine ⟨?_, by rw [List.length_cons]; omega⟩
        rw [e, List.replicate_succ, List.cons_append, ← h1]⟩
      go_wp2
      rw [ba_cons]
      refine ⟨⟨48 :: l, rfl, by rw [List.length_cons]; omega, HN⟩, ?_⟩
      simp only [ba_size, List.length_cons]
      omega
    · have e9 : l.length = 9 := by omega
      have E : Aside (l = R) := ⟨by
        obtain ⟨h1, h2⟩ := HL.out
        rw [HR.out, ← e9]; exact h1⟩
      clear e9
      go_wp2
      go_ret
      exact ⟨by rw [E.out]; rfl, BL.out⟩
theorem val_reverse_pad : ∀ (l : List Nat), Ok l → (l.reverse.flatMap (pad 9)) = pad (9 * l.length) (val l)
  | [], _ => rfl
  | x :: l, h => by
    rw [List.reverse_cons, List.flatMap_append, val_reverse_pad l h.tail, List.length_cons, Nat.mul_succ, val, pad_limb _ _ _ h.head]
    simp
theorem flat_take (l : List Nat) (k : Nat) (hk : k < l.length) : ((l.drop k).reverse.flatMap (pad 9)) = ((l.drop (k + 1)).reverse.flatMap (pad 9)) ++ pad 9 l[k] := by
  rw [List.drop_eq_getElem_cons hk, List.reverse_cons, List.flatMap_append]; simp
def DigR (w : World) (n : Nat) (e : Ending) (w' : World) : Prop := e = .returned (.string (bS (decL n))) ∧ Below w.heap.size w w'
theorem flat_len (l : List Nat) : (l.flatMap (pad 9)).length = 9 * l.length := by
  induction l with
  | nil => rfl
  | cons x l ih => rw [List.flatMap_cons, List.length_append, pad_len, ih, List.length_cons]; omega
theorem pow_eq (k : Nat) : (10 : Nat) ^ (9 * k) = B ^ k := by rw [Nat.pow_mul]; rfl
set_option maxRecDepth 100000 in
set_option maxHeartbeats 1600000 in
theorem digits_any (h : View) (w : World) (hs : Sub h w) (ht : TabP w) (v : Value) (n : Nat) (hv : IsNat h v n) (hl : (limbs n).length ≤ 8796093022208) : Calls Tryd.prog 41 #[v] w (DigR w n) := by
  obtain ⟨A, c, rfl, q1, q2, s1⟩ := hv
  by_cases h0 : n = 0
  · subst h0
    have e : decL 0 = [48] := dec_zero
    unfold DigR
    rw [e]
    simp only [limbs_zero, List.length_nil]
    clear s1 q1 hl e
    go_enter Tryd.func41, Tryd.ntmps41
    go_wp2
    go_ret
    exact ⟨rfl, Below.refl _ _⟩
  · have hp : 0 < (limbs n).length := List.length_pos_iff.2 (limbs_ne h0)
    have hx := Ext.refl hs
    have HT := Aside.mk ht
    have HF := Aside.mk (show Lib.trimLeftB ((limbs n).reverse.flatMap (pad 9)) 48 = decL n by
      rw [val_reverse_pad _ (ok_limbs n), val_limbs]
      exact strip_pad h0 (by rw [pow_eq]; exact limbs_len.1 (Nat.le_refl _)))
    have OKL := Aside.mk (ok_limbs n)
    have HFT := Aside.mk (flat_take (limbs n))
    unfold DigR
    generalize decL n = D at *
    generalize limbs n = l at *
    have hlz : ((l.length : Int) == 0) = false := by rw [beq_eq_false_iff_ne]; omega
    clear ht h0
    go_enter Tryd.func41, Tryd.ntmps41
    go_wp2
    go_loopw [4] (fun i wr => ∃ (k : Nat) (i0 : Int), k ≤ l.length ∧ i = .int .i64 i0 ∧ Aside (i0 = (k : Int) - 1) ∧ Below w.heap.size w wr ∧ Lib.IsBuilder 52 5 w.heap.size w.heap.size (Lib.byteCells ((l.drop k).reverse.flatMap (pad 9))) wr) (fun i _ => ((intOf i) + 1).toNat)
    case atStart =>
      refine ⟨l.length, _, Nat.le_refl _, rfl, ⟨rfl⟩, (Below.refl _ _).alloc (Nat.le_refl _) _, .inl ⟨Nat.le_refl _, .slice none 0 0, BoxAt.new w _ _, ?_, by simp [Value.ownBlock]⟩⟩
      rw [List.drop_of_length_le (Nat.le_refl _)]
      exact ⟨rfl, .inl ⟨rfl, rfl⟩⟩
    case round =>
      obtain ⟨k, i0, hk, rfl, hi, hb, hB⟩ := hrel
      have HB := Aside.mk hB
      have hsz := hb.size
      clear hB
      rcases k with _ | k
      · have : i0 = -1 := by have := hi.out; omega
        subst this
        clear hi
        have CS := Aside.mk (Tryd.Builder_String_any w.heap.size w.heap.size _ wr HB.out hsz)
        rw [List.drop_zero] at CS
        have TL := Aside.mk (fun (W : World) => Tryd.strings_TrimLeft_one (ByteArray.mk (l.reverse.flatMap (pad 9)).toArray) 48 (by decide) W)
        rw [show (ByteArray.mk (l.reverse.flatMap (pad 9)).toArray).data.toList = l.reverse.flatMap (pad 9) from by simp, HF.out] at TL
        go_wp2_with (first
          | (go_at_call 16; refine CS.out.mono ?_; rintro e w2 ⟨rfl, hb2⟩)
          | (go_at_call 33; refine (TL.out _).mono ?_; rintro e w3 ⟨rfl, rfl⟩))
        go_ret
        exact ⟨rfl, hb.trans hb2⟩
      · have : i0 = (k : Int) := by have := hi.out; omega
        subst this
        clear hi
        obtain ⟨b1, o1, x, hx', rfl, e1, r1⟩ := limb_at s1 (hs.below hb) k hk
        have hxB : x < 1000000000 := by rw [hx']; exact OKL.out.get _ _
        have HFk := Aside.mk (HFT.out k hk)
        rw [← hx'] at HFk
        have CP := Aside.mk (padded_any wr (HT.out.below hb) x hxB)
        have hfl : ((l.drop (k + 1)).reverse.flatMap (pad 9)).length ≤ 9 * l.length := by
          rw [flat_len, List.length_reverse, List.length_drop]; omega
        have hbl : (bS (pad 9 x)).size = 9 := by unfold bS; rw [ba_size, pad_len]
        have CW := Aside.mk (fun (W : World) (hbW : Below wr.heap.size wr W) (hBW : Lib.IsBuilder 52 5 w.heap.size w.heap.size (Lib.byteCells ((l.drop (k + 1)).reverse.flatMap (pad 9))) W) => bld_write w.heap.size w.heap.size _ (bS (pad 9 x)) W hBW (by rw [Lib.byteCells_length, hbl]; omega) (Nat.le_trans hsz hbW.size))
        clear hx' r1 hbl hfl
        go_wp2_with (first
          | (go_at_call 66; refine CP.out.mono ?_; rintro e w2 ⟨rfl, hb2⟩; have hB2 := bld_below HB.out hb2)
          | (go_at_call 29; refine (CW.out _ hb2 hB2).mono ?_; rintro e w3 ⟨rfl, hB3, hb3⟩))
        have HB3 : Aside (Lib.IsBuilder 52 5 w.heap.size w.heap.size (Lib.byteCells ((l.drop k).reverse.flatMap (pad 9))) w3) := ⟨by
          rw [HFk.out, Lib.byteCells_append]
          exact .inr hB3⟩
        have B3 := Aside.mk ((hb.trans (hb2.mono hsz)).trans hb3)
        clear hB2 hB3 hb2 hb3
        go_roundw
        case rel => exact ⟨k, _, by omega, rfl, ⟨rfl⟩, B3.out, HB3.out⟩
        case measure => simp [intOf] <;> omega
end Go.Proofs.YtaakpcmflladaaaDoor
