/- value's fractions as ratios; RatioOf. -/
import Derived.Test.YtaakpcmflladaaaDoorDec1
set_option linter.all false
namespace Go.Proofs.YtaakpcmflladaaaDoor
open Go.RowKit Hv Go.Proofs Nt
/-- A ratio's texts, and the error. -/
def ratN (neg : Bool) (n d : Nat) : (List UInt8 × List UInt8) × Int :=
  if 2000 < (decL (n / Nat.gcd n d)).length ∨ 2000 < (decL (d / Nat.gcd n d)).length then (([], []), 2)
  else ((if neg && decide (n / Nat.gcd n d ≠ 0) then 45 :: decL (n / Nat.gcd n d) else decL (n / Nat.gcd n d), decL (d / Nat.gcd n d)), 0)
def ratV (r : (List UInt8 × List UInt8) × Int) : Value := .tuple #[.agg #[.string (bS r.1.1), .string (bS r.1.2)], .int .i64 r.2]
def RatR (w : World) (r : (List UInt8 × List UInt8) × Int) (e : Ending) (w' : World) : Prop := e = .returned (ratV r) ∧ Below w.heap.size w w'
theorem RatR.of {w w' : World} {r : (List UInt8 × List UInt8) × Int} {a b : List UInt8} {f : Int} (h : r = ((a, b), f)) (hb : Below w.heap.size w w') : RatR w r (.returned (.tuple #[.agg #[.string ⟨a.toArray⟩, .string ⟨b.toArray⟩], .int .i64 f])) w' := ⟨by rw [h]; rfl, hb⟩
set_option maxRecDepth 100000 in
set_option maxHeartbeats 1600000 in
theorem ratio_any (h : View) (w : World) (hs : Sub h w) (ht : TabP w) (neg : Bool) (vn vd : Value) (n d : Nat) (hn : IsNat h vn n) (hd : IsNat h vd d) (h0 : d ≠ 0) (hl : (limbs n).length ≤ 8796093022208) (hld : (limbs d).length ≤ 8796093022208) :
    Calls Tryd.prog 26 #[.agg #[.bool neg, vn, vd]] w (RatR w (ratN neg n d)) := by
  have hx := Ext.refl hs
  have LW := Aside.mk (fun (W : World) (hsW : Sub h W) => lowest_any h W hsW neg vn vd n d hn hd h0 hl hld)
  unfold LowR at LW
  have DA := Aside.mk (fun (vw : View) (W : World) (v : Value) (hsW : Sub vw W) (htW : TabP W) (hv : IsNat vw v (n / Nat.gcd n d)) => digits_any vw W hsW htW v _ hv (len_div hl))
  have DB := Aside.mk (fun (vw : View) (W : World) (v : Value) (hsW : Sub vw W) (htW : TabP W) (hv : IsNat vw v (d / Nat.gcd n d)) => digits_any vw W hsW htW v _ hv (len_div hld))
  obtain ⟨nb, hnb⟩ : ∃ nb, nb = (neg && decide (n / Nat.gcd n d ≠ 0)) := ⟨_, rfl⟩
  obtain ⟨R, hR⟩ : ∃ R, R = ratN neg n d := ⟨_, rfl⟩
  rw [← hR]
  unfold ratN at hR
  rw [← hnb] at LW hR
  clear hnb
  unfold DigR bS at DA DB
  generalize n / Nat.gcd n d = p at *
  generalize d / Nat.gcd n d = q at *
  obtain ⟨An, cn, rfl, _, _⟩ := isNat_sl hn
  obtain ⟨Ad, cd, rfl, _, _⟩ := isNat_sl hd
  generalize hD : decL p = X at *
  generalize hE : decL q = Y at *
  clear hD hE
  have HR := Aside.mk hR
  clear hR
  have HB0 := Aside.mk (hs.none_ge (Nat.le_refl w.heap.size))
  have HB1 := Aside.mk (hs.none_ge (Nat.le_succ w.heap.size))
  have HX := Aside.mk hx
  have HT := Aside.mk ht
  clear hx ht hn hd
  go_enter Tryd.func26, Tryd.ntmps26
  go_wp2_with fail
  refine (LW.out _ ((HX.out.sub.alloc _).alloc _)).mono ?_
  rintro e w1 ⟨h1, v1, v2, rfl, x1, i1, i2⟩
  obtain ⟨Ap, cp, rfl, _, _⟩ := isNat_sl i1
  obtain ⟨Aq, cq, rfl, _, _⟩ := isNat_sl i2
  have y1 := ((HX.out.alloc _).alloc _).trans x1
  have b1 := ((BoxAt.new w #[.bool neg, .slice An (limbs n).length cn, .slice Ad (limbs d).length cd] 78).alloc (.cells #[.string ⟨#[]⟩, .string ⟨#[]⟩] 25 (0, 0))).below x1.below
  have b2 := (BoxAt.new (w.alloc (.cells #[.bool neg, .slice An (limbs n).length cn, .slice Ad (limbs d).length cd] 78 (0, 0))) #[.string ⟨#[]⟩, .string ⟨#[]⟩] 25).below x1.below
  rw [World.size_alloc] at b2
  have n0 : h1 w.heap.size = none := (x1.old _ (by simp; omega)).trans HB0.out
  have n1 : h1 (w.heap.size + 1) = none := (x1.old _ (by simp)).trans HB1.out
  have f0 := b1.frozen 0
  have f1 := b1.frozen 1
  have f2 := b1.frozen 2
  have c0 := b1.cell 0
  have c1 := b1.cell 1
  have c2 := b1.cell 2
  simp only [List.getElem?_toArray, List.getElem?_cons_zero, List.getElem?_cons_succ] at c0 c1 c2
  have hb2 : w.heap.size + 1 < w1.heap.size := b2.lt
  have bb1 := Aside.mk (((b1.set 0 (.bool nb)).set 1 (.slice Ap (limbs p).length cp)).set 2 (.slice Aq (limbs q).length cq))
  have bb2 := Aside.mk (((b2.far (p := ⟨w.heap.size, 0, none⟩) (by simp) (.bool nb)).far (p := ⟨w.heap.size, 1, none⟩) (by simp) (.slice Ap (limbs p).length cp)).far (p := ⟨w.heap.size, 2, none⟩) (by simp) (.slice Aq (limbs q).length cq))
  have yy := Aside.mk (((y1.setCell (p := ⟨w.heap.size, 0, none⟩) (Nat.le_refl _) n0 (.bool nb)).setCell (p := ⟨w.heap.size, 1, none⟩) (Nat.le_refl _) n0 (.slice Ap (limbs p).length cp)).setCell (p := ⟨w.heap.size, 2, none⟩) (Nat.le_refl _) n0 (.slice Aq (limbs q).length cq))
  have I1 := Aside.mk i1
  have I2 := Aside.mk i2
  clear x1 b1 b2 n0 n1 i1 i2 y1
  go_wp2_with fail
  revert yy bb1 bb2
  generalize ((w1.setCell ⟨w.heap.size, 0, none⟩ (.bool nb)).setCell ⟨w.heap.size, 1, none⟩ (.slice Ap (limbs p).length cp)).setCell ⟨w.heap.size, 2, none⟩ (.slice Aq (limbs q).length cq) = W1
  intro bb1 bb2 yy
  simp only [List.setIfInBounds_toArray, List.set_cons_zero, List.set_cons_succ] at bb1
  have k1 : W1.drew.cell? ⟨w.heap.size, 1, none⟩ = some (.slice Ap (limbs p).length cp) := bb1.out.drew.cell 1
  have k2 : W1.drew.cell? ⟨w.heap.size, 2, none⟩ = some (.slice Aq (limbs q).length cq) := bb1.out.drew.cell 2
  have CA := Aside.mk (DA.out h1 W1.drew _ yy.out.drew.sub (HT.out.below yy.out.drew.below) I1.out)
  clear c0 c1 c2 f0 f1 f2
  refine wp_region_mix (fun W => W.cell? ⟨w.heap.size, 1, none⟩ = some (.slice Ap (limbs p).length cp) ∧ W.cell? ⟨w.heap.size, 2, none⟩ = some (.slice Aq (limbs q).length cq)) [2, 5] 8 (by kernel_rfl) (by kernel_rfl) (by decide) ⟨k1, k2⟩ ?_
  show wpMix _ _ _ _ _ [0, 1, 2, 3, 4, 5, 6, 7] _ _
  iterate 2
    refine mix_e rfl rfl rfl ?_
    apply Exists.intro
    constructor
    · rintro W ⟨q0, q1⟩
      go_simp
      rfl
    simp only [Act.put, List.setIfInBounds_toArray, List.set_cons_zero, List.set_cons_succ]
  refine mix_w rfl rfl rfl ?_
  go_wp2_with fail
  refine CA.out.mono ?_
  rintro e W2 ⟨rfl, e2⟩
  have bb3 := Aside.mk (bb1.out.drew.below e2)
  have bb4 := Aside.mk (bb2.out.drew.below e2)
  have y2 := Aside.mk (yy.out.drew.below' e2)
  have k3 : W2.cell? ⟨w.heap.size, 1, none⟩ = some (.slice Ap (limbs p).length cp) := bb3.out.cell 1
  have k4 : W2.cell? ⟨w.heap.size, 2, none⟩ = some (.slice Aq (limbs q).length cq) := bb3.out.cell 2
  have CB := Aside.mk (DB.out h1 W2 _ y2.out.sub (HT.out.below y2.out.below) I2.out)
  clear e2 k1 k2 bb1 bb2 yy CA
  go_wp2
  refine ⟨rfl, ⟨k3, k4⟩, ?_⟩
  iterate 2
    refine mix_e rfl rfl rfl ?_
    apply Exists.intro
    constructor
    · rintro W ⟨q0, q1⟩
      go_simp
      rfl
    simp only [Act.put, List.setIfInBounds_toArray, List.set_cons_zero, List.set_cons_succ]
  refine mix_w rfl rfl rfl ?_
  go_wp2_with fail
  refine CB.out.mono ?_
  rintro e W3 ⟨rfl, e3⟩
  have bb5 := Aside.mk (bb3.out.below e3)
  have bb6 := Aside.mk (bb4.out.below e3)
  have y3 := Aside.mk (y2.out.below' e3)
  have k5 : W3.cell? ⟨w.heap.size, 1, none⟩ = some (.slice Ap (limbs p).length cp) := bb5.out.cell 1
  have k6 : W3.cell? ⟨w.heap.size, 2, none⟩ = some (.slice Aq (limbs q).length cq) := bb5.out.cell 2
  clear e3 k3 k4 bb3 bb4 y2 CB
  go_wp2
  refine ⟨rfl, ⟨k5, k6⟩, ?_⟩
  iterate 2
    refine mix_e rfl rfl rfl ?_
    apply Exists.intro
    constructor
    · rintro W ⟨q0, q1⟩
      go_simp
      rfl
    simp only [Act.put, List.setIfInBounds_toArray, List.set_cons_zero, List.set_cons_succ]
  refine mix_nil (wpList_nil (onlyN ?_))
  have c0 : W3.cell? ⟨w.heap.size, 0, none⟩ = some (.bool nb) := bb5.out.cell 0
  have e0 : W3.cell? ⟨w.heap.size + 1, 0, none⟩ = some (.string ⟨#[]⟩) := bb6.out.cell 0
  have e1 : W3.cell? ⟨w.heap.size + 1, 1, none⟩ = some (.string ⟨#[]⟩) := bb6.out.cell 1
  have f0 := bb6.out.frozen 0
  have f1 := bb6.out.frozen 1
  have hb6 := bb6.out.lt
  have B4 : ∀ u v, Below w.heap.size w ((W3.setCell ⟨w.heap.size + 1, 0, none⟩ u).setCell ⟨w.heap.size + 1, 1, none⟩ v) := fun u v => (y3.out.below.setCell (p := ⟨w.heap.size + 1, 0, none⟩) (Nat.le_succ _) u).setCell (p := ⟨w.heap.size + 1, 1, none⟩) (Nat.le_succ _) v
  have B5 := Aside.mk B4
  clear k5 k6 B4 bb5 bb6
  by_cases hx2 : 2000 < X.length
  · have E : Aside (R = (([], []), 2)) := ⟨by rw [HR.out, if_pos (.inl hx2)]⟩
    go_wp2
    refine bodyPost_ret (v := .tuple #[.agg #[.string ⟨#[]⟩, .string ⟨#[]⟩], .int .i64 2]) (by simp [results, Tryd.results26, go_sem, e0, e1]) rfl ?_
    exact RatR.of E.out (B5.out _ _)
  · by_cases hy2 : 2000 < Y.length
    · have E : Aside (R = (([], []), 2)) := ⟨by rw [HR.out, if_pos (.inr hy2)]⟩
      go_wp2
      refine bodyPost_ret (v := .tuple #[.agg #[.string ⟨#[]⟩, .string ⟨#[]⟩], .int .i64 2]) (by simp [results, Tryd.results26, go_sem, e0, e1]) rfl ?_
      exact RatR.of E.out (B5.out _ _)
    · have hno : ¬ (2000 < X.length ∨ 2000 < Y.length) := by omega
      cases nb
      · have E : Aside (R = ((X, Y), 0)) := ⟨by rw [HR.out, if_neg hno]; rfl⟩
        clear hno
        go_wp2
        refine bodyPost_ret (v := .tuple #[.agg #[.string ⟨X.toArray⟩, .string ⟨Y.toArray⟩], .int .i64 0]) (by simp [results, Tryd.results26, go_sem, e0, e1]) rfl ?_
        exact RatR.of E.out (B5.out _ _)
      · have E : Aside (R = ((45 :: X, Y), 0)) := ⟨by rw [HR.out, if_neg hno]; rfl⟩
        clear hno
        go_wp2
        refine bodyPost_ret (v := .tuple #[.agg #[.string (ByteArray.mk #[45] ++ ByteArray.mk X.toArray), .string ⟨Y.toArray⟩], .int .i64 0]) (by simp [results, Tryd.results26, go_sem, e0, e1]) rfl ?_
        rw [ba_cons]
        exact RatR.of E.out (B5.out _ _)
end Go.Proofs.YtaakpcmflladaaaDoor
