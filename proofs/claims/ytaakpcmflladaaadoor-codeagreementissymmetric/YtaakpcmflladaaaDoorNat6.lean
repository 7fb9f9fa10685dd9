/- value's naturals: one step of the long division. -/
import Derived.Test.YtaakpcmflladaaaDoorNat5
set_option linter.all false
namespace Go.Proofs.YtaakpcmflladaaaDoor
open Go.RowKit Hv Go.Proofs Nt
/-- What a step leaves: the quotient's limb, and the rest in u's place. -/
def StepR (w : World) (g : Nat) (a u b lv : List Nat) (e : Ending) (w' : World) : Prop :=
  ∃ u', e = .returned (.int .u64 ((val u / val lv : Nat) : Int)) ∧ Turn w g w' ∧ RowAt w' g 75 .u64 (a ++ u' ++ b) ∧ Ok u' ∧ u'.length = u.length ∧ val u' = val u % val lv
theorem StepR.of {w w' : World} {g : Nat} {a u b lv u' : List Nat} {q : Int} (hq : q = ((val u / val lv : Nat) : Int)) (t : Turn w g w') (r : RowAt w' g 75 .u64 (a ++ u' ++ b)) (ok : Ok u') (hl : u'.length = u.length) (hv : val u' = val u % val lv) : StepR w g a u b lv (.returned (.int .u64 q)) w' :=
  ⟨u', by rw [hq], t, r, ok, hl, hv⟩
/-- A guess. -/
structure Guess (top next v1 v2 q g : Nat) : Prop where
  lo : q ≤ g
  hi : g ≤ B - 1
  le : g * v1 ≤ top
theorem row_set2 {w : World} {g : Nat} {e : TypeId} {k : IntKind} {l : List Nat} (r : RowAt w g e k l) (i y : Nat) (v : Value) (hi : i < l.length) : RowAt ((w.setCell ⟨g, i, none⟩ v).setCell ⟨g, i, none⟩ (.int k (y : Int))) g e k (l.set i y) := by
  obtain ⟨cur, x, hl, hc⟩ := r
  refine ⟨_, (x.set i v).set i _, by simpa using hl, fun j hj => ?_⟩
  rw [List.length_set] at hj
  rw [Array.getElem?_setIfInBounds, List.getElem_set]
  by_cases e : i = j
  · subst e; simp; omega
  · rw [if_neg e, if_neg e, Array.getElem?_setIfInBounds, if_neg e, hc j hj]
theorem mid_set2 {w : World} {g : Nat} {e : TypeId} {k : IntKind} {a o b : List Nat} (r : RowAt w g e k (a ++ o ++ b)) (i y : Nat) (v : Value) (hi : i < o.length) :
    RowAt ((w.setCell ⟨g, a.length + i, none⟩ v).setCell ⟨g, a.length + i, none⟩ (.int k (y : Int))) g e k (a ++ o.set i y ++ b) := by
  rw [← set_mid a o b i y hi]
  exact row_set2 r _ y v (by simp; omega)
theorem take_lt {u v o : List Nat} {g b i s : Nat} (hv : Ok v) (hg : g < B) (h : Take u v o g b i) (hi : i < u.length) (hs : s = b + g * at_ v i) (hlt : u[i] < s % B) : Take u v (o.set i (u[i] + B - s % B)) g (s / B + 1) (i + 1) ∧ u[i] + B - s % B < B :=
  ⟨h.step hv hg hi hs (by have := Nat.mod_lt s B_pos; omega) (by omega) (by omega), by omega⟩
theorem take_ge {u v o : List Nat} {g b i s : Nat} (hu : Ok u) (hv : Ok v) (hg : g < B) (h : Take u v o g b i) (hi : i < u.length) (hs : s = b + g * at_ v i) (hlt : ¬ u[i] < s % B) : Take u v (o.set i (u[i] - s % B)) g (s / B + 0) (i + 1) :=
  h.step hv hg hi hs (by omega) (by have := hu.get i hi; omega) (by omega)
set_option maxRecDepth 100000 in
set_option maxHeartbeats 3200000 in
theorem step_any (vw : View) (w : World) (hs : Sub vw w) (g c m : Nat) (a u b lv : List Nat) (vv : Value) (hgn : vw g = none) (hr : RowAt w g 75 .u64 (a ++ u ++ b)) (hv : Sl vw (tN .u64) vv lv) (oku : Ok u) (okv : Ok lv)
    (hlv : lv.length = m + 2) (hlu : u.length = m + 3) (hc : m + 3 ≤ c) (hcb : c ≤ 9223372036854775807) (hj : a.length ≤ 9223372036854775807 - (m + 3)) (hlt : val u < B * val lv) (htop : 0 < lv[m + 1]) :
    Calls Tryd.prog 88 #[.slice (some ⟨g, a.length, none⟩) (m + 3) c, vv] w (StepR w g a u b lv) := by
  have hv0 := Aside.mk hv
  obtain ⟨A, cv, rfl, q1, q2, s1⟩ := hv
  obtain ⟨b1, o1, v1, hv1, rfl, e1, r1⟩ := limb_at s1 hs (m + 1) (by omega)
  obtain ⟨b2, o2, v2, hv2, hbb, e2, r2⟩ := limb_at s1 hs m (by omega)
  injection hbb with hbb
  injection hbb with hb1 hb2 _
  subst hb1; subst hb2
  have T := Top.of oku okv hlv hlu htop
  obtain ⟨u0, hu0⟩ : ∃ x, x = u[m + 2] := ⟨_, rfl⟩
  obtain ⟨u1, hu1⟩ : ∃ x, x = u[m + 1] := ⟨_, rfl⟩
  obtain ⟨u2, hu2⟩ : ∃ x, x = u[m] := ⟨_, rfl⟩
  have c0 := hr.cell_mid (i := m + 2) (by omega)
  have c1 := hr.cell_mid (i := m + 1) (by omega)
  have c2 := hr.cell_mid (i := m) (by omega)
  have l0 : u0 < B := by rw [hu0]; exact oku.get _ _
  have l1 : u1 < B := by rw [hu1]; exact oku.get _ _
  have l2 : u2 < B := by rw [hu2]; exact oku.get _ _
  have k1 : v1 < B := by rw [hv1]; exact okv.get _ _
  have k2 : v2 < B := by rw [hv2]; exact okv.get _ _
  rw [← hu0] at c0
  rw [← hu1] at c1
  rw [← hu2] at c2
  rw [← hv1, ← hv2, ← hu0, ← hu1, ← hu2] at T
  rw [← hv1] at htop
  have hvp : 0 < val lv := by
    have := T.vlo
    have h2 : 1 * 1 ≤ (v1 * B + v2) * B ^ m := Nat.mul_le_mul (by have := Nat.mul_le_mul_right B htop; have := B_pos; omega) (pow_pos m)
    omega
  have hq0 := T.first hlt
  obtain ⟨q, hq⟩ : ∃ q, q = val u / val lv := ⟨_, rfl⟩
  rw [← hq] at hq0
  have G0 : Guess (u0 * B + u1) u2 v1 v2 q (min ((u0 * B + u1) / v1) (B - 1)) := ⟨hq0, Nat.min_le_right _ _, Nat.le_trans (Nat.mul_le_mul_right _ (Nat.min_le_left _ _)) (Nat.div_mul_le_self _ _)⟩
  have GL := Aside.mk (fun (x : Nat) => @Top.less _ _ _ _ _ _ _ x T)
  have GN := Aside.mk (fun (x : Nat) => @Top.near _ _ _ _ _ _ _ x T)
  rw [← hq] at GL GN
  obtain ⟨tp, htp⟩ : ∃ tp, tp = u0 * B + u1 := ⟨_, rfl⟩
  rw [← htp] at G0 GL GN
  have htb : tp ≤ 1000000000000000000 := by
    have h2 := Nat.mul_le_mul_right B (show u0 ≤ B - 1 by omega)
    have h3 : (B - 1) * B = 999999999000000000 := by decide
    rw [Nt.B_eq] at l1
    omega
  have TM : Aside (∀ (W : World) (x : Nat), Sub vw W → x * v1 ≤ tp → x ≤ B - 1 → Calls Tryd.prog 105 #[.int .u64 (tp : Int), .int .u64 (x : Int), .slice (some ⟨b1, o1, none⟩) (m + 2) cv, .int .u64 (u2 : Int)] W fun e w' => e = .returned (.bool (muchB tp u2 x v1 v2)) ∧ W = w') := ⟨fun W x hsW h1 hx => by
    have key := much_any vw W hsW _ lv m tp x u2 hv0.out hlv (by rw [← hv1]; exact h1) (by have := B_pos; omega) okv (by omega) l2
    rw [← hv1, ← hv2, hlv] at key
    exact key⟩
  have T0 := Aside.mk (fun (x : Nat) => @Take.start u lv oku x)
  have TK := Aside.mk (fun (x : Nat) (hx : x < B) (o : List Nat) (bb i s : Nat) (ht : Take u lv o x bb i) (hi : i < u.length) (hs : s = bb + x * at_ lv i) => (⟨take_lt okv hx ht hi hs, take_ge oku okv hx ht hi hs, Take.small okv hx ht.bB i⟩ : (u[i] < s % B → _) ∧ (¬ u[i] < s % B → _) ∧ _))
  have TE := Aside.mk (fun (x : Nat) (o : List Nat) (ht : Take u lv o x 0 u.length) (hg : val u / val lv ≤ x) => ht.exact (by omega) hg hvp)
  have TO := Aside.mk (fun (x : Nat) (o : List Nat) (bb : Nat) (ht : Take u lv o x bb u.length) (h0 : 0 < bb) (hg : x ≤ val u / val lv + 1) => ht.over (by omega) h0 hg hvp (Nat.le_of_lt (Nat.lt_of_lt_of_le (val_lt okv) (Nat.pow_le_pow_right B_pos (by omega)))))
  rw [← hq] at TE TO
  have OKU := Aside.mk oku
  have OKV := Aside.mk okv
  have HQ := Aside.mk hq
  have HLV := Aside.mk hlv
  have HLU := Aside.mk hlu
  have HVL : Aside (∀ (W : World), Sub vw W → ∀ i, i < m + 2 → ∃ y, y = at_ lv i ∧ y < B ∧ W.cell? ⟨b1, o1 + i, none⟩ = some (.int .u64 (y : Int))) := ⟨fun W hsW i hi => by
    obtain ⟨b', o', y, hy, hb', e', _⟩ := limb_at s1 hsW i (by omega)
    injection hb' with hb'
    injection hb' with hb1 hb2 _
    subst hb1; subst hb2
    exact ⟨y, by rw [hy, at_eq], by rw [hy]; exact okv.get _ _, e'⟩⟩
  rw [hlv] at q1 ⊢
  have ew1 : IntKind.u64.wrap ((u0 : Int) * 1000000000) = (u0 : Int) * 1000000000 := by
    rw [Nt.B_eq] at l0
    exact u64_in _ (by omega) (by omega)
  have ew2 : IntKind.u64.wrap ((u0 : Int) * 1000000000 + (u1 : Int)) = (tp : Int) := by
    have : (u0 : Int) * 1000000000 + (u1 : Int) = (tp : Int) := by rw [htp, Nt.B_eq]; omega
    rw [this]
    exact u64_in _ (by omega) (by omega)
  have ei : IntKind.i64.wrap ((m : Int) + 2 - 1) = (m : Int) + 1 := by rw [IntKind.wrap_i64]; omega
  have en1 : ((m : Int) + 1).toNat = m + 1 := by omega
  have en2 : ((m : Int) + 2).toNat = m + 2 := by omega
  have hv1p : ((v1 : Int) == 0) = false := by rw [beq_eq_false_iff_ne]; omega
  have hv1q : ¬ v1 = 0 := by omega
  clear hv0 hv1 hv2 r1 r2 hu0 hu1 hu2 T hq0 hq htp hlt oku okv hlv hlu s1 hvp l0 l1 l2
  obtain ⟨g0, hg0⟩ : ∃ g0, g0 = tp / v1 := ⟨_, rfl⟩
  have hg0b : g0 ≤ 1000000000000000000 := by rw [hg0]; exact Nat.le_trans (Nat.div_le_self _ _) htb
  have eg : IntKind.u64.wrap ((tp : Int) / (v1 : Int)) = (g0 : Int) := by
    have : ((tp : Int) / (v1 : Int)) = (g0 : Int) := by rw [hg0, Int.natCast_ediv]
    rw [this]; exact u64_in _ (by omega) (by omega)
  rw [← hg0] at G0
  have G1 := Aside.mk G0
  clear hg0 G0
  have hmn : g0 ≤ 999999999 ∨ ¬ g0 ≤ 999999999 := by omega
  have FG : Aside ((g0 ≤ 999999999 → Guess tp u2 v1 v2 q g0) ∧ (¬ g0 ≤ 999999999 → Guess tp u2 v1 v2 q 999999999)) := ⟨by
    have := G1.out
    rw [Nt.B_eq] at this
    exact ⟨fun hh => by rwa [Nat.min_eq_left (by omega)] at this, fun hh => by rwa [Nat.min_eq_right (by omega)] at this⟩⟩
  clear G1
  go_enter Tryd.func88, Tryd.ntmps88
  go_wp2
  go_quiet (fail)
  clear ew1 ew2
  rcases hmn with hmn | hmn
  case' inl =>
    have G1 := Aside.mk (FG.out.1 hmn)
    go_wp2
  case' inr =>
    have G1 := Aside.mk (FG.out.2 hmn)
    go_wp2
  all_goals
    clear eg hmn FG hv1p hv1q
    go_loopw [7] (fun gs wr => ∃ (x n : Nat), gs = .int .u64 x ∧ wr = w.drewN n ∧ Aside (Guess tp u2 v1 v2 q x)) (fun gs _ => (intOf gs).toNat)
    case atStart => first | exact ⟨g0, _, rfl, rfl, G1⟩ | exact ⟨999999999, _, rfl, rfl, G1⟩
    case round =>
      clear G1
      obtain ⟨x, n, rfl, rfl, HG⟩ := hrel
      have hxB : x ≤ 999999999 := HG.out.hi
      obtain ⟨mb, hmb⟩ : ∃ mb, mb = muchB tp u2 x v1 v2 := ⟨_, rfl⟩
      have CT := Aside.mk (TM.out (w.drewN n) x (hs.drewN n) HG.out.le HG.out.hi)
      rw [← hmb] at CT
      have HM := Aside.mk hmb
      clear hmb
      have es2 : IntKind.i64.wrap ((m : Int) + 2 - 2) = (m : Int) := by rw [IntKind.wrap_i64]; omega
      by_cases hx0 : 0 < x
      case' pos =>
        cases mb
        rotate_left
        · have h1 : tp * B + u2 < x * (v1 * B + v2) := by have := HM.out; unfold muchB at this; simpa using this.symm
          have GN2 : Aside (Guess tp u2 v1 v2 q (x - 1)) := ⟨⟨by have := GL.out x h1; omega, by have := HG.out.hi; omega, Nat.le_trans (Nat.mul_le_mul_right _ (by omega)) HG.out.le⟩⟩
          have ex : ((x - 1 : Nat) : Int) = (x : Int) - 1 := by omega
          have EX := Aside.mk ex
          clear h1 ex
          go_wp2_with (go_at_call 105; refine CT.out.mono ?_; rintro e w' ⟨rfl, rfl⟩)
          go_roundw
          case rel => exact ⟨x - 1, n, by rw [EX.out], rfl, GN2⟩
          case measure => simp [intOf] <;> omega
        have F : Aside (x ≤ q + 1 ∧ q ≤ x) := ⟨GN.out x HG.out.hi (by have := HM.out; unfold muchB at this; have h2 := this.symm; simp at h2; omega), HG.out.lo⟩
        go_wp2_with (go_at_call 105; refine CT.out.mono ?_; rintro e w' ⟨rfl, rfl⟩)
      case' neg =>
        have F : Aside (x ≤ q + 1 ∧ q ≤ x) := ⟨by omega, HG.out.lo⟩
        go_wp2
      all_goals
        clear CT HM hx0 es2 HG
        have T1 := Aside.mk (T0.out x)
        have TKx := Aside.mk (TK.out x (by rw [Nt.B_eq]; omega))
        have TEx := Aside.mk (TE.out x)
        have TOx := Aside.mk (TO.out x)
        go_loopw [8, 9] (fun bb ii wr => ∃ (i br : Nat) (o : List Nat), bb = .int .u64 br ∧ ii = .int .i64 i ∧ i ≤ m + 3 ∧ Turn w g wr ∧ RowAt wr g 75 .u64 (a ++ o ++ b) ∧ Aside (Take u lv o x br i)) (fun _ ii _ => m + 3 - (intOf ii).toNat)
        case atStart => exact ⟨0, 0, u, rfl, rfl, by omega, (Turn.refl w g).drewN _, hr.drewN _, T1⟩
        case round =>
          clear T1 e1 e2 c0 c1 c2
          obtain ⟨i, br, o, rfl, rfl, him, ht, hr, HT⟩ := hrel
          have hol := HT.out.len
          have HOL := Aside.mk hol
          have hbB := HT.out.bB
          rw [Nt.B_eq] at hbB
          by_cases him2 : i < m + 3
          · have hiu : i < u.length := by have := HLU.out; omega
            have hio : i < o.length := by omega
            obtain ⟨z, hz⟩ : ∃ z, z = u[i] := ⟨_, rfl⟩
            have hcur : o[i] = z := (HT.out.cur hiu hio).trans hz.symm
            have c3 := hr.cell_mid hio
            rw [hcur] at c3
            have hf := hr.frozen (a.length + i)
            have hsz := hr.lt
            have hzB : z < 1000000000 := by rw [hz]; exact OKU.out.get _ _
            by_cases hin : i < m + 2
            case' pos =>
              obtain ⟨y, hy, hyB, e3⟩ := HVL.out wr (ht.sub hs hgn) i hin
              obtain ⟨sN, hsN⟩ : ∃ s, s = br + x * y := ⟨_, rfl⟩
              obtain ⟨lo, hlo⟩ : ∃ s, s = sN % B := ⟨_, rfl⟩
              obtain ⟨hq, hhq⟩ : ∃ s, s = sN / B := ⟨_, rfl⟩
              have TT := TKx.out o br i sN HT.out hiu (by rw [hsN, hy])
              rw [← hz, ← hlo, ← hhq] at TT
              have TT := Aside.mk TT
              obtain ⟨p1, p2⟩ := sum_cast br (x * y)
              rw [← hsN, ← hlo, Int.natCast_mul] at p1
              rw [← hsN, ← hhq, Int.natCast_mul] at p2
              replace p1 := p1.symm
              replace p2 := p2.symm
              obtain ⟨p3, p4⟩ := prod_le (show x < B by rw [Nt.B_eq]; omega) hyB
              have hloB : lo < 1000000000 := by rw [hlo]; exact Nat.mod_lt _ B_pos
              clear hy hyB hsN hlo hhq
            case' neg =>
              obtain ⟨lo, hlo⟩ : ∃ s, s = br % B := ⟨_, rfl⟩
              obtain ⟨hq, hhq⟩ : ∃ s, s = br / B := ⟨_, rfl⟩
              have TT := TKx.out o br i br HT.out hiu (by rw [at_ge (by have := HLV.out; omega)]; simp)
              rw [← hz, ← hlo, ← hhq] at TT
              have TT := Aside.mk TT
              have p1 : (br : Int) % 1000000000 = (lo : Int) := by rw [hlo, Nt.B_eq]; omega
              have p2 : (br : Int) / 1000000000 = (hq : Int) := by rw [hhq, Nt.B_eq]; omega
              have hloB : lo < 1000000000 := by rw [hlo]; exact Nat.mod_lt _ B_pos
              clear hlo hhq
            all_goals
              have hqB : hq ≤ 1000000000 := by have := p2; omega
              clear hz hcur hol
              by_cases hlt : z < lo
              · obtain ⟨y', hy'⟩ : ∃ y' : Nat, y' = z + 1000000000 - lo := ⟨_, rfl⟩
                have TN := Aside.mk (TT.out.1 hlt).1
                have ey : (z : Int) + 1000000000 - (lo : Int) = (y' : Int) := by omega
                rw [Nt.B_eq, ← hy'] at TN
                clear hy' TT
                go_wp2
                go_roundw
                case rel => exact ⟨i + 1, hq + 1, _, by simp, by simp, by omega, (ht.set _ _).set _ _, mid_set2 hr i y' _ hio, TN⟩
                case measure => simp [intOf] <;> omega
              · obtain ⟨y', hy'⟩ : ∃ y' : Nat, y' = z - lo := ⟨_, rfl⟩
                have TN := Aside.mk (TT.out.2.1 hlt)
                have ey : (z : Int) - (lo : Int) = (y' : Int) := by omega
                rw [← hy'] at TN
                clear hy' TT
                go_wp2
                go_roundw
                case rel => exact ⟨i + 1, hq, _, by first | rfl | rw [p2], by simp, by omega, ht.set _ _, hr.set_mid i y' hio, TN⟩
                case measure => simp [intOf] <;> omega
          · have hi3 : i = m + 3 := by omega
            subst hi3
            have HT' : Aside (Take u lv o x br u.length) := ⟨by rw [HLU.out]; exact HT.out⟩
            by_cases hb0 : br = 0
            · subst hb0
              obtain ⟨d1, d2⟩ := TEx.out o HT'.out F.out.2
              have D1 := Aside.mk d1
              have D2 := Aside.mk d2
              clear d1 d2 hol
              go_wp2
              go_ret
              exact StepR.of (by rw [D1.out, HQ.out]) ht hr HT'.out.ok HT'.out.len D2.out
            · obtain ⟨d1, d2⟩ := TOx.out o br HT'.out (by omega) F.out.1
              have D1 := Aside.mk d1
              have D2 := Aside.mk d2
              have OKO := Aside.mk HT'.out.ok
              have HLO : Aside (o.length = m + 3) := ⟨by rw [hol]; exact HLU.out⟩
              have hbz : ((br : Int) == 0) = false := by rw [beq_eq_false_iff_ne]; omega
              have G0 := Aside.mk (@Give.start o lv OKO.out)
              clear d1 d2 hol TEx TOx TKx HT HT' hbB hb0 him him2
              go_wp2
              go_loopw [12, 13] (fun cc ii wr => ∃ (i c' : Nat) (o2 : List Nat), cc = .int .u64 c' ∧ ii = .int .i64 i ∧ i ≤ m + 3 ∧ Turn w g wr ∧ RowAt wr g 75 .u64 (a ++ o2 ++ b) ∧ Aside (Give o lv o2 c' i)) (fun _ ii _ => m + 3 - (intOf ii).toNat)
              case atStart => exact ⟨0, 0, o, rfl, rfl, by omega, ht, hr, G0⟩
              case round =>
                clear G0 ht hr hbz
                obtain ⟨i, c', o2, rfl, rfl, him, ht, hr, HG⟩ := hrel
                have hol := HG.out.len
                have hc1 := HG.out.c1
                by_cases him2 : i < m + 3
                · have hiu : i < o.length := by have := HLO.out; omega
                  have hio : i < o2.length := by omega
                  obtain ⟨z, hz⟩ : ∃ z, z = o[i] := ⟨_, rfl⟩
                  have hcur : o2[i] = z := (HG.out.cur hiu hio).trans hz.symm
                  have c3 := hr.cell_mid hio
                  rw [hcur] at c3
                  have hf := hr.frozen (a.length + i)
                  have hsz := hr.lt
                  have hzB : z < 1000000000 := by rw [hz]; exact OKO.out.get _ _
                  by_cases hin : i < m + 2
                  case' pos =>
                    obtain ⟨y, hy, hyB, e3⟩ := HVL.out wr (ht.sub hs hgn) i hin
                    obtain ⟨lo, hlo⟩ : ∃ s, s = (z + c' + y) % B := ⟨_, rfl⟩
                    obtain ⟨hq, hhq⟩ : ∃ s, s = (z + c' + y) / B := ⟨_, rfl⟩
                    have TT := HG.out.step (s := z + c' + y) OKO.out OKV.out hiu (by rw [hz, hy])
                    rw [← hlo, ← hhq] at TT
                    have TT := Aside.mk TT
                    rw [Nt.B_eq] at hyB hlo hhq
                    have p1 : ((z : Int) + (c' : Int) + (y : Int)).tmod 1000000000 = (lo : Int) := by rw [Int.tmod_eq_emod_of_nonneg (by omega)]; omega
                    have p2 : IntKind.u64.wrap (((z : Int) + (c' : Int) + (y : Int)).tdiv 1000000000) = (hq : Int) := by
                      rw [Int.tdiv_eq_ediv_of_nonneg (by omega)]
                      have : ((z : Int) + (c' : Int) + (y : Int)) / 1000000000 = (hq : Int) := by omega
                      rw [this]; exact u64_in _ (by omega) (by omega)
                    clear hy hlo hhq
                  case' neg =>
                    obtain ⟨lo, hlo⟩ : ∃ s, s = (z + c') % B := ⟨_, rfl⟩
                    obtain ⟨hq, hhq⟩ : ∃ s, s = (z + c') / B := ⟨_, rfl⟩
                    have TT := HG.out.step (s := z + c') OKO.out OKV.out hiu (by rw [hz, at_ge (by have := HLV.out; omega)]; simp)
                    rw [← hlo, ← hhq] at TT
                    have TT := Aside.mk TT
                    rw [Nt.B_eq] at hlo hhq
                    have p1 : ((z : Int) + (c' : Int)).tmod 1000000000 = (lo : Int) := by rw [Int.tmod_eq_emod_of_nonneg (by omega)]; omega
                    have p2 : IntKind.u64.wrap (((z : Int) + (c' : Int)).tdiv 1000000000) = (hq : Int) := by
                      rw [Int.tdiv_eq_ediv_of_nonneg (by omega)]
                      have : ((z : Int) + (c' : Int)) / 1000000000 = (hq : Int) := by omega
                      rw [this]; exact u64_in _ (by omega) (by omega)
                    clear hlo hhq
                  all_goals
                    clear hz hcur hol
                    have hib : (i : Int) < (m : Int) + 3 := by omega
                    go_wp2
                    go_roundw
                    case rel => exact ⟨i + 1, hq, _, rfl, by simp, by omega, ht.set _ _, hr.set_mid i lo hio, TT⟩
                    case measure => simp [intOf] <;> omega
                · have hi3 : i = m + 3 := by omega
                  subst hi3
                  have HG' : Aside (Give o lv o2 c' o.length) := ⟨by rw [HLO.out]; exact HG.out⟩
                  obtain ⟨g1, g2⟩ := HG'.out.done (by have := HLO.out; have := HLV.out; omega)
                  have hll : o.length = u.length := by rw [HLO.out, HLU.out]
                  rw [hll] at g1 g2
                  have d3 := D2.out c' (val o2) g2 g1
                  have D3 := Aside.mk d3
                  have HL2 := Aside.mk (hol.trans hll)
                  clear d3 hll g1 g2 hol hc1 him him2 HG
                  have hx1 : 1 ≤ x := by have := D1.out; omega
                  go_wp2
                  go_ret
                  exact StepR.of (by rw [← HQ.out]; have := D1.out; show (x : Int) - 1 = _; omega) ht hr HG'.out.ok HL2.out D3.out
end Go.Proofs.YtaakpcmflladaaaDoor
