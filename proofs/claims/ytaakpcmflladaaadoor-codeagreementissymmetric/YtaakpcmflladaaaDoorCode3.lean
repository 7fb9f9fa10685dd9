/- code.has, codingsFault, coders, both. -/
import Derived.Test.YtaakpcmflladaaaDoorTree2
set_option linter.all false
namespace Go.Proofs.YtaakpcmflladaaaDoor
open Go.RowKit Hv Go.Proofs
structure Cod where
  cas : Int
  coder : Int
  code : Int
def tCod : Ty Cod := tVia (fun u => (u.cas, u.coder, u.code)) (tProd tI (tProd tI tI))
theorem tCod_K {h : View} {u : Cod} {cs : List Value} (k : tCod.K h u cs) : cs = [.int .i64 u.cas, .int .i64 u.coder, .int .i64 u.code] ∧ inRange .i64 u.cas ∧ inRange .i64 u.coder ∧ inRange .i64 u.code := by
  obtain ⟨c1, d1, rfl, ⟨rfl, r1⟩, c2, d2, rfl, ⟨rfl, r2⟩, ⟨rfl, r3⟩⟩ := k
  exact ⟨rfl, r1, r2, r3⟩
theorem tCod_mk {h : View} {u : Cod} (r1 : inRange .i64 u.cas) (r2 : inRange .i64 u.coder) (r3 : inRange .i64 u.code) : tCod.K h u [.int .i64 u.cas, .int .i64 u.coder, .int .i64 u.code] :=
  ⟨[_], _, rfl, ⟨rfl, r1⟩, [_], [_], rfl, ⟨rfl, r2⟩, ⟨rfl, r3⟩⟩
theorem cod_at {h : View} {w : World} {A : Option Addr} {l : List Cod} (s : SlAt h tCod A l) (hs : Sub h w) (k : Nat) (hk : k < l.length) : ∃ b off u, u = l[k] ∧ A = some ⟨b, off, none⟩ ∧
    w.cell? ⟨b, off + k * 3, none⟩ = some (.int .i64 u.cas) ∧ w.cell? ⟨b, off + k * 3 + 1, none⟩ = some (.int .i64 u.coder) ∧ w.cell? ⟨b, off + k * 3 + 2, none⟩ = some (.int .i64 u.code) ∧
    inRange .i64 u.cas ∧ inRange .i64 u.coder ∧ inRange .i64 u.code := by
  obtain ⟨b, off, ds, rfl, hK, hc⟩ := s.at_ k hk
  obtain ⟨rfl, r⟩ := tCod_K hK
  exact ⟨b, off, l[k], rfl, rfl, hs.cell (hc 0 _ rfl), hs.cell (hc 1 _ rfl), hs.cell (hc 2 _ rfl), r⟩
theorem has_any (h : View) (w : World) (hs : Sub h w) (bt : Nat) (l : List Node) (ht : TreeIn h bt l) (r : Rise l) (c : Int) (hc : inRange .i64 c) :
    Calls Tryd.prog 63 #[.pointer (some ⟨bt, 0, none⟩), .int .i64 c] w fun e w' => e = .returned (.bool (inL l c)) ∧ w = w' := by
  obtain ⟨A, cc, ba, bl, t1, t2, t3, t4⟩ := ht
  have hb : BoxAt w bt 81 #[.slice A l.length cc, .map (some ba), .map (some bl)] := hs.at_ _ _ t1
  have hm := t3.is hs
  obtain ⟨j, hj, hjs⟩ := at_look r c
  obtain ⟨ib, hib⟩ : ∃ ib, ib = inL l c := ⟨_, rfl⟩
  rw [← hib] at hjs
  rw [← hib]
  have q3 : (Instr.lookup 39 (.map (some ba)) (.int .i64 c) true).run Tryd.prog w = .ok (.tuple #[.int .i64 j, .bool ib]) w := by
    have := run_look hm Tryd.underlying39 (zeroInt w) (x := c) hc true
    rw [if_pos rfl, hj, hjs] at this; exact this
  have k1 : w.cell? ⟨bt, 1, none⟩ = some (.map (some ba)) := hb.cell 1
  clear hj hjs hib hm t1 t2 t3 t4 hb
  go_enter Tryd.func63, Tryd.ntmps63
  go_wp2
  go_ret
  exact ⟨rfl, rfl⟩
/-- The error of coding number i. -/
def codP (u p : Cod) : Int := if u.cas < p.cas then 7 else if u.cas = p.cas then (if u.coder < p.coder then 7 else if u.coder = p.coder then 6 else 0) else 0
def codF (l : List Node) (cs : List Cod) (i : Nat) : Int :=
  match cs[i]? with
  | none => 0
  | some u => if u.cas < 1 then 1 else if outC u.coder 1 50 = true then 1 else if inL l u.code = false then 5 else if i = 0 then 0 else match cs[i-1]? with | some p => codP u p | none => 0
def codsF (l : List Node) (cs : List Cod) : Int := if 20000 < cs.length then 2 else Pl.firstG (codF l cs) cs.length 0
theorem codF_eq {l : List Node} {cs : List Cod} {i : Nat} (hi : i < cs.length) {u : Cod} (hu : u = cs[i]) {ob ib : Bool} (ho : ob = outC u.coder 1 50) (hb : ib = inL l u.code) :
    codF l cs i = (if u.cas < 1 then 1 else if ob = true then 1 else if ib = false then 5 else if i = 0 then 0 else match cs[i-1]? with | some p => codP u p | none => 0) := by
  unfold codF
  rw [List.getElem?_eq_getElem hi, ← hu, ho, hb]
def CodsR (w : World) (h : View) (n : Int) (e : Ending) (w' : World) : Prop := e = .returned (.int .i64 n) ∧ Ext w h w' h
theorem CodsR.of {w w' : World} {h : View} {m n : Int} (hn : m = n) (x : Ext w h w' h) : CodsR w h m (.returned (.int .i64 n)) w' := ⟨by rw [hn], x⟩
theorem codsF_at {l : List Node} {cs : List Cod} (hl : ¬ 20000 < cs.length) {k : Nat} (hk : k < cs.length) (hz : ∀ i < k, codF l cs i = 0) (n : Int) (hn : n ≠ 0) (e : codF l cs k = n) : codsF l cs = n := by
  unfold codsF
  rw [if_neg hl, Pl.firstG_bad hk hz (by rw [e]; exact hn), e]
theorem codsF_good {l : List Node} {cs : List Cod} (hl : ¬ 20000 < cs.length) (hz : ∀ i < cs.length, codF l cs i = 0) : codsF l cs = 0 := by
  unfold codsF
  rw [if_neg hl, Pl.firstG_good hz]
set_option maxRecDepth 100000 in
set_option maxHeartbeats 3200000 in
theorem cods_any (h : View) (w : World) (hs : Sub h w) (bt : Nat) (l : List Node) (ht : TreeIn h bt l) (r : Rise l) (v : Value) (cs : List Cod) (hv : Sl h tCod v cs) :
    Calls Tryd.prog 39 #[.pointer (some ⟨bt, 0, none⟩), v] w (CodsR w h (codsF l cs)) := by
  obtain ⟨A, c, rfl, hl1, hl2, hsl⟩ := hv
  have hx := Ext.refl hs
  have HT := Aside.mk ht
  have RR := Aside.mk r
  clear ht r
  obtain ⟨n, hn⟩ : ∃ n, n = codsF l cs := ⟨_, rfl⟩
  have HN := Aside.mk hn
  rw [← hn]
  clear hn
  by_cases hl : 20000 < cs.length
  · have E : Aside (n = 2) := ⟨by rw [HN.out]; unfold codsF; rw [if_pos hl]⟩
    clear HN
    go_enter Tryd.func39, Tryd.ntmps39
    go_wp2
    go_ret
    exact CodsR.of E.out hx
  have FU := Aside.mk (@codsF_at l cs hl)
  have FG := Aside.mk (@codsF_good l cs hl)
  go_enter Tryd.func39, Tryd.ntmps39
  go_wp2
  go_loopw [13] (fun i wr => ∃ (k : Nat), k ≤ cs.length ∧ i = .int .i64 k ∧ Ext w h wr h ∧ Aside (∀ i < k, codF l cs i = 0)) (fun i _ => cs.length - (intOf i).toNat)
  case atStart => exact ⟨0, Nat.zero_le _, rfl, hx, ⟨by simp⟩⟩
  case round =>
    obtain ⟨k, hk, rfl, hx, HU⟩ := hrel
    by_cases hlt : k < cs.length
    · obtain ⟨b, off, u, hu, rfl, c0, c1, c2, r1, r2, r3⟩ := cod_at hsl hx.sub k hlt
      obtain ⟨ob, hob⟩ : ∃ ob, ob = outC u.coder 1 50 := ⟨_, rfl⟩
      obtain ⟨ib, hib⟩ : ∃ ib, ib = inL l u.code := ⟨_, rfl⟩
      have HF := Aside.mk (codF_eq hlt hu hob hib)
      have HX := Aside.mk (fun (m : Int) (hn : m ≠ 0) (e : codF l cs k = m) => HN.out.trans (FU.out hlt HU.out m hn e))
      have CO := Aside.mk (fun (W : World) => outC_any u.coder 1 50 W)
      rw [← hob] at CO
      have CH := Aside.mk (fun (W : World) (hW : Sub h W) => has_any h W hW bt l HT.out RR.out u.code r3)
      rw [← hib] at CH
      clear hu hob hib
      by_cases hc1 : u.cas < 1
      · have E := Aside.mk (HX.out 1 (by decide) (by rw [HF.out, if_pos hc1]))
        go_wp2
        go_ret
        exact CodsR.of E.out (hx.alloc _)
      have HF := Aside.mk (HF.out.trans (if_neg hc1))
      cases ob
      rotate_left
      · have E := Aside.mk (HX.out 1 (by decide) (by rw [HF.out, if_pos rfl]))
        go_wp2_with (go_at_call 22; refine (CO.out _).mono ?_; rintro e w' ⟨rfl, rfl⟩)
        go_ret
        exact CodsR.of E.out (hx.alloc _)
      have HF := Aside.mk (HF.out.trans (if_neg Bool.false_ne_true))
      cases ib
      · have E := Aside.mk (HX.out 5 (by decide) (by rw [HF.out, if_pos rfl]))
        have hs2 := (hx.alloc (.cells #[.int .i64 u.cas, .int .i64 u.coder, .int .i64 u.code] 71 (0, 0))).sub
        go_wp2_with first
          | (go_at_call 22; refine (CO.out _).mono ?_; rintro e w' ⟨rfl, rfl⟩)
          | (go_at_call 63; refine (CH.out _ (by assumption)).mono ?_; rintro e w' ⟨rfl, rfl⟩)
        go_ret
        exact CodsR.of E.out (hx.alloc _)
      have HF := Aside.mk (HF.out.trans (if_neg (by decide)))
      have hs2 := (hx.alloc (.cells #[.int .i64 u.cas, .int .i64 u.coder, .int .i64 u.code] 71 (0, 0))).sub
      by_cases hk0 : k = 0
      · subst hk0
        have E : codF l cs 0 = 0 := by rw [HF.out, if_pos rfl]
        have HU2 : Aside (∀ i < 0 + 1, codF l cs i = 0) := ⟨fun i hi => by
          have : i = 0 := by omega
          rw [this]; exact E⟩
        clear E
        rw [Nat.zero_mul, Nat.add_zero] at c0 c1 c2
        go_wp2_with first
          | (go_at_call 22; refine (CO.out _).mono ?_; rintro e w' ⟨rfl, rfl⟩)
          | (go_at_call 63; refine (CH.out _ (by assumption)).mono ?_; rintro e w' ⟨rfl, rfl⟩)
        go_roundw
        case rel => exact ⟨0 + 1, hlt, by simp, hx.alloc _, HU2⟩
        case measure => simp [intOf] <;> omega
      obtain ⟨b', off', p, hp, hbb, d0, d1, d2, q1, q2, q3⟩ := cod_at hsl hx.sub (k - 1) (by omega)
      injection hbb with hbb
      injection hbb with hb1 hb2 _
      subst hb1
      subst hb2
      have HF := Aside.mk (show codF l cs k = codP u p by rw [HF.out, if_neg hk0, List.getElem?_eq_getElem (by omega : k - 1 < cs.length), ← hp])
      have e1 : IntKind.i64.wrap ((k : Int) - 1) = (k : Int) - 1 := IntWalk.i64_in _ (by omega)
      have e2 : ((k : Int) - 1).toNat = k - 1 := by omega
      have e3 : (0 : Int) ≤ (k : Int) - 1 := by omega
      have e4 : (k : Int) - 1 < (cs.length : Int) := by omega
      have ek : ((k : Int) == 0) = false := by rw [beq_eq_false_iff_ne]; omega
      have d0 := cell_alloc d0 (.cells #[.int .i64 u.cas, .int .i64 u.coder, .int .i64 u.code] 71 (0, 0))
      have d1 := cell_alloc d1 (.cells #[.int .i64 u.cas, .int .i64 u.coder, .int .i64 u.code] 71 (0, 0))
      have d2 := cell_alloc d2 (.cells #[.int .i64 u.cas, .int .i64 u.coder, .int .i64 u.code] 71 (0, 0))
      clear hp
      have hx2 := Aside.mk ((hx.alloc (.cells #[.int .i64 u.cas, .int .i64 u.coder, .int .i64 u.code] 71 (0, 0))).alloc (.cells #[.int .i64 p.cas, .int .i64 p.coder, .int .i64 p.code] 71 (0, 0)))
      by_cases g1 : u.cas < p.cas
      · have E := Aside.mk (HX.out 7 (by decide) (by rw [HF.out]; unfold codP; rw [if_pos g1]))
        go_wp2_with first
          | (go_at_call 22; refine (CO.out _).mono ?_; rintro e w' ⟨rfl, rfl⟩)
          | (go_at_call 63; refine (CH.out _ (by assumption)).mono ?_; rintro e w' ⟨rfl, rfl⟩)
        go_ret
        exact CodsR.of E.out hx2.out
      have HF := Aside.mk (show codF l cs k = (if u.cas = p.cas then (if u.coder < p.coder then 7 else if u.coder = p.coder then 6 else 0) else 0) by rw [HF.out]; unfold codP; rw [if_neg g1])
      by_cases g2 : u.cas = p.cas
      rotate_left
      · have E : codF l cs k = 0 := by rw [HF.out, if_neg g2]
        have HU2 : Aside (∀ i < k + 1, codF l cs i = 0) := ⟨fun i hi => by
          by_cases e : i = k
          · rw [e]; exact E
          · exact HU.out i (by omega)⟩
        clear E
        have g2b : (u.cas == p.cas) = false := by rw [beq_eq_false_iff_ne]; exact g2
        clear g2
        go_wp2_with first
          | (go_at_call 22; refine (CO.out _).mono ?_; rintro e w' ⟨rfl, rfl⟩)
          | (go_at_call 63; refine (CH.out _ (by assumption)).mono ?_; rintro e w' ⟨rfl, rfl⟩)
        go_roundw
        case rel => exact ⟨k + 1, hlt, by simp, hx2.out, HU2⟩
        case measure => simp [intOf] <;> omega
      have HF := Aside.mk (HF.out.trans (if_pos g2))
      have g2b : (u.cas == p.cas) = true := by rw [beq_iff_eq]; exact g2
      clear g2
      by_cases g3 : u.coder < p.coder
      · have E := Aside.mk (HX.out 7 (by decide) (by rw [HF.out, if_pos g3]))
        go_wp2_with first
          | (go_at_call 22; refine (CO.out _).mono ?_; rintro e w' ⟨rfl, rfl⟩)
          | (go_at_call 63; refine (CH.out _ (by assumption)).mono ?_; rintro e w' ⟨rfl, rfl⟩)
        go_ret
        exact CodsR.of E.out hx2.out
      have HF := Aside.mk (HF.out.trans (if_neg g3))
      by_cases g4 : u.coder = p.coder
      · have E := Aside.mk (HX.out 6 (by decide) (by rw [HF.out, if_pos g4]))
        have g4b : (u.coder == p.coder) = true := by rw [beq_iff_eq]; exact g4
        clear g4
        go_wp2_with first
          | (go_at_call 22; refine (CO.out _).mono ?_; rintro e w' ⟨rfl, rfl⟩)
          | (go_at_call 63; refine (CH.out _ (by assumption)).mono ?_; rintro e w' ⟨rfl, rfl⟩)
        go_ret
        exact CodsR.of E.out hx2.out
      · have E : codF l cs k = 0 := by rw [HF.out, if_neg g4]
        have g4b : (u.coder == p.coder) = false := by rw [beq_eq_false_iff_ne]; exact g4
        clear g4
        have HU2 : Aside (∀ i < k + 1, codF l cs i = 0) := ⟨fun i hi => by
          by_cases e : i = k
          · rw [e]; exact E
          · exact HU.out i (by omega)⟩
        clear E
        go_wp2_with first
          | (go_at_call 22; refine (CO.out _).mono ?_; rintro e w' ⟨rfl, rfl⟩)
          | (go_at_call 63; refine (CH.out _ (by assumption)).mono ?_; rintro e w' ⟨rfl, rfl⟩)
        go_roundw
        case rel => exact ⟨k + 1, hlt, by simp, hx2.out, HU2⟩
        case measure => simp [intOf] <;> omega
    · have hkl : k = cs.length := by omega
      subst hkl
      have E := Aside.mk (HN.out.trans (FG.out HU.out))
      go_wp2
      go_ret
      exact CodsR.of E.out hx
end Go.Proofs.YtaakpcmflladaaaDoor
