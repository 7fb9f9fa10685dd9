/- code: measure, has. -/
import Derived.Test.YtaakpcmflladaaaDoorTreeP
set_option linter.all false
namespace Go.Proofs.YtaakpcmflladaaaDoor
open Go.RowKit Hv Go.Proofs
def Ki : KeyT Tryd.prog 3 Int := keyI Tryd.underlying3
theorem zeroInt (w : World) : (zeroValue 3).run Tryd.prog w = .ok (.int .i64 0) w := by kernel_rfl
/-- The tree of a frame, in memory. -/
def treeCells (A : Option Addr) (n c ba bl : Nat) : Array Value := #[.slice A n c, .map (some ba), .map (some bl)]
def MeasR (w : World) (bl : Nat) (m : List (Int × Value)) (l : List Node) (c : Int) (e : Ending) (w' : World) : Prop :=
  (upF l l.length c = none ∧ e = .returned (.bool false) ∧ ∃ n, w' = w.drewN n) ∨
  (∃ s, upF l l.length c = some s ∧ e = .returned (.bool true) ∧ MapIs Ki w' bl (mput m c (.int .i64 (s : Int))) ∧ w.grownBy w' (some bl) ∧ w'.heap.size = w.heap.size)
theorem grown_drewN {w w' : World} {n : Nat} {row : Option Nat} (h : (w.drewN n).grownBy w' row) : w.grownBy w' row := ⟨h.os, h.tape, h.output, h.size, h.block⟩
set_option maxRecDepth 100000 in
set_option maxHeartbeats 1600000 in
theorem measure_any (h : View) (w : World) (hs : Sub h w) (l : List Node) (A : Option Addr) (cc bt ba bl : Nat) (m : List (Int × Value)) (hv : Sl h tNode (.slice A l.length cc) l)
    (hbt : BoxAt w bt 81 #[.slice A l.length cc, .map (some ba), .map (some bl)]) (hat : MapIs Ki w ba (atL l)) (hlv : MapIs Ki w bl m) (g : Good l) (p : ParOk l) (c : Int) (hc : inL l c = true) (hcr : inRange .i64 c) :
    Calls Tryd.prog 28 #[.pointer (some ⟨bt, 0, none⟩), .int .i64 c] w (MeasR w bl m l c) := by
  obtain ⟨A', c', ev, hl1, hl2, hsl⟩ := hv
  injection ev with e1 e2 e3
  subst e1; subst e3
  have hll := g.le
  have G := Aside.mk g
  have P := Aside.mk p
  have CB := Aside.mk hbt
  have k0 := hbt.cell 0
  have k1 := hbt.cell 1
  have k2 := hbt.cell 2
  simp only [List.getElem?_toArray, List.getElem?_cons_zero, List.getElem?_cons_succ] at k0 k1 k2
  clear hbt g p
  go_enter Tryd.func28, Tryd.ntmps28
  go_wp2
  go_loopw [5, 6] (fun st cs wr => ∃ (k n : Nat) (x : Int), st = .int .i64 k ∧ cs = .int .i64 x ∧ k ≤ l.length ∧ wr = w.drewN n ∧ inRange .i64 x ∧ Aside (x = 0 ∨ inL l x = true) ∧ Aside (upF l l.length c = (upF l (l.length - k) x).map (· + k))) (fun st _ _ => l.length - (intOf st).toNat)
  case atStart => exact ⟨0, 0, c, rfl, rfl, Nat.zero_le _, rfl, hcr, ⟨.inr hc⟩, ⟨by rw [Nat.sub_zero]; simp⟩⟩
  case round =>
    obtain ⟨k, n, x, rfl, rfl, hk, rfl, hxr, HX, HU⟩ := hrel
    by_cases hx0 : x = 0
    · subst hx0
      have E : Aside (upF l l.length c = some k) := ⟨by rw [HU.out, upF_zero]; simp⟩
      clear HU HX
      go_wp2_with (at_mapUpdate; refine wpList_put (K := Ki) (hlv.drewN n) Tryd.underlying39 (x := c) hcr rfl rfl rfl rfl rfl ?_; intro w1 hm1 hg1 hsz1)
      go_ret
      exact .inr ⟨k, E.out, rfl, hm1, grown_drewN hg1, hsz1⟩
    · have hxb : (x != 0) = true := by rw [bne_iff_ne]; exact hx0
      have hin : inL l x = true := by
        rcases HX.out with e | e
        · exact absurd e hx0
        · exact e
      by_cases hkl : k = l.length
      · subst hkl
        have E : Aside (upF l l.length c = none) := ⟨by rw [HU.out, Nat.sub_self, upF_out hx0]; rfl⟩
        clear hx0 HU HX
        go_wp2
        go_ret
        exact .inl ⟨E.out, rfl, n, rfl⟩
      · obtain ⟨i, hi, hic, hlk⟩ := atL_some G.out.rise hin
        obtain ⟨b, off, u, hu, rfl, c0, c1, c2, r1, r2, r3⟩ := node_at hsl hs i hi
        have hpar : parL l x = u.parent := by rw [hu, ← hic]; exact parL_at G.out.rise hi
        have HX2 : Aside (u.parent = 0 ∨ inL l u.parent = true) := ⟨by rw [← hpar]; exact P.out.next hin G.out.rise⟩
        have HU2 : Aside (upF l l.length c = (upF l (l.length - (k + 1)) u.parent).map (· + (k + 1))) := ⟨by
          have e : l.length - k = (l.length - (k + 1)) + 1 := by omega
          rw [HU.out, e, upF_step hx0, hpar, Option.map_map]
          congr 1
          funext s
          simp only [Function.comp]; omega⟩
        have hlkW := fun (W : World) (hW : MapIs Ki W ba (atL l)) => (show (Instr.lookup 39 (.map (some ba)) (.int .i64 x) false).run Tryd.prog W = .ok (.int .i64 (i : Int)) W by
          have := run_look hW Tryd.underlying39 (zeroInt W) (x := x) hxr false
          rw [hlk] at this; exact this)
        have HLK := Aside.mk hlkW
        clear hlkW hx0 hin hpar hu hic hlk HX HU hc
        have hkl2 : ¬ (l.length : Int) < (k : Int) + 1 := by omega
        go_wp2
        refine wp_region_mix (fun W => W.cell? ⟨bt, 0, none⟩ = some (.slice (some ⟨b, off, none⟩) l.length cc) ∧ W.cell? ⟨bt, 1, none⟩ = some (.map (some ba)) ∧ W.cell? ⟨b, off + i * 3 + 1, none⟩ = some (.int .i64 u.parent) ∧ MapIs Ki W ba (atL l)) [] 14 (by kernel_rfl) (by kernel_rfl) (by decide) ⟨k0, k1, c1, (hat.drewN n).drew⟩ ?_
        show wpMix _ _ _ _ _ [0, 1, 2, 3, 4, 5, 6, 7, 8, 9, 10, 11, 12, 13] _ _
        iterate 14
          refine mix_e rfl rfl rfl ?_
          apply Exists.intro
          constructor
          · rintro W ⟨j0, j1, j2, j3⟩
            have j4 := HLK.out W j3
            go_simp
            rfl
          simp only [Act.put, List.setIfInBounds_toArray, List.set_cons_zero, List.set_cons_succ]
        refine mix_nil (wpList_nil (onlyN ?_))
        go_wp2
        go_roundw
        case rel => exact ⟨k + 1, n + 1, u.parent, by simp, rfl, by omega, rfl, r2, HX2, HU2⟩
        case measure => simp [intOf] <;> omega
end Go.Proofs.YtaakpcmflladaaaDoor
