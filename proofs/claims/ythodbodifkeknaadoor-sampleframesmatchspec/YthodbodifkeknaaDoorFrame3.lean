/- sample.CheckFrame, sample.Strata, canvassref5.Strata, slices.Equal at strata. -/
import Derived.Test.YthodbodifkeknaaDoorRefFrame
import Derived.Test.YthodbodifkeknaaDoorLayer
set_option linter.all false
namespace Go.Proofs.YthodbodifkeknaaDoor
open Go.RowKit Hv Go.Proofs
structure Stra where
  name : ByteArray
  units : Int
  clusters : Int
  size : Int
def tStra : Ty Stra := tVia (fun u => (u.name, u.units, u.clusters, u.size)) (tProd tStr (tProd tI (tProd tI tI)))
theorem tStra_K {h : View} {u : Stra} {cs : List Value} (k : tStra.K h u cs) :
    cs = [.string u.name, .int .i64 u.units, .int .i64 u.clusters, .int .i64 u.size] ∧ u.name.size ≤ 9223372036854775807 ∧ inRange .i64 u.units ∧ inRange .i64 u.clusters ∧ inRange .i64 u.size := by
  obtain ⟨c1, d1, rfl, ⟨rfl, r1⟩, c2, d2, rfl, ⟨rfl, r2⟩, c3, d3, rfl, ⟨rfl, r3⟩, ⟨rfl, r4⟩⟩ := k
  exact ⟨rfl, r1, r2, r3, r4⟩
theorem tStra_mk {h : View} {u : Stra} (r1 : u.name.size ≤ 9223372036854775807) (r2 : inRange .i64 u.units) (r3 : inRange .i64 u.clusters) (r4 : inRange .i64 u.size) : tStra.K h u [.string u.name, .int .i64 u.units, .int .i64 u.clusters, .int .i64 u.size] :=
  ⟨[_], _, rfl, ⟨rfl, r1⟩, [_], _, rfl, ⟨rfl, r2⟩, [_], [_], rfl, ⟨rfl, r3⟩, ⟨rfl, r4⟩⟩
theorem slStra : SlT Tryd.prog 23 30 4 40 := SlT.of Tryd.underlying23 (by kernel_rfl)
def straOf (x : Layer) : Stra := ⟨x.name, x.units.length, x.clus.length, x.size⟩
def strataL (l : List Unit4) : List Stra := (layersL l).map straOf
def strataR (l : List Unit4) : List Stra := if frameF l = 0 then strataL l else []
theorem strataL_len (l : List Unit4) : (strataL l).length = (namesD l).length := by simp [strataL, layersL]
theorem layers_any (h : View) (w : World) (hs : Sub h w) (v : Value) (l : List Unit4) (hv : Sl h tUnit v l) : Calls Tryd.prog 9 #[v] w (LayR w h l) := by
  by_cases hb : l.length ≤ 5000
  · exact layers_ok keysS sortedS layerOf_ok h w hs v l hv hb
  · obtain ⟨A, c, rfl, hl1, hl2, hsl⟩ := hv
    have hx := Ext.refl hs
    have hb' : (5000 : Int) < (l.length : Int) := by omega
    have E := Aside.mk (frame_many (by omega : 5000 < l.length))
    go_enter Tryd.func9, Tryd.ntmps9
    go_wp2
    go_ret2
    exact LayR.bad E.out (by decide) hx
theorem check_any (h : View) (w : World) (hs : Sub h w) (v : Value) (l : List Unit4) (hv : Sl h tUnit v l) : Calls Tryd.prog 6 #[v] w (RChk w h l) := by
  have CL := Aside.mk (layers_any h w hs v l hv)
  obtain ⟨A, c, rfl, hl1, hl2, hsl⟩ := hv
  go_enter Tryd.func6, Tryd.ntmps6
  go_wp2_with (go_at_call 9; refine CL.out.mono ?_; rintro e w2 ⟨h2, r, rfl, x2, s2⟩)
  go_ret
  exact RChk.of rfl x2
def StrR (w : World) (h : View) (l : List Unit4) (e : Ending) (w' : World) : Prop := ∃ h' r, e = .returned (.tuple #[r, .int .i64 (frameF l)]) ∧ Ext w h w' h' ∧ Sl h' tStra r (strataR l)
theorem StrR.bad {w w' : World} {h h' : View} {l : List Unit4} {n : Int} (hf : frameF l = n) (hn : n ≠ 0) (x : Ext w h w' h') : StrR w h l (.returned (.tuple #[.slice none 0 0, .int .i64 n])) w' := by
  refine ⟨h', .slice none 0 0, by rw [hf], x, ?_⟩
  unfold strataR; rw [hf, if_neg hn]; exact Sl.nil
theorem StrR.good {w w' : World} {h h' : View} {l : List Unit4} {r : Value} (hf : frameF l = 0) (x : Ext w h w' h') (s : Sl h' tStra r (strataL l)) : StrR w h l (.returned (.tuple #[r, .int .i64 0])) w' := by
  refine ⟨h', r, by rw [hf], x, ?_⟩
  unfold strataR; rw [if_pos hf]; exact s
theorem frame_zero {l : List Unit4} (h : frameF l = 0) : l.length ≤ 5000 ∧ unitsF l = 0 ∧ (namesD l).length ≤ 40 := by
  unfold frameF at h
  split at h
  · simp at h
  split at h
  · rename_i h1 h2; exact absurd h h2
  split at h
  · simp at h
  · rename_i h1 h2 h3; exact ⟨by omega, by simpa using h2, by omega⟩
set_option maxRecDepth 100000 in
set_option maxHeartbeats 1600000 in
theorem strata_any (h : View) (w : World) (hs : Sub h w) (v : Value) (l : List Unit4) (hv : Sl h tUnit v l) : Calls Tryd.prog 4 #[v] w (StrR w h l) := by
  have CL := Aside.mk (layers_any h w hs v l hv)
  obtain ⟨A, c, rfl, hl1, hl2, hsl⟩ := hv
  obtain ⟨f, hf⟩ : ∃ f, f = frameF l := ⟨_, rfl⟩
  unfold LayR at CL
  rw [← hf] at CL
  have HF := Aside.mk hf.symm
  clear hf
  by_cases hf0 : f = 0
  rotate_left
  · go_enter Tryd.func4, Tryd.ntmps4
    go_wp2_with (go_at_call 9; refine CL.out.mono ?_; rintro e w2 ⟨h2, r, rfl, x2, s2⟩)
    go_ret2
    exact StrR.bad HF.out hf0 x2
  subst hf0
  obtain ⟨_, _, hn40⟩ := frame_zero HF.out
  have hlr : layersR l = layersL l := by unfold layersR; rw [if_pos HF.out]
  rw [hlr] at CL
  clear hlr
  obtain ⟨L, hL⟩ : ∃ L, L = strataL l := ⟨_, rfl⟩
  have hLl : L.length = (layersL l).length := by rw [hL, strataL_len, layersL_len]
  have hLk : ∀ k (hk : k < (layersL l).length), L.take (k + 1) = L.take k ++ [straOf (layersL l)[k]] := fun k hk => by
    subst hL
    exact take_snoc_of _ _ (by simpa [strataL] using hk) (by simp [strataL])
  have hLB : (layersL l).length ≤ 40 := by rw [layersL_len]; exact hn40
  have HL := Aside.mk hL
  have HLl := Aside.mk hLl
  have HLk := Aside.mk hLk
  have HLB := Aside.mk hLB
  clear hL hLl hLk hLB
  generalize layersL l = M at CL HLl HLk HLB
  go_enter Tryd.func4, Tryd.ntmps4
  go_wp2_with (go_at_call 9; refine CL.out.mono ?_; rintro e w2 ⟨h2, _, rfl, x2, A2, cc2, rfl, hm1, hm2, hsm⟩)
  go_loopw [6, 8, 19] (fun out _ i wr => ∃ (k : Nat), k ≤ M.length ∧ i = .int .i64 k ∧ Ext w h wr h2 ∧ Own wr h2 w.heap.size 30 tStra out (L.take k)) (fun _ _ i _ => M.length - (intOf i).toNat)
  case atStart => exact ⟨0, Nat.zero_le _, rfl, x2, Own.nil⟩
  case round =>
    obtain ⟨k, hk, rfl, hx, ho⟩ := hrel
    by_cases hlt : k < M.length
    · obtain ⟨b, off, ds, rfl, hK, hc⟩ := hsm.at_ k hlt
      obtain ⟨x, hxe⟩ : ∃ x, x = M[k] := ⟨_, rfl⟩
      have hsn := HLk.out k hlt
      rw [← hxe] at hsn hK
      obtain ⟨v1, v2, rfl, ⟨A3, c3, rfl, q1, q2, _⟩, ⟨A4, c4, rfl, q3, q4, _⟩, r1, r2⟩ := tLayer_K hK
      have e0 := hx.sub.cell (hc 0 _ rfl)
      have e1 := hx.sub.cell (hc 1 _ rfl)
      have e2 := hx.sub.cell (hc 2 _ rfl)
      have e3 := hx.sub.cell (hc 3 _ rfl)
      simp only [show tLayer.sz = 4 from rfl, Nat.add_zero] at e0 e1 e2 e3
      have HS := Aside.mk hsn
      have hlen : (L.take k).length ≤ 40 := by have := HLB.out; have := HLl.out; rw [List.length_take]; omega
      clear hsn hxe hc hK
      go_wp2_with (at_builtin; go_loud (refine wpList_app1 (t := tStra) slStra (by decide) rfl rfl (ho.alloc _) (hx.sub.alloc _) rfl (straOf x) rfl (by simp) (tStra_mk (u := straOf x) r1 (by constructor <;> (show _ ≤ _; simp only [straOf]; omega)) (by constructor <;> (show _ ≤ _; simp only [straOf]; omega)) r2) (by omega) (by omega) (by simp; have := hx.ge; omega) ?_); intro v' w' ho' hg hs' hnew)
      have x5 : Ext w h w' h2 := ((hx.alloc _).alloc _).grown hg fun g e => ⟨(ho.lt g e).1, ho.2 g e⟩
      rw [← HS.out] at ho'
      go_roundw
      case rel => exact ⟨k + 1, hlt, by simp <;> omega, x5, ho'⟩
      case measure => simp [intOf]; omega
    · have hkl : k = M.length := by omega
      subst hkl
      have htk : L.take M.length = L := List.take_of_length_le (by rw [HLl.out]; exact Nat.le_refl _)
      rw [htk] at ho
      obtain ⟨h', x', _, s', _⟩ := ho.publish hx (Nat.le_refl _)
      have S := Aside.mk s'
      have X := Aside.mk x'
      clear s' x' ho htk
      go_wp2
      go_ret2
      exact StrR.good HF.out X.out (by rw [← HL.out]; exact S.out)
end Go.Proofs.YthodbodifkeknaaDoor
