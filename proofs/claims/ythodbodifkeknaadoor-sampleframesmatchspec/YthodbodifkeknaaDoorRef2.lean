/- The reference's functions that walk a list once: names, clusters, sizes, of, total. (Printed by genref2.py.) -/
import Derived.Test.YthodbodifkeknaaDoorRef1
set_option linter.all false
namespace Go.Proofs.YthodbodifkeknaaDoor
open Go.RowKit Hv Go.Proofs
theorem slStr : SlT Tryd.prog 38 9 1 16 := SlT.of Tryd.underlying38 (by kernel_rfl)
theorem slInt : SlT Tryd.prog 41 3 1 8 := SlT.of Tryd.underlying41 (by kernel_rfl)

set_option maxRecDepth 100000 in
set_option maxHeartbeats 1600000 in
theorem names_any (h : View) (w : World) (hs : Sub h w) (v : Value) (l : List Unit4) (hv : Sl h tUnit v l) (hb : l.length ≤ 5000) :
    Calls Tryd.prog 10 #[v] w fun e w' => ∃ h' r, e = .returned r ∧ Ext w h w' h' ∧ Sl h' tStr r (namesD l) := by
  obtain ⟨A, c, rfl, hl1, hl2, hsl⟩ := hv
  have hx := Ext.refl hs
  obtain ⟨L, hL⟩ : ∃ L, L = l.map (·.st) := ⟨_, rfl⟩
  have hLl : L.length = l.length := by rw [hL]; simp
  have hLk : ∀ k (hk : k < l.length), L.take (k + 1) = L.take k ++ [l[k].st] := fun k hk => by
    subst hL
    exact take_snoc_of _ _ (by simpa using hk) (by simp)
  have HL := Aside.mk hL
  have HLl := Aside.mk hLl
  have HLk := Aside.mk hLk
  clear hL hLl hLk
  go_enter Tryd.func10, Tryd.ntmps10
  go_wp2
  go_loopw [3, 5, 8] (fun out _ i wr => ∃ (k : Nat), k ≤ l.length ∧ i = .int .i64 k ∧ Ext w h wr h ∧ Own wr h w.heap.size 9 tStr out (L.take k)) (fun _ _ i _ => l.length - (intOf i).toNat)
  case atStart => exact ⟨0, Nat.zero_le _, rfl, hx, Own.nil⟩
  case round =>
    obtain ⟨k, hk, rfl, hx, ho⟩ := hrel
    by_cases hlt : k < l.length
    · obtain ⟨b, off, u, hu, rfl, c0, c1, c2, c3, r1, r2, r3, r4⟩ := unit_at hsl hx.sub k hlt
      have hsn := HLk.out k hlt
      rw [← hu] at hsn
      have HS := Aside.mk hsn
      have hlen : (L.take k).length ≤ 5000 := by rw [List.length_take]; omega
      clear hu hsn
      go_wp2_with (at_builtin; refine wpList_app1 (t := tStr) slStr (by decide) rfl rfl (ho.alloc _) (hx.sub.alloc _) rfl u.st rfl (by simp) (⟨rfl, r2⟩) (by omega) (by omega) (by simp; have := hx.ge; omega) ?_; intro v' w' ho' hg hs' hnew)
      have x2 : Ext w h w' h := ((hx.alloc _).alloc _).grown hg fun g e => ⟨(ho.lt g e).1, ho.2 g e⟩
      rw [← HS.out] at ho'
      go_roundw
      case rel => exact ⟨k + 1, hlt, by simp <;> omega, x2, ho'⟩
      case measure => simp [intOf]; omega
    · have hkl : k = l.length := by omega
      subst hkl
      have htk : L.take l.length = L := List.take_of_length_le (by rw [HLl.out]; exact Nat.le_refl _)
      rw [htk] at ho
      have hlen : L.length ≤ 5000 := by rw [HLl.out]; exact hb
      clear htk
      go_wp2_with (first | (go_at_call 21; refine (sortS_own ho hlen).mono ?_; rintro e w' ⟨rfl, hg1, ho1⟩) | (go_at_call 22; refine (compactS_own ho1 hlen).mono ?_; rintro e w' ⟨v', rfl, hg2, ho2⟩))
      go_ret
      have x1 : Ext w h _ h := hx.grown hg1 fun g e => ⟨(ho.lt g e).1, ho.2 g e⟩
      have x2 : Ext w h _ h := x1.grown hg2 fun g e => ⟨(ho.lt g e).1, ho.2 g e⟩
      obtain ⟨h', x', _, s', _⟩ := ho2.publish x2 (Nat.le_refl _)
      rw [HL.out] at s'
      exact ⟨h', _, rfl, x', s'⟩

set_option maxRecDepth 100000 in
set_option maxHeartbeats 1600000 in
theorem clusters_any (h : View) (w : World) (hs : Sub h w) (v : Value) (l : List Unit4) (hv : Sl h tUnit v l) (hb : l.length ≤ 5000) :
    Calls Tryd.prog 12 #[v] w fun e w' => ∃ h' r, e = .returned r ∧ Ext w h w' h' ∧ Sl h' tI r (clusD l) := by
  obtain ⟨A, c, rfl, hl1, hl2, hsl⟩ := hv
  have hx := Ext.refl hs
  obtain ⟨L, hL⟩ : ∃ L, L = l.map (·.cl) := ⟨_, rfl⟩
  have hLl : L.length = l.length := by rw [hL]; simp
  have hLk : ∀ k (hk : k < l.length), L.take (k + 1) = L.take k ++ [l[k].cl] := fun k hk => by
    subst hL
    exact take_snoc_of _ _ (by simpa using hk) (by simp)
  have HL := Aside.mk hL
  have HLl := Aside.mk hLl
  have HLk := Aside.mk hLk
  clear hL hLl hLk
  go_enter Tryd.func12, Tryd.ntmps12
  go_wp2
  go_loopw [3, 5, 8] (fun out _ i wr => ∃ (k : Nat), k ≤ l.length ∧ i = .int .i64 k ∧ Ext w h wr h ∧ Own wr h w.heap.size 3 tI out (L.take k)) (fun _ _ i _ => l.length - (intOf i).toNat)
  case atStart => exact ⟨0, Nat.zero_le _, rfl, hx, Own.nil⟩
  case round =>
    obtain ⟨k, hk, rfl, hx, ho⟩ := hrel
    by_cases hlt : k < l.length
    · obtain ⟨b, off, u, hu, rfl, c0, c1, c2, c3, r1, r2, r3, r4⟩ := unit_at hsl hx.sub k hlt
      have hsn := HLk.out k hlt
      rw [← hu] at hsn
      have HS := Aside.mk hsn
      have hlen : (L.take k).length ≤ 5000 := by rw [List.length_take]; omega
      clear hu hsn
      go_wp2_with (at_builtin; refine wpList_app1 (t := tI) slInt (by decide) rfl rfl (ho.alloc _) (hx.sub.alloc _) rfl u.cl rfl (by simp) (⟨rfl, r3⟩) (by omega) (by omega) (by simp; have := hx.ge; omega) ?_; intro v' w' ho' hg hs' hnew)
      have x2 : Ext w h w' h := ((hx.alloc _).alloc _).grown hg fun g e => ⟨(ho.lt g e).1, ho.2 g e⟩
      rw [← HS.out] at ho'
      go_roundw
      case rel => exact ⟨k + 1, hlt, by simp <;> omega, x2, ho'⟩
      case measure => simp [intOf]; omega
    · have hkl : k = l.length := by omega
      subst hkl
      have htk : L.take l.length = L := List.take_of_length_le (by rw [HLl.out]; exact Nat.le_refl _)
      rw [htk] at ho
      have hlen : L.length ≤ 5000 := by rw [HLl.out]; exact hb
      clear htk
      go_wp2_with (first | (go_at_call 23; refine (sortI_own ho hlen).mono ?_; rintro e w' ⟨rfl, hg1, ho1⟩) | (go_at_call 24; refine (compactI_own ho1 hlen).mono ?_; rintro e w' ⟨v', rfl, hg2, ho2⟩))
      go_ret
      have x1 : Ext w h _ h := hx.grown hg1 fun g e => ⟨(ho.lt g e).1, ho.2 g e⟩
      have x2 : Ext w h _ h := x1.grown hg2 fun g e => ⟨(ho.lt g e).1, ho.2 g e⟩
      obtain ⟨h', x', _, s', _⟩ := ho2.publish x2 (Nat.le_refl _)
      rw [HL.out] at s'
      exact ⟨h', _, rfl, x', s'⟩

set_option maxRecDepth 100000 in
set_option maxHeartbeats 1600000 in
theorem sizes_any (h : View) (w : World) (hs : Sub h w) (v : Value) (l : List Unit4) (hv : Sl h tUnit v l) (hb : l.length ≤ 5000) :
    Calls Tryd.prog 14 #[v] w fun e w' => ∃ h' r, e = .returned r ∧ Ext w h w' h' ∧ Sl h' tI r (l.map (·.size)) := by
  obtain ⟨A, c, rfl, hl1, hl2, hsl⟩ := hv
  have hx := Ext.refl hs
  obtain ⟨L, hL⟩ : ∃ L, L = l.map (·.size) := ⟨_, rfl⟩
  have hLl : L.length = l.length := by rw [hL]; simp
  have hLk : ∀ k (hk : k < l.length), L.take (k + 1) = L.take k ++ [l[k].size] := fun k hk => by
    subst hL
    exact take_snoc_of _ _ (by simpa using hk) (by simp)
  have HL := Aside.mk hL
  have HLl := Aside.mk hLl
  have HLk := Aside.mk hLk
  clear hL hLl hLk
  go_enter Tryd.func14, Tryd.ntmps14
  go_wp2
  go_loopw [3, 5, 8] (fun out _ i wr => ∃ (k : Nat), k ≤ l.length ∧ i = .int .i64 k ∧ Ext w h wr h ∧ Own wr h w.heap.size 3 tI out (L.take k)) (fun _ _ i _ => l.length - (intOf i).toNat)
  case atStart => exact ⟨0, Nat.zero_le _, rfl, hx, Own.nil⟩
  case round =>
    obtain ⟨k, hk, rfl, hx, ho⟩ := hrel
    by_cases hlt : k < l.length
    · obtain ⟨b, off, u, hu, rfl, c0, c1, c2, c3, r1, r2, r3, r4⟩ := unit_at hsl hx.sub k hlt
      have hsn := HLk.out k hlt
      rw [← hu] at hsn
      have HS := Aside.mk hsn
      have hlen : (L.take k).length ≤ 5000 := by rw [List.length_take]; omega
      clear hu hsn
      go_wp2_with (at_builtin; refine wpList_app1 (t := tI) slInt (by decide) rfl rfl (ho.alloc _) (hx.sub.alloc _) rfl u.size rfl (by simp) (⟨rfl, r4⟩) (by omega) (by omega) (by simp; have := hx.ge; omega) ?_; intro v' w' ho' hg hs' hnew)
      have x2 : Ext w h w' h := ((hx.alloc _).alloc _).grown hg fun g e => ⟨(ho.lt g e).1, ho.2 g e⟩
      rw [← HS.out] at ho'
      go_roundw
      case rel => exact ⟨k + 1, hlt, by simp <;> omega, x2, ho'⟩
      case measure => simp [intOf]; omega
    · have hkl : k = l.length := by omega
      subst hkl
      have htk : L.take l.length = L := List.take_of_length_le (by rw [HLl.out]; exact Nat.le_refl _)
      rw [htk] at ho
      have hlen : L.length ≤ 5000 := by rw [HLl.out]; exact hb
      clear htk
      go_wp2
      go_ret
      obtain ⟨h', x', _, s', _⟩ := ho.publish hx (Nat.le_refl _)
      rw [HL.out] at s'
      exact ⟨h', _, rfl, x', s'⟩

theorem ofB_snoc (l : List Unit4) (u : Unit4) (n : ByteArray) : ofB (l ++ [u]) n = if u.st = n then ofB l n ++ [u] else ofB l n := by
  by_cases e : u.st = n
  · subst e; rw [ofB_snoc_same, if_pos rfl]
  · rw [ofB_snoc_other (fun e2 => e e2.symm), if_neg e]
theorem bytes_eq (a b : ByteArray) : (a.toList == b.toList) = decide (a = b) := by
  rw [Go.ByteArray.toList_eq, Go.ByteArray.toList_eq]
  by_cases e : a = b
  · subst e; simp
  · have : a.data.toList ≠ b.data.toList := fun h => e (Pl.data_inj h)
    rw [decide_eq_false e]
    exact beq_eq_false_iff_ne.2 this
set_option maxRecDepth 100000 in
set_option maxHeartbeats 1600000 in
theorem of_any (h : View) (w : World) (hs : Sub h w) (v : Value) (l : List Unit4) (name : ByteArray) (hv : Sl h tUnit v l) (hb : l.length ≤ 5000) :
    Calls Tryd.prog 11 #[v, .string name] w fun e w' => ∃ h' r, e = .returned r ∧ Ext w h w' h' ∧ Sl h' tUnit r (ofB l name) := by
  obtain ⟨A, c, rfl, hl1, hl2, hsl⟩ := hv
  have hx := Ext.refl hs
  go_enter Tryd.func11, Tryd.ntmps11
  go_wp2
  go_loopw [5, 7, 10] (fun out u i wr => ∃ (k : Nat), k ≤ l.length ∧ i = .int .i64 k ∧ Ext w h wr h ∧ Own wr h w.heap.size 45 tUnit out (ofB (l.take k) name)) (fun _ _ i _ => l.length - (intOf i).toNat)
  case atStart => exact ⟨0, Nat.zero_le _, rfl, hx, Own.nil⟩
  case round =>
    obtain ⟨k, hk, rfl, hx, ho⟩ := hrel
    by_cases hlt : k < l.length
    · obtain ⟨b, off, u, hu, rfl, c0, c1, c2, c3, r1, r2, r3, r4⟩ := unit_at hsl hx.sub k hlt
      have hsn := ofB_snoc (l.take k) u name
      rw [← take_snoc_of l k hlt hu] at hsn
      have HS := Aside.mk hsn
      have hlen : (ofB (l.take k) name).length ≤ 5000 := Nat.le_trans (ofB_le _ _) (by rw [List.length_take]; omega)
      have hbe := bytes_eq u.st name
      obtain ⟨bq, hbq⟩ : ∃ bq, (u.st.toList == name.toList) = bq := ⟨_, rfl⟩
      rw [hbq] at hbe
      have HB := Aside.mk hbe
      clear hu hsn hbe
      cases bq
      · have hne : ¬ u.st = name := by have := HB.out; simpa using this.symm
        go_wp2_with fail
        go_roundw
        case rel => exact ⟨k + 1, hlt, by simp <;> omega, hx.alloc _, by rw [HS.out, if_neg hne]; exact ho.alloc _⟩
        case measure => simp [intOf]; omega
      · have heq : u.st = name := by have := HB.out; simpa using this.symm
        have HE := Aside.mk heq
        clear heq
        go_wp2_with (at_builtin; refine wpList_app1 (t := tUnit) slUnit (by decide) rfl rfl (ho.alloc _) (hx.sub.alloc _) rfl u rfl (by simp) (tUnit_mk r1 r2 r3 r4) (by omega) (by omega) (by simp; have := hx.ge; omega) ?_; intro v' w' ho' hg hs' hnew)
        have x2 : Ext w h w' h := ((hx.alloc _).alloc _).grown hg fun g e => ⟨(ho.lt g e).1, ho.2 g e⟩
        go_roundw
        case rel => exact ⟨k + 1, hlt, by simp <;> omega, x2, by rw [HS.out, if_pos HE.out]; exact ho'⟩
        case measure => simp [intOf]; omega
    · have hkl : k = l.length := by omega
      subst hkl
      rw [List.take_length] at ho
      obtain ⟨h', x', _, s', _⟩ := ho.publish hx (Nat.le_refl _)
      have S := Aside.mk s'
      have X := Aside.mk x'
      clear s' x' ho
      go_wp2
      go_ret
      exact ⟨h', _, rfl, X.out, S.out⟩
theorem sum_take (l : List Int) (k : Nat) (hk : k < l.length) : (l.take (k + 1)).sum = (l.take k).sum + l[k] := by
  rw [take_snoc l k hk, List.sum_append]; simp
theorem sum_bound : ∀ {l : List Int}, (∀ x ∈ l, 0 ≤ x ∧ x ≤ 1000000) → 0 ≤ l.sum ∧ l.sum ≤ 1000000 * l.length
  | [], _ => by simp
  | x :: l, h => by
    have h1 := sum_bound (l := l) fun y hy => h y (by simp [hy])
    have h2 := h x (by simp)
    simp only [List.sum_cons, List.length_cons]; omega
set_option maxRecDepth 100000 in
set_option maxHeartbeats 1600000 in
theorem total_any (h : View) (w : World) (hs : Sub h w) (v : Value) (l : List Int) (hv : Sl h tI v l) (hb : l.length ≤ 5000) (hx : ∀ x ∈ l, 0 ≤ x ∧ x ≤ 1000000) :
    Calls Tryd.prog 13 #[v] w fun e w' => e = .returned (.int .i64 l.sum) ∧ w = w' := by
  obtain ⟨A, c, rfl, hl1, hl2, hsl⟩ := hv
  have HX := Aside.mk hx
  clear hx
  go_enter Tryd.func13, Tryd.ntmps13
  go_wp2
  go_loopw [3, 5, 8] (fun n _ i wr => ∃ (k : Nat), k ≤ l.length ∧ i = .int .i64 k ∧ wr = w ∧ n = .int .i64 (l.take k).sum) (fun _ _ i _ => l.length - (intOf i).toNat)
  case atStart => exact ⟨0, Nat.zero_le _, rfl, rfl, by simp⟩
  case round =>
    obtain ⟨k, hk, rfl, rfl, rfl⟩ := hrel
    by_cases hlt : k < l.length
    · obtain ⟨b, off, ds, rfl, hK, hc⟩ := hsl.at_ k hlt
      obtain ⟨rfl, hr⟩ := hK
      obtain ⟨x, hxe⟩ : ∃ x, x = l[k] := ⟨_, rfl⟩
      rw [← hxe] at hc hr
      have c0 := hs.cell (hc 0 _ rfl)
      simp only [show tI.sz = 1 from rfl, Nat.add_zero, Nat.mul_one] at c0
      obtain ⟨s, hse⟩ : ∃ s, s = (l.take k).sum := ⟨_, rfl⟩
      have hsum := sum_take l k hlt
      rw [← hxe, ← hse] at hsum
      have hb1 := sum_bound (l := l.take k) fun y hy => HX.out y (List.mem_of_mem_take hy)
      have hxb := HX.out x (by rw [hxe]; exact List.getElem_mem _)
      rw [← hse] at hb1
      have e1 : IntKind.i64.wrap (s + x) = s + x := IntWalk.i64_in _ (by rw [List.length_take] at hb1; omega)
      have HSM := Aside.mk hsum
      clear hsum hxe hc
      rw [← hse]
      clear hse
      go_wp2
      go_roundw
      case rel => exact ⟨k + 1, hlt, by simp <;> omega, by simp, by rw [HSM.out]⟩
      case measure => simp [intOf]; omega
    · have hkl : k = l.length := by omega
      subst hkl
      rw [List.take_length]
      go_wp2
      go_ret
      first | exact ⟨rfl, rfl⟩ | exact ⟨rfl, trivial⟩ | simp
end Go.Proofs.YthodbodifkeknaaDoor
