/- sample.layersOf, first half: units of a frame, and the map of their strata. -/
import Derived.Test.YthodbodifkeknaaDoorHvMix
import Derived.Test.YthodbodifkeknaaDoorHvMap
import Derived.Test.YthodbodifkeknaaDoorName
import Derived.Test.YthodbodifkeknaaDoorPlain
set_option linter.all false
namespace Go.Proofs.YthodbodifkeknaaDoor
open Go.RowKit Hv Go.Proofs
structure Unit4 where
  id : Int
  st : ByteArray
  cl : Int
  size : Int
def tUnit : Ty Unit4 := tVia (fun u => (u.id, u.st, u.cl, u.size)) (tProd tI (tProd tStr (tProd tI tI)))
theorem tUnit_K {h : View} {u : Unit4} {cs : List Value} (k : tUnit.K h u cs) :
    cs = [.int .i64 u.id, .string u.st, .int .i64 u.cl, .int .i64 u.size] ∧ inRange .i64 u.id ∧ u.st.size ≤ 9223372036854775807 ∧ inRange .i64 u.cl ∧ inRange .i64 u.size := by
  obtain ⟨c1, d1, rfl, ⟨rfl, r1⟩, c2, d2, rfl, ⟨rfl, r2⟩, c3, d3, rfl, ⟨rfl, r3⟩, ⟨rfl, r4⟩⟩ := k
  exact ⟨rfl, r1, r2, r3, r4⟩
theorem tUnit_mk {h : View} {u : Unit4} (r1 : inRange .i64 u.id) (r2 : u.st.size ≤ 9223372036854775807) (r3 : inRange .i64 u.cl) (r4 : inRange .i64 u.size) : tUnit.K h u [.int .i64 u.id, .string u.st, .int .i64 u.cl, .int .i64 u.size] :=
  ⟨[_], _, rfl, ⟨rfl, r1⟩, [_], _, rfl, ⟨rfl, r2⟩, [_], [_], rfl, ⟨rfl, r3⟩, ⟨rfl, r4⟩⟩
theorem slUnit : SlT Tryd.prog 22 45 4 40 := SlT.of Tryd.underlying22 (by kernel_rfl)
def Ks : KeyT Tryd.prog 9 ByteArray := keyS Tryd.underlying9
theorem zeroUnits (w : World) : (zeroValue 22).run Tryd.prog w = .ok (.slice none 0 0) w := by kernel_rfl
/-- The error of unit number i. -/
def unitF (l : List Unit4) (i : Nat) : Int :=
  match l[i]? with
  | none => 0
  | some u => if u.id < 1 then 1 else if 0 < i ∧ u.id ≤ (match l[i-1]? with | some p => p.id | none => 0) then 7 else if nameB u.st.data.toList = false then 5 else if u.cl < 0 ∨ 5000 < u.cl ∨ u.size < 1 ∨ 1000000 < u.size then 1 else 0
theorem unitF_at {l : List Unit4} {i : Nat} (hi : i < l.length) : unitF l i = (if l[i].id < 1 then 1 else if 0 < i ∧ l[i].id ≤ (match l[i-1]? with | some p => p.id | none => 0) then 7 else if nameB l[i].st.data.toList = false then 5 else if l[i].cl < 0 ∨ 5000 < l[i].cl ∨ l[i].size < 1 ∨ 1000000 < l[i].size then 1 else 0) := by
  unfold unitF; rw [List.getElem?_eq_getElem hi]
/-- The error of the first unit that has one, from number i on. -/
def firstF (l : List Unit4) : Nat → Nat → Int
  | 0, _ => 0
  | n + 1, i => if unitF l i ≠ 0 then unitF l i else firstF l n (i + 1)
def unitsF (l : List Unit4) : Int := firstF l l.length 0
theorem firstF_skip (l : List Unit4) : ∀ (n i k : Nat), k ≤ n → (∀ j, i ≤ j → j < i + k → unitF l j = 0) → firstF l n i = firstF l (n - k) (i + k)
  | n, i, 0, _, _ => by simp
  | 0, i, k + 1, h, _ => by omega
  | n + 1, i, k + 1, h, hz => by
    rw [firstF, if_neg (by rw [hz i (Nat.le_refl _) (by omega)]; simp), firstF_skip l n (i + 1) k (by omega) (fun j h1 h2 => hz j (by omega) (by omega))]
    have e1 : n + 1 - (k + 1) = n - k := by omega
    have e2 : i + (k + 1) = i + 1 + k := by omega
    rw [e1, e2]
theorem unitsF_bad {l : List Unit4} {k : Nat} (hk : k < l.length) (hz : ∀ i < k, unitF l i = 0) (hb : unitF l k ≠ 0) : unitsF l = unitF l k := by
  unfold unitsF
  rw [firstF_skip l l.length 0 k (by omega) (fun j _ h => hz j (by omega)), Nat.zero_add]
  obtain ⟨n, hn⟩ : ∃ n, l.length - k = n + 1 := ⟨l.length - k - 1, by omega⟩
  rw [hn, firstF, if_pos hb]
theorem unitsF_good {l : List Unit4} (hz : ∀ i < l.length, unitF l i = 0) : unitsF l = 0 := by
  unfold unitsF
  rw [firstF_skip l l.length 0 l.length (Nat.le_refl _) (fun j _ h => hz j (by omega)), Nat.sub_self]; rfl
def ofB (l : List Unit4) (n : ByteArray) : List Unit4 := l.filter fun u => decide (u.st = n)
theorem ofB_snoc_same (l : List Unit4) (u : Unit4) : ofB (l ++ [u]) u.st = ofB l u.st ++ [u] := by unfold ofB; rw [List.filter_append]; simp
theorem ofB_snoc_other {l : List Unit4} {u : Unit4} {n : ByteArray} (h : n ≠ u.st) : ofB (l ++ [u]) n = ofB l n := by
  unfold ofB; rw [List.filter_append, List.filter_cons, if_neg (by simpa using fun e => h e.symm)]; simp
theorem ofB_le (l : List Unit4) (n : ByteArray) : (ofB l n).length ≤ l.length := List.length_filter_le _ _
theorem ofB_none {l : List Unit4} {n : ByteArray} (h : ¬ ∃ u ∈ l, u.st = n) : ofB l n = [] := by
  unfold ofB
  rw [List.filter_eq_nil_iff]
  intro u hu
  simp only [decide_eq_true_eq]
  exact fun e => h ⟨u, hu, e⟩
theorem take_snoc {α : Type} (l : List α) (k : Nat) (hk : k < l.length) : l.take (k + 1) = l.take k ++ [l[k]] := by simp
/-- The map of the strata. -/
structure Grp (w : World) (h : View) (base : Nat) (m : List (ByteArray × Value)) (l : List Unit4) : Prop where
  keys : ∀ x, (∃ p ∈ m, p.1 = x) ↔ ∃ u ∈ l, u.st = x
  own : ∀ p ∈ m, Own w h base 45 tUnit p.2 (ofB l p.1)
  apart : ∀ p ∈ m, ∀ q ∈ m, p.1 ≠ q.1 → ∀ g, p.2.ownBlock = some g → q.2.ownBlock ≠ some g
theorem Grp.block {w w' : World} {h : View} {base : Nat} {m : List (ByteArray × Value)} {l : List Unit4} (g : Grp w h base m l) (hk : ∀ p ∈ m, ∀ k, p.2.ownBlock = some k → w'.heap[k]? = w.heap[k]?) : Grp w' h base m l :=
  ⟨g.keys, fun p hp => (g.own p hp).block (hk p hp), g.apart⟩
theorem own_cells {α : Type} {t : Ty α} {w : World} {h : View} {base : Nat} {e : TypeId} {v : Value} {xs : List α} (o : Own w h base e t v xs) {g : Nat} (hg : v.ownBlock = some g) : ∃ c, w.heap[g]? = some (.cells c e (0, 0)) := by
  obtain ⟨⟨cs, hr, _⟩, _⟩ := o
  rcases hr.2 with ⟨rfl, _⟩ | ⟨g', cap, cur, rfl, _, hh, _⟩
  · simp [Value.ownBlock] at hg
  · have : g' = g := by simpa [Value.ownBlock] using hg
    subst this; exact ⟨_, hh⟩
theorem own_not_map {α κ : Type} {t : Ty α} {P : Program} {k e : TypeId} {K : KeyT P k κ} {w : World} {h : View} {base b : Nat} {v : Value} {xs : List α} {m : List (κ × Value)} (o : Own w h base e t v xs) (hm : MapIs K w b m) : v.ownBlock ≠ some b := by
  intro hg
  obtain ⟨c, hc⟩ := own_cells o hg
  obtain ⟨es, cl, hb, _⟩ := hm
  rw [hc] at hb; cases hb
theorem Grp.step {W0 w1 w2 : World} {h : View} {base mb : Nat} {m : List (ByteArray × Value)} {L : List Unit4} {u : Unit4} {o : Obj} {v' : Value}
    (g : Grp W0 h base m L) (hm : MapIs Ks W0 mb m) (hn : (m.map (·.1)).Nodup) (ho' : Own w1 h base 45 tUnit v' (ofB L u.st ++ [u]))
    (hgr : (W0.alloc o).grownBy w1 ((lk m u.st).getD (.slice none 0 0)).ownBlock) (hnew : ∀ k, v'.ownBlock = some k → ((lk m u.st).getD (.slice none 0 0)).ownBlock = some k ∨ W0.heap.size < k)
    (hm1 : MapIs Ks w1 mb m) (hg2 : w1.grownBy w2 (some mb)) : Grp w2 h base (mput m u.st v') (L ++ [u]) := by
  have hold : ∀ p ∈ m, p.1 ≠ u.st → Own w2 h base 45 tUnit p.2 (ofB L p.1) := by
    intro p hp hne
    have o0 := g.own p hp
    have o1 : Own w1 h base 45 tUnit p.2 (ofB L p.1) := by
      refine (o0.alloc o).grown hgr fun k hk e => ?_
      cases hl : lk m u.st with
      | none => rw [hl] at e; simp [Value.ownBlock] at e
      | some v =>
        rw [hl] at e
        exact g.apart p hp (u.st, v) (lk_some_mem hl) hne k hk e.symm
    exact o1.grown hg2 fun k hk e => own_not_map o1 hm1 (hk.trans e)
  have hself : Own w2 h base 45 tUnit v' (ofB L u.st ++ [u]) := ho'.grown hg2 fun k hk e => own_not_map ho' hm1 (hk.trans e)
  have hap : ∀ p ∈ m, p.1 ≠ u.st → ∀ k, v'.ownBlock = some k → p.2.ownBlock ≠ some k := by
    intro p hp hne k hk e
    rcases hnew k hk with h1 | h1
    · cases hl : lk m u.st with
      | none => rw [hl] at h1; simp [Value.ownBlock] at h1
      | some v => rw [hl] at h1; exact g.apart p hp (u.st, v) (lk_some_mem hl) hne k e h1
    · have := ((g.own p hp).lt k e).2; omega
  refine ⟨fun x => ?_, fun p hp => ?_, fun p hp q hq hne k hk => ?_⟩
  · constructor
    · rintro ⟨p, hp, rfl⟩
      rcases mem_mput hp with rfl | ⟨hp, _⟩
      · exact ⟨u, by simp, rfl⟩
      · obtain ⟨z, hz, e⟩ := (g.keys p.1).1 ⟨p, hp, rfl⟩
        exact ⟨z, by simp [hz], e⟩
    · rintro ⟨z, hz, rfl⟩
      by_cases e : z.st = u.st
      · exact ⟨(u.st, v'), mem_mput_self _ _, e.symm⟩
      · have hz' : z ∈ L := by
          rcases List.mem_append.1 hz with hz | hz
          · exact hz
          · rw [List.mem_singleton.1 hz] at e; exact absurd rfl e
        obtain ⟨p, hp, e2⟩ := (g.keys z.st).2 ⟨z, hz', rfl⟩
        exact ⟨p, mem_mput_other hp (by rw [e2]; exact e), e2⟩
  · rcases mem_mput hp with rfl | ⟨hp, hne⟩
    · show Own w2 h base _ tUnit v' (ofB (L ++ [u]) u.st)
      rw [ofB_snoc_same]; exact hself
    · rw [ofB_snoc_other hne]; exact hold p hp hne
  · rcases mem_mput hp with rfl | ⟨hp, hpn⟩ <;> rcases mem_mput hq with rfl | ⟨hq, hqn⟩
    · exact absurd rfl hne
    · exact hap q hq hqn k hk
    · exact fun e => hap p hp hpn k e hk
    · exact g.apart p hp q hq hne k hk
theorem Grp.now {W0 : World} {h : View} {base : Nat} {m : List (ByteArray × Value)} {L : List Unit4} (g : Grp W0 h base m L) (x : ByteArray) : Own W0 h base 45 tUnit ((lk m x).getD (.slice none 0 0)) (ofB L x) := by
  cases hl : lk m x with
  | none =>
    rw [ofB_none (fun ⟨u, hu, e⟩ => by
      obtain ⟨p, hp, e2⟩ := (g.keys x).2 ⟨u, hu, e⟩
      exact lk_none.1 hl p hp e2)]
    exact Own.nil
  | some v => exact g.own (x, v) (lk_some_mem hl)
theorem unit_at {h : View} {w : World} {A : Option Addr} {l : List Unit4} (s : SlAt h tUnit A l) (hs : Sub h w) (k : Nat) (hk : k < l.length) : ∃ b off u, u = l[k] ∧ A = some ⟨b, off, none⟩ ∧
    w.cell? ⟨b, off + k * 4, none⟩ = some (.int .i64 u.id) ∧ w.cell? ⟨b, off + k * 4 + 1, none⟩ = some (.string u.st) ∧ w.cell? ⟨b, off + k * 4 + 2, none⟩ = some (.int .i64 u.cl) ∧ w.cell? ⟨b, off + k * 4 + 3, none⟩ = some (.int .i64 u.size) ∧
    inRange .i64 u.id ∧ u.st.size ≤ 9223372036854775807 ∧ inRange .i64 u.cl ∧ inRange .i64 u.size := by
  obtain ⟨b, off, ds, rfl, hK, hc⟩ := s.at_ k hk
  obtain ⟨rfl, r⟩ := tUnit_K hK
  exact ⟨b, off, l[k], rfl, rfl, hs.cell (hc 0 _ rfl), hs.cell (hc 1 _ rfl), hs.cell (hc 2 _ rfl), hs.cell (hc 3 _ rfl), r⟩
def outB (n lo hi : Int) : Bool := decide (n < lo ∨ hi < n)
theorem outside_any (n lo hi : Int) (w : World) : Calls Tryd.prog 17 #[.int .i64 n, .int .i64 lo, .int .i64 hi] w fun e w' => e = .returned (.bool (outB n lo hi)) ∧ w = w' := by
  by_cases h1 : n < lo <;> by_cases h2 : hi < n
  all_goals
    go_enter Tryd.func17, Tryd.ntmps17
    go_wp2
    go_ret
    exact ⟨by simp [outB, h1, h2], rfl⟩
structure Clu where
  number : Int
  size : Int
  units : List Unit4
structure Layer where
  name : ByteArray
  units : List Unit4
  size : Int
  clus : List Clu
def tClu : Ty Clu := tVia (fun c => (c.number, c.size, c.units)) (tProd tI (tProd tI (tSl tUnit)))
def tLayer : Ty Layer := tVia (fun x => (x.name, x.units, x.size, x.clus)) (tProd tStr (tProd (tSl tUnit) (tProd tI (tSl tClu))))
theorem tClu_K {h : View} {u : Clu} {cs : List Value} (k : tClu.K h u cs) : ∃ v, cs = [.int .i64 u.number, .int .i64 u.size, v] ∧ Sl h tUnit v u.units ∧ inRange .i64 u.number ∧ inRange .i64 u.size := by
  obtain ⟨c1, d1, rfl, ⟨rfl, r1⟩, c2, d2, rfl, ⟨rfl, r2⟩, ⟨v, rfl, hv⟩⟩ := k
  exact ⟨v, rfl, hv, r1, r2⟩
theorem tClu_mk {h : View} {u : Clu} {v : Value} (hv : Sl h tUnit v u.units) (r1 : inRange .i64 u.number) (r2 : inRange .i64 u.size) : tClu.K h u [.int .i64 u.number, .int .i64 u.size, v] :=
  ⟨[_], _, rfl, ⟨rfl, r1⟩, [_], [_], rfl, ⟨rfl, r2⟩, ⟨_, rfl, hv⟩⟩
theorem tLayer_K {h : View} {u : Layer} {cs : List Value} (k : tLayer.K h u cs) : ∃ v v2, cs = [.string u.name, v, .int .i64 u.size, v2] ∧ Sl h tUnit v u.units ∧ Sl h tClu v2 u.clus ∧ u.name.size ≤ 9223372036854775807 ∧ inRange .i64 u.size := by
  obtain ⟨c1, d1, rfl, ⟨rfl, r1⟩, c2, d2, rfl, ⟨v, rfl, hv⟩, c3, d3, rfl, ⟨rfl, r3⟩, ⟨v2, rfl, hv2⟩⟩ := k
  exact ⟨v, v2, rfl, hv, hv2, r1, r3⟩
theorem tLayer_mk {h : View} {u : Layer} {v v2 : Value} (hv : Sl h tUnit v u.units) (hv2 : Sl h tClu v2 u.clus) (r1 : u.name.size ≤ 9223372036854775807) (r2 : inRange .i64 u.size) : tLayer.K h u [.string u.name, v, .int .i64 u.size, v2] :=
  ⟨[_], _, rfl, ⟨rfl, r1⟩, [_], _, rfl, ⟨_, rfl, hv⟩, [_], [_], rfl, ⟨rfl, r2⟩, ⟨_, rfl, hv2⟩⟩
theorem slLayer : SlT Tryd.prog 32 37 4 72 := SlT.of Tryd.underlying32 (by kernel_rfl)
theorem slClu : SlT Tryd.prog 35 64 3 40 := SlT.of Tryd.underlying35 (by kernel_rfl)
def namesD (l : List Unit4) : List ByteArray := (Pl.ded (l.map (·.st))).mergeSort Pl.leB
def clusD (l : List Unit4) : List Int := (Pl.ded (l.map (·.cl))).mergeSort (fun a b => decide (a ≤ b))
def totalL (l : List Unit4) : Int := (l.map (·.size)).sum
def inClu (l : List Unit4) (n : Int) : List Unit4 := l.filter fun u => decide (u.cl = n)
def layerL (n : ByteArray) (l : List Unit4) : Layer := ⟨n, l, totalL l, (clusD l).map fun c => ⟨c, totalL (inClu l c), inClu l c⟩⟩
def layersL (l : List Unit4) : List Layer := (namesD l).map fun n => layerL n (ofB l n)
def frameF (l : List Unit4) : Int := if 5000 < l.length then 2 else if unitsF l ≠ 0 then unitsF l else if 40 < (namesD l).length then 2 else 0
def layersR (l : List Unit4) : List Layer := if frameF l = 0 then layersL l else []
theorem Grp.names {w : World} {h : View} {base : Nat} {m : List (ByteArray × Value)} {l : List Unit4} (g : Grp w h base m l) (hn : (m.map (·.1)).Nodup) : (m.map (·.1)).mergeSort Pl.leB = namesD l := by
  refine Pl.sort_same Pl.tot_bytes hn (Pl.ded_nodup _) fun x => ?_
  rw [Pl.mem_ded, List.mem_map, List.mem_map]
  exact g.keys x
theorem Grp.count {w : World} {h : View} {base : Nat} {m : List (ByteArray × Value)} {l : List Unit4} (g : Grp w h base m l) (hn : (m.map (·.1)).Nodup) : m.length = (namesD l).length := by
  rw [← g.names hn, (List.mergeSort_perm _ _).length_eq, List.length_map]
theorem Grp.publish {w0 w : World} {h0 h : View} {m : List (ByteArray × Value)} {l : List Unit4} (x : Ext w0 h0 w h) (g : Grp w h w0.heap.size m l) (hn : (m.map (·.1)).Nodup) :
    ∃ h', Ext w0 h0 w h' ∧ View.le h h' ∧ ∀ p ∈ m, Sl h' tUnit p.2 (ofB l p.1) := by
  have hpw : m.Pairwise (fun p q => ∀ g, p.2.ownBlock = some g → q.2.ownBlock ≠ some g) := by
    rw [List.nodup_iff_pairwise_ne, List.pairwise_map] at hn
    refine List.Pairwise.imp_of_mem (fun {p q} hp hq hne => ?_) hn
    exact g.apart p hp q hq hne
  obtain ⟨h', x', l', s, _⟩ := publishAll (fun n => ofB l n) m x g.own hpw
  exact ⟨h', x', l', s⟩
def KeysS : Prop := ∀ (mb : Nat) (W : World), Calls Tryd.prog 19 #[.map (some mb)] W fun e w' =>
  e = .returned (.func (.func 32) #[] #[.pointer (some ⟨W.heap.size, 0, none⟩)]) ∧ W.alloc (.cells #[.map (some mb)] 47) = w'
def SortedS : Prop := ∀ (h : View) (W : World) (mb : Nat) (m : List (ByteArray × Value)), Sub h W → MapIs Ks W mb m → m.length ≤ 1000000 →
  Calls Tryd.prog 18 #[.func (.func 32) #[] #[.pointer (some ⟨W.heap.size, 0, none⟩)]] (W.alloc (.cells #[.map (some mb)] 47)) fun e w' =>
    ∃ h' v, e = .returned v ∧ Ext (W.alloc (.cells #[.map (some mb)] 47)) h w' h' ∧ Sl h' tStr v ((m.map (·.1)).mergeSort Pl.leB)
def okUnit (u : Unit4) : Prop := 0 ≤ u.cl ∧ u.cl ≤ 5000 ∧ 1 ≤ u.size ∧ u.size ≤ 1000000
def LayerOfS : Prop := ∀ (h : View) (W : World) (n : ByteArray) (v : Value) (us : List Unit4), Sub h W → Sl h tUnit v us → n.size ≤ 9223372036854775807 → us.length ≤ 5000 → (∀ u ∈ us, okUnit u) →
  Calls Tryd.prog 20 #[.string n, v] W fun e w' => ∃ h' v1 v2, e = .returned (.agg #[.string n, v1, .int .i64 (totalL us), v2]) ∧ Ext W h w' h' ∧ tLayer.K h' (layerL n us) [.string n, v1, .int .i64 (totalL us), v2]
theorem unitsF_none {l : List Unit4} : ∀ (n i : Nat), firstF l n i = 0 → ∀ j, i ≤ j → j < i + n → unitF l j = 0
  | 0, _, _, j, h1, h2 => by omega
  | n + 1, i, h, j, h1, h2 => by
    rw [firstF] at h
    split at h
    · rename_i hne; exact absurd h hne
    · rename_i hz
      rcases Nat.lt_or_ge i j with h3 | h3
      · exact unitsF_none n (i + 1) h j (by omega) (by omega)
      · have : j = i := by omega
        subst this; simpa using hz
theorem ok_of_units {l : List Unit4} (h : unitsF l = 0) : ∀ u ∈ l, okUnit u := by
  intro u hu
  obtain ⟨i, hi, rfl⟩ := List.getElem_of_mem hu
  have := unitsF_none l.length 0 h i (Nat.zero_le _) (by omega)
  rw [unitF_at hi] at this
  unfold okUnit
  split at this
  · omega
  split at this
  · omega
  split at this
  · omega
  split at this
  · omega
  · omega
end Go.Proofs.YthodbodifkeknaaDoor
