/- 'm[x] op= v' in two steps: the entry is made, then its value stored by the entry's stamp. -/
import Derived.Test.YtaakpcmflladaaaDoorHvRange
import Derived.WideKeyEntry
set_option linter.all false
set_option linter.unusedSectionVars false
namespace Go.Proofs.YtaakpcmflladaaaDoor
namespace Hv
open Go.RowKit Go.Maps Go.ChangeMaps Go.MapKept
variable {P : Program} {k e t : TypeId} {κ : Type} [DecidableEq κ] {K : KeyT P k κ} {w w' : World} {b : Nat} {m : List (κ × Value)}
theorem lk_mput_self {x : κ} {v : Value} (hn : (m.map (·.1)).Nodup) (hn2 : ((mput m x v).map (·.1)).Nodup) : lk (mput m x v) x = some v :=
  lk_of_mem hn2 (mem_mput_self x v)
theorem mput_mput {x : κ} {a v : Value} : mput (mput m x a) x v = mput m x v := by
  unfold mput
  by_cases h : m.any (fun p => decide (p.1 = x)) = true
  · rw [if_pos h, if_pos h]
    have h2 : (m.map (fun p => if p.1 = x then (x, a) else p)).any (fun p => decide (p.1 = x)) = true := by
      rw [List.any_eq_true] at h ⊢
      obtain ⟨p, hp, e⟩ := h
      have e := of_decide_eq_true e
      exact ⟨(x, a), List.mem_map.2 ⟨p, hp, by rw [if_pos e]⟩, by simp⟩
    rw [if_pos h2, List.map_map]
    refine List.map_congr_left fun p hp => ?_
    by_cases e : p.1 = x
    · simp [e]
    · simp [e]
  · rw [if_neg h, if_neg h]
    have h2 : (m ++ [(x, a)]).any (fun p => decide (p.1 = x)) = true := by rw [List.any_append]; simp
    rw [if_pos h2, List.map_append]
    congr 1
    · refine (List.map_congr_left fun p hp => ?_).trans (List.map_id m)
      have : m.any (fun p => decide (p.1 = x)) = false := by
        cases e : m.any (fun p => decide (p.1 = x))
        · rfl
        · exact absurd e h
      rw [List.any_eq_false] at this
      have := this p hp
      rw [if_neg (by simpa using this)]; rfl
    · simp
theorem run_entry (h : MapIs K w b m) (ht : P.underlying t = some (.map k e)) {z : Value} (hz : ∀ u : World, (zeroValue e).run P u = .ok z u) {x : κ} (hx : K.ok x) :
    ∃ (st : Nat) (w' : World), (Instr.mapEntry t (.map (some b)) (K.ek x)).run P w = .ok (.tuple #[(lk m x).getD z, goInt st]) w' ∧ w.grownBy w' (some b) ∧ w'.heap.size = w.heap.size ∧ MapIs K w' b (mput m x ((lk m x).getD z)) ∧
      ∀ (w2 : World) (val : Value), w2.heap[b]? = w'.heap[b]? → ∃ w3, (Instr.entryStore t (.map (some b)) (goInt st) val).run P w2 = .ok () w3 ∧ MapIs K w3 b (mput m x val) ∧ w2.grownBy w3 (some b) ∧ w3.heap.size = w2.heap.size := by
  obtain ⟨l, hl⟩ := K.is x hx
  obtain ⟨w', hr, hm', hg, hsz⟩ := run_put h ht hx ((lk m x).getD z)
  have hn := h.nodup
  have hn' := hm'.nodup
  have key : ∃ (st : Nat) (es1 : Array MapEntry) (c1 : Nat) (j : Nat) (y : MapEntry), (Instr.mapEntry t (.map (some b)) (K.ek x)).run P w = .ok (.tuple #[(lk m x).getD z, goInt st]) w' ∧ w'.heap[b]? = some (.map es1 c1) ∧ es1[j]? = some y ∧ y.born = st ∧ y.key = K.ek x := by
    have hst := K.keyed.stays w hl
    obtain ⟨es, cl, hb, hcase⟩ := h.find hx
    rcases hcase with ⟨e1, h1, h2⟩ | ⟨v0, j, y, e1, h1, h2, h3, h4⟩
    · have hmu : (Instr.mapUpdate t (.map (some b)) (K.ek x) z).run P w = .ok () (setBlock w b (.map (es.push ⟨K.ek x, z, cl⟩) (cl + 1))) := by
        simp [Instr.mapUpdate, run_underlying ht, MapKept.run_getObj_map hb, K.keyed.check w _ hl, h1, MapKept.run_setObj_map _ hb, Result.andThen, setBlock]
      rw [e1] at hr
      have hw : w' = setBlock w b (.map (es.push ⟨K.ek x, z, cl⟩) (cl + 1)) := by
        have := hr.symm.trans hmu
        injection this
      refine ⟨cl, _, _, es.size, ⟨K.ek x, z, cl⟩, ?_, by rw [hw]; exact heap_setBlock_same hb _, by simp, rfl, rfl⟩
      rw [hw, e1]
      simp [Instr.mapEntry, run_underlying ht, MapKept.run_getObj_map hb, K.keyed.check w false hl, h1, hz, MapKept.run_setObj_map _ hb, Result.andThen, setBlock]
    · have hsame : es.modify j (fun e => { e with key := K.ek x }) = es := by
        apply Array.ext'
        rw [Array.toList_modify, modify_eq_set _ _ _ _ (by simpa using h2)]
        have : ({ y with key := K.ek x } : MapEntry) = y := by rw [← h3]
        rw [this]
        exact Go.WideElems.set_self _ _ _ (by simpa using h2)
      have hsame2 : es.modify j (fun e => { e with key := K.ek x, val := v0 }) = es := by
        apply Array.ext'
        rw [Array.toList_modify, modify_eq_set _ _ _ _ (by simpa using h2)]
        have : ({ y with key := K.ek x, val := v0 } : MapEntry) = y := by rw [← h3, ← h4]
        rw [this]
        exact Go.WideElems.set_self _ _ _ (by simpa using h2)
      have hmu : (Instr.mapUpdate t (.map (some b)) (K.ek x) v0).run P w = .ok () (setBlock w b (.map es cl)) := by
        simp [Instr.mapUpdate, run_underlying ht, MapKept.run_getObj_map hb, K.keyed.check w _ hl, h1, h2, h3, hst, hsame2, MapKept.run_setObj_map _ hb, Result.andThen, setBlock]
      rw [e1] at hr
      have hw : w' = setBlock w b (.map es cl) := by
        have := hr.symm.trans hmu
        injection this
      refine ⟨y.born, _, _, j, y, ?_, by rw [hw]; exact heap_setBlock_same hb _, h2, rfl, h3⟩
      rw [hw, e1]
      simp [Instr.mapEntry, run_underlying ht, MapKept.run_getObj_map hb, K.keyed.check w false hl, h1, h2, h3, hst, hsame, MapKept.run_setObj_map _ hb, Result.andThen, setBlock]
  obtain ⟨st, es1, c1, j, y, hrun, hb1, hj, hys, hyk⟩ := key
  refine ⟨st, w', hrun, hg, hsz, hm', fun w2 val hw2 => ?_⟩
  have hm2 : MapIs K w2 b (mput m x ((lk m x).getD z)) := hm'.block hw2
  have hb2 : w2.heap[b]? = some (.map es1 c1) := hw2.trans hb1
  obtain ⟨w3, hr3, hm3, hg3, hs3⟩ := run_put hm2 ht hx val
  rw [mput_mput] at hm3
  refine ⟨w3, ?_, hm3, hg3, hs3⟩
  obtain ⟨es0, c0, hb0, hk0, hkn, _, hbo, hbn⟩ := hm2
  rw [hb2] at hb0
  injection hb0 with hb0
  injection hb0 with hb01 hb02
  subst hb01
  subst hb02
  have hkeys := key_inj_of hk0 hkn
  have hst := K.keyed.stays w2 hl
  obtain ⟨es, cl, hb, hcase⟩ := (hm'.block hw2).find hx
  rw [hb2] at hb
  injection hb with hb
  injection hb with hb01 hb02
  subst hb01
  subst hb02
  rcases hcase with ⟨e1, h1, h2⟩ | ⟨v0, j2, y2, e1, h1, h2, h3, h4⟩
  · rw [lk_mput_self hn hn'] at e1; cases e1
  · have hjj : j2 = j := by
      have hj1 := (Array.getElem?_eq_some_iff.1 h2)
      have hj3 := (Array.getElem?_eq_some_iff.1 hj)
      obtain ⟨a1, a2⟩ := hj1
      obtain ⟨b1, b2⟩ := hj3
      have : (es1.toList.map (·.key))[j2]'(by simpa using a1) = (es1.toList.map (·.key))[j]'(by simpa using b1) := by
        simp [a2, b2, h3, hyk]
      exact (List.getElem_inj hkeys).1 this
    subst hjj
    rw [hj] at h2
    injection h2 with h2
    subst h2
    have hidx : es1.findIdx? (fun e => ((e.born : Nat) : Int) == ((st : Nat) : Int)) = some j2 := by
      rw [Go.WideElems.findIdx_arr, ← hys]
      exact Go.WideElems.findIdx_born hbn (by simpa using hj)
    have hmod : es1.modify j2 (fun e => { e with val := val }) = es1.modify j2 (fun e' => { e' with key := K.ek x, val := val }) := by
      apply Array.ext'
      rw [Array.toList_modify, Array.toList_modify, modify_eq_set _ _ _ _ (by simpa using hj), modify_eq_set _ _ _ _ (by simpa using hj), ← h3]
    have hmu : (Instr.mapUpdate t (.map (some b)) (K.ek x) val).run P w2 = .ok () (setBlock w2 b (.map (es1.modify j2 (fun e' => { e' with key := K.ek x, val := val })) c1)) := by
      simp [Instr.mapUpdate, run_underlying ht, MapKept.run_getObj_map hb2, K.keyed.check w2 _ hl, h1, hj, h3, hst, MapKept.run_setObj_map _ hb2, Result.andThen, setBlock]
    have hw : w3 = setBlock w2 b (.map (es1.modify j2 (fun e' => { e' with key := K.ek x, val := val })) c1) := by
      have := hr3.symm.trans hmu
      injection this
    rw [hw, ← hmod]
    simp [Instr.entryStore, MapKept.run_getObj_map hb2, asInt, asIntOf, goInt, hidx, MapKept.run_setObj_map _ hb2, Result.andThen, setBlock]
theorem wpList_entry {ops : Array Oper} {rest : List Oper} {o : Oper} {a : Act} {Q : Exit → Act → World → Prop} {mo xo : Operand} {z : Value} {x : κ} (h : MapIs K w b m) (ht : P.underlying t = some (.map k e)) (hz : ∀ u : World, (zeroValue e).run P u = .ok z u)
    (hok : K.ok x) (hg : o.guard = none) (hop : o.op = .mapEntry t mo xo) (hm : a.eval mo = .map (some b)) (hx : a.eval xo = K.ek x)
    (hk : ∀ (st : Nat) w', w.grownBy w' (some b) → w'.heap.size = w.heap.size → MapIs K w' b (mput m x ((lk m x).getD z)) →
      (∀ (w2 : World) (val : Value), w2.heap[b]? = w'.heap[b]? → ∃ w3, (Instr.entryStore t (.map (some b)) (goInt st) val).run P w2 = .ok () w3 ∧ MapIs K w3 b (mput m x val) ∧ w2.grownBy w3 (some b) ∧ w3.heap.size = w2.heap.size) →
      wpList P ops Q rest (a.put o.dst (.tuple #[(lk m x).getD z, goInt st])) w') : wpList P ops Q (o :: rest) a w := by
  refine wpList_plain hg fun K' hK' => ?_
  obtain ⟨st, w', hr, h1, h2, h3, h4⟩ := run_entry h ht hz hok
  unfold Oper.wp
  simp [execOp, hop, hm, hx, hr, Result.andThen]
  exact hK' _ _ (hk st w' h1 h2 h3 h4)
theorem wpList_estore {ops : Array Oper} {rest : List Oper} {o : Oper} {a : Act} {Q : Exit → Act → World → Prop} {mo so vo : Operand} {mv sv v : Value} (hg : o.guard = none) (hop : o.op = .entryStore t mo so vo) (hm : a.eval mo = mv) (hs : a.eval so = sv) (hv : a.eval vo = v)
    {w3 : World} (hr : (Instr.entryStore t mv sv v).run P w = .ok () w3)
    (hk : wpList P ops Q rest (a.put o.dst undef) w3) : wpList P ops Q (o :: rest) a w := by
  refine wpList_plain hg fun K' hK' => ?_
  unfold Oper.wp
  simp [execOp, hop, hm, hs, hv, hr, Result.andThen]
  exact hK' _ _ hk
end Hv
end Go.Proofs.YtaakpcmflladaaaDoor
