/- That an operation does on the machine what it does here: reading, writing, values. -/
import Derived.Test.YthedodaghjpdoaaAbsC
import Derived.Laws.CopyRow
set_option linter.unusedVariables false
set_option linter.unusedSimpArgs false
namespace Go.Abs
open Go.RowKit

theorem add_at (g o j : Nat) : (⟨g, o, none⟩ : Addr).add j = ⟨g, o + j, none⟩ := by
  unfold Addr.add
  split
  · rename_i h; subst h; rfl
  · rfl

theorem oneCell_of {v : Value} (h : isCell v = true) : v.oneCell' = true := by cases v <;> simp_all [isCell, Value.oneCell']

section
variable {P : Program} {m : Emb} {h : Heap} {base : Nat} {w0 w : World}

theorem HR.arr (k : HR m h base w0 w) {b es : Nat} {c : List AV} {ro : Bool} (hb : h[b]? = some (.arr c es ro)) :
    ∃ e, m b = some e ∧ e.es = es ∧ ∃ cc t fr, w.heap[e.g]? = some (.cells cc t fr) ∧ cc.size = e.sz ∧ e.off + c.length ≤ e.sz ∧
      (∀ (i : Nat) (v : AV), c[i]? = some v → ∃ cv, cc[e.off + i]? = some cv ∧ VR m v cv ∧ isCell cv = true) ∧ (ro = false → fr = (0, 0) ∧ base ≤ e.g) ∧ (ro = true → e.g < base) := k.obj b _ hb

theorem cell_of_heap {g i : Nat} {cc : Array Value} {t : TypeId} {fr : Nat × Nat} {v : Value} (hg : w.heap[g]? = some (.cells cc t fr)) (hv : cc[i]? = some v) : w.cell? ⟨g, i, none⟩ = some v := by
  simp [World.cell?, hg, hv]

/-- A stretch of cells, read. -/
theorem rdCells_sound (k : HR m h base w0 w) {b o n : Nat} {l : List AV} (hr : rdCells h b o n = some l) :
    ∃ e cs, m b = some e ∧ cs.length = n ∧ (∀ (j : Nat) (v : Value), cs[j]? = some v → w.cell? ⟨e.g, e.off + o + j, none⟩ = some v) ∧ VRs m l cs ∧ (∀ c ∈ cs, isCell c = true) := by
  unfold rdCells at hr
  split at hr
  · rename_i c es ro hb
    split at hr
    · rename_i hlen
      cases hr
      obtain ⟨e, he, _, cc, t, fr, hg, hsz, hoff, hcell, _, _⟩ := k.arr hb
      have get : ∀ (j : Nat) (v : AV), ((c.drop o).take n)[j]? = some v → ∃ cv, ((cc.toList.drop (e.off + o)).take n)[j]? = some cv ∧ VR m v cv ∧ isCell cv = true := by
        intro j v hj
        rw [List.getElem?_take] at hj
        split at hj
        · rename_i hjn
          rw [List.getElem?_drop] at hj
          obtain ⟨cv, h1, h2, h3⟩ := hcell _ _ hj
          refine ⟨cv, ?_, h2, h3⟩
          rw [List.getElem?_take, if_pos hjn, List.getElem?_drop, Array.getElem?_toList, Nat.add_assoc]
          exact h1
        · cases hj
      have hlen2 : ((cc.toList.drop (e.off + o)).take n).length = n := by simp; omega
      have hlen1 : ((c.drop o).take n).length = n := by simp; omega
      refine ⟨e, (cc.toList.drop (e.off + o)).take n, he, hlen2, fun j v hj => ?_, ?_, fun x hx => ?_⟩
      · rw [List.getElem?_take] at hj
        split at hj
        · rw [List.getElem?_drop, Array.getElem?_toList] at hj
          exact cell_of_heap hg hj
        · cases hj
      · exact VRs.of_get (by omega) fun i a ha => let ⟨cv, h1, h2, _⟩ := get i a ha; ⟨cv, h1, h2⟩
      · obtain ⟨j, hj⟩ := List.mem_iff_getElem?.1 hx
        have hjn : j < n := by
          rcases Nat.lt_or_ge j n with h' | h'
          · exact h'
          · rw [List.getElem?_eq_none (by omega)] at hj; cases hj
        obtain ⟨cv, h1, _, h3⟩ := get j _ (List.getElem?_eq_getElem (by omega : j < ((c.drop o).take n).length))
        rw [hj] at h1
        cases h1
        exact h3
    · cases hr
  · cases hr

theorem isAgg_run {t : TypeId} {d : TypeDesc} (hu : P.underlying t = some d) : (isAgg t).run P w = .ok (isAggD d) w := by
  unfold isAgg
  simp only [Sem.run_bind, run_underlying hu, Result.andThen_ok]
  cases d <;> rfl
theorem typeInfo_run {t : TypeId} {i : TypeInfo} (hi : P.info? t = some i) : (typeInfo t).run P w = .ok i w := by
  simp [typeInfo, hi]
theorem sizeOf_run {t : TypeId} {i : TypeInfo} (hi : P.info? t = some i) : (Go.sizeOf t).run P w = .ok i.size w := by
  simp [Go.sizeOf, typeInfo_run hi]

theorem loadVar_sound (k : HR m h base w0 w) {t : TypeId} {agg : Option Nat} (ha : aggT P t = some agg) {b o : Nat} {v : AV} (hr : rdVar h agg b o = some v) {cv0 : Value} (hp : VR m (.ptr b o) cv0) :
    ∃ a cv, cv0 = .pointer (some a) ∧ (loadVar t a).run P w = .ok cv w ∧ VR m v cv := by
  unfold aggT at ha
  split at ha
  · rename_i d i hu hi
    simp only [VR] at hp
    obtain ⟨e', he', rfl⟩ := hp
    simp only [Option.some.injEq] at ha
    cases hd : isAggD d with
    | true =>
      simp only [hd, if_true] at ha
      subst ha
      simp only [rdVar, Option.map_eq_some_iff] at hr
      obtain ⟨l, hl, rfl⟩ := hr
      obtain ⟨e, cs, he, hlen, hc, hv, hk⟩ := rdCells_sound k hl
      rw [he'] at he
      cases he
      refine ⟨_, .agg cs.toArray, rfl, ?_, ?_⟩
      · unfold loadVar
        simp only [Sem.run_bind, isAgg_run hu, hd, Result.andThen_ok, if_true, sizeOf_run hi]
        rw [← hlen, run_loadCells_list w _ cs (fun j v hj => by rw [add_at]; exact hc j v hj)]
        simp
      · simp only [VR]
        exact ⟨cs.toArray, rfl, by simpa using hv, by simpa using hk⟩
    | false =>
      simp only [hd, Bool.false_eq_true, if_false] at ha
      subst ha
      simp only [rdVar, Option.bind_eq_some_iff] at hr
      obtain ⟨l, hl, hh⟩ := hr
      obtain ⟨e, cs, he, hlen, hc, hv, hk⟩ := rdCells_sound k hl
      rw [he'] at he
      cases he
      have hl1 := hv.length
      match cs, l, hlen, hl1, hh, hv with
      | [c], [x], _, _, hh, hv =>
        simp only [List.head?_cons, Option.some.injEq] at hh
        subst hh
        simp only [VRs] at hv
        obtain ⟨_, _, hcc, hx, _⟩ := hv
        cases hcc
        refine ⟨_, c, rfl, ?_, hx⟩
        unfold loadVar
        simp only [Sem.run_bind, isAgg_run hu, hd, Result.andThen_ok, Bool.false_eq_true, if_false, run_load]
        have := hc 0 c rfl
        simp only [Nat.add_zero] at this
        rw [this]
  · cases ha

/-- What is written into a row. -/
theorem setCells_get {α : Type} : ∀ (vs : List α) (c : List α) (o i : Nat), o + vs.length ≤ c.length → (setCells c o vs)[i]? = if o ≤ i ∧ i < o + vs.length then vs[i - o]? else c[i]?
  | [], c, o, i, h => by simp [setCells]; omega
  | v :: vs, c, o, i, h => by
    simp only [List.length_cons] at h
    rw [setCells, setCells_get vs (c.set o v) (o + 1) i (by simp; omega)]
    simp only [List.length_cons]
    by_cases hi : i = o
    · subst hi
      have : ¬ (i + 1 ≤ i ∧ i < i + 1 + vs.length) := by omega
      rw [if_neg this, if_pos (by omega)]
      simp [List.getElem?_set]
      omega
    · by_cases hr : o + 1 ≤ i ∧ i < o + 1 + vs.length
      · rw [if_pos hr, if_pos (by omega)]
        obtain ⟨j, rfl⟩ : ∃ j, i = o + 1 + j := ⟨i - (o + 1), by omega⟩
        rw [show o + 1 + j - (o + 1) = j by omega, show o + 1 + j - o = j + 1 by omega]
        simp
      · rw [if_neg hr, if_neg (by omega)]
        simp [List.getElem?_set, Ne.symm hi]
theorem setCells_length {α : Type} : ∀ (vs : List α) (c : List α) (o : Nat), (setCells c o vs).length = c.length
  | [], c, o => rfl
  | v :: vs, c, o => by rw [setCells, setCells_length vs]; simp

theorem cells_sound {x : AV} {cs : List AV} (hc : x.cells = some cs) {cv : Value} (hv : VR m x cv) : VRs m cs cv.cells.toList ∧ ∀ c ∈ cv.cells.toList, isCell c = true := by
  cases x <;> simp only [AV.cells, Option.some.injEq, reduceCtorEq] at hc
  case agg l =>
    subst hc
    simp only [VR] at hv
    obtain ⟨cs, rfl, h1, h2⟩ := hv
    exact ⟨h1, h2⟩
  all_goals
    subst hc
    have key : isCell cv = true := by
      simp only [VR] at hv
      first
        | (subst hv; rfl)
        | (obtain ⟨e, he, rfl⟩ := hv; rfl)
        | (obtain ⟨e, he, ⟨c, rfl, _⟩ | ⟨_, a, rfl⟩⟩ := hv <;> rfl)
        | (obtain ⟨cs, rfl, _⟩ := hv; rfl)
    have hcells : cv.cells.toList = [cv] := by cases cv <;> first | rfl | (simp [isCell] at key)
    rw [hcells]
    exact ⟨by simp only [VRs]; exact ⟨cv, [], rfl, hv, rfl⟩, by simpa using key⟩

theorem setRow_other (w : World) (g : Nat) (cs : Array Value) (k : Nat) (hk : k ≠ g) : (w.setRow g cs).heap[k]? = w.heap[k]? := by
  simp only [World.setRow, Array.getElem?_modify]
  rw [if_neg (Ne.symm hk)]
theorem setRow_same (w : World) (g : Nat) (cs cur : Array Value) (t : TypeId) (fr : Nat × Nat) (hg : w.heap[g]? = some (.cells cur t fr)) : (w.setRow g cs).heap[g]? = some (.cells cs t fr) := by
  simp only [World.setRow, Array.getElem?_modify]
  simp [hg]

/-- A stretch of cells, written. -/
theorem wrCells_sound (k : HR m h base w0 w) {b o : Nat} {vs : List AV} {h' : Heap} (hr : wrCells h b o vs = some h') {cs : List Value} (hv : VRs m vs cs) (hc : ∀ c ∈ cs, isCell c = true) {e : Ent} (he : m b = some e) :
    ∃ w', (storeCells ⟨e.g, e.off + o, none⟩ cs 0).run P w = .ok () w' ∧ HR m h' base w0 w' := by
  unfold wrCells at hr
  split at hr
  · rename_i c es hb
    split at hr
    · rename_i hlen
      cases hr
      obtain ⟨e', he', hes, cc, t, fr, hg, hsz, hoff, hcell, hrw, _⟩ := k.arr hb
      rw [he] at he'
      cases he'
      obtain ⟨rfl, hbase⟩ := hrw rfl
      have hl := hv.length
      refine ⟨_, run_storeCells_at P e.g (e.off + o) t cs 0 cc w hg (by omega) (fun v hv => oneCell_of (hc v hv)), ?_⟩
      refine k.change b _ _ e hb he rfl hbase (by simp [World.setRow]) rfl rfl rfl (fun g hg' => setRow_other _ _ _ _ hg') ?_
      refine ⟨e, he, hes, _, t, (0, 0), setRow_same _ _ _ _ _ _ hg, ?_, ?_, fun i v hi => ?_, fun _ => ⟨rfl, hbase⟩, fun hf => by cases hf⟩
      · simp; omega
      · rw [setCells_length]; exact hoff
      · rw [setCells_get vs c o i hlen] at hi
        simp only [List.getElem?_toArray, Nat.add_zero]
        split at hi
        · rename_i hin
          obtain ⟨cv, h1, h2⟩ := hv.get _ _ hi
          refine ⟨cv, ?_, h2, hc cv (List.mem_of_getElem? h1)⟩
          rw [List.append_assoc, List.getElem?_append_right (by simp; omega), List.getElem?_append_left (by simp; omega)]
          rw [← h1]
          congr 1
          simp
          omega
        · rename_i hout
          obtain ⟨cv, h1, h2, h3⟩ := hcell i v hi
          refine ⟨cv, ?_, h2, h3⟩
          by_cases hlo : i < o
          · rw [List.append_assoc, List.getElem?_append_left (by simp; omega), List.getElem?_take, if_pos (by omega), Array.getElem?_toList]
            exact h1
          · rw [List.getElem?_append_right (by simp; omega), List.getElem?_drop, Array.getElem?_toList]
            rw [← h1]
            congr 1
            simp
            omega
    · cases hr
  · cases hr
end
end Go.Abs
