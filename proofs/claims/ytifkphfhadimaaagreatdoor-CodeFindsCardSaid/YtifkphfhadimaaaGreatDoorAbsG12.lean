import Derived.Test.YtifkphfhadimaaaGreatDoorAbsG11
import Derived.Sort.Grow
import Derived.Lib.SlicesCompact
set_option linter.unusedVariables false
set_option linter.unusedSimpArgs false
namespace Go.Abs
open Go.RowKit

def encZ (n : Int) : AV := .int .i64 n
def sortZ (zs : List Int) : List Int := zs.mergeSort fun x y => decide (x ≤ y)
def compZ (zs : List Int) : List Int := Lib.compact zs ++ List.replicate (zs.length - (Lib.compact zs).length) 0
theorem sortZ_len (zs : List Int) : (sortZ zs).length = zs.length := by simp [sortZ]
theorem compact_len (zs : List Int) : (Lib.compact zs).length ≤ zs.length := by
  unfold Lib.compact Lib.compactUpTo
  rw [List.length_map]
  exact Nat.le_trans (List.length_filter_le _ _) (by simp)
theorem compZ_len (zs : List Int) : (compZ zs).length = zs.length := by
  have := compact_len zs
  simp [compZ]
  omega

structure SortN where
  fs : Nat
  fc : Nat

def sortPrim (N : SortN) (f : Nat) (args : List AV) (h : Heap) (Q : AV → Heap → Prop) : Prop :=
  (f = N.fs ∧ args = [.nilslice] ∧ Q (.tuple []) h) ∨
  (f = N.fs ∧ ∃ (b : Nat) (zs : List Int), args = [.slice b 0 zs.length] ∧ zs ≠ [] ∧ zs.length ≤ 1000000 ∧ h[b]? = some (.arr (zs.map encZ) 1 false) ∧ Q (.tuple []) (h.set b (.arr ((sortZ zs).map encZ) 1 false))) ∨
  (f = N.fc ∧ args = [.nilslice] ∧ Q .nilslice h) ∨
  (f = N.fc ∧ ∃ (b : Nat) (zs : List Int), args = [.slice b 0 zs.length] ∧ zs ≠ [] ∧ zs.length ≤ 1000000 ∧ h[b]? = some (.arr (zs.map encZ) 1 false) ∧ Q (.slice b 0 (Lib.compact zs).length) (h.set b (.arr ((compZ zs).map encZ) 1 false)))

structure SortOK (P : Program) (N : SortN) : Prop where
  fns : IsFn P N.fs
  fnc : IsFn P N.fc
  sort0 : ∀ w : World, Calls P N.fs #[.slice none 0 0] w fun e w' => e = .returned (.tuple #[]) ∧ w' = w
  sort : ∀ (blk off cap : Nat) (zs : List Int) (w : World), Sort.Holds (Value.int .i64) w blk off zs.toArray → blk < w.heap.size → zs.length ≤ 1000000 → Calls P N.fs #[.slice (some ⟨blk, off, none⟩) zs.length cap] w fun e w' => e = .returned (.tuple #[]) ∧ ∃ n os, w' = Sort.grow (Sort.putRow (Value.int .i64) (Sort.ahead w n) blk off (sortZ zs).toArray) os
  compact0 : ∀ w : World, Calls P N.fc #[.slice none 0 0] w fun e w' => e = .returned (.slice none 0 0) ∧ w' = w
  compact : ∀ (blk off cap : Nat) (zs : List Int) (w : World), Sort.Holds (Value.int .i64) w blk off zs.toArray → zs.length ≤ 1000000 → zs.length ≤ cap → Calls P N.fc #[.slice (some ⟨blk, off, none⟩) zs.length cap] w fun e w' => e = .returned (.slice (some ⟨blk, off, none⟩) (Lib.compact zs).length cap) ∧ ∃ q, w' = Sort.putRow (Value.int .i64) (Sort.ahead w q) blk off (compZ zs).toArray

section
variable {P : Program} {m : Emb} {h : Heap} {base : Nat} {w0 w : World}
theorem put_heap {g off n : Nat} {d : Array Int} {os : Array Obj} {cc : Array Value} {t : TypeId} {fr : Nat × Nat} (hg : w.heap[g]? = some (.cells cc t fr)) : (Sort.grow (Sort.putRow (Value.int .i64) (Sort.ahead w n) g off d) os).heap[g]? = some (.cells (Sort.putCells (Value.int .i64) off d cc) t fr) := by
  have hlt := (Array.getElem?_eq_some_iff.1 hg).1
  rw [Sort.heap_grow_old _ _ (by simpa using hlt)]
  simp [Sort.putRow, Sort.mapBlock, Array.getElem?_modify, hg, Sort.onCells]
theorem put_other {g off n k : Nat} {d : Array Int} {os : Array Obj} (hk : k < w.heap.size) (hne : k ≠ g) : (Sort.grow (Sort.putRow (Value.int .i64) (Sort.ahead w n) g off d) os).heap[k]? = w.heap[k]? := by
  rw [Sort.heap_grow_old _ _ (by simpa using hk)]
  simp [Sort.putRow, Sort.mapBlock, Array.getElem?_modify, Ne.symm hne]

theorem row_put (k : HR m h base w0 w) {b : Nat} {zs zs' : List Int} {e : Ent} (hb : h[b]? = some (.arr (zs.map encZ) 1 false)) (hl : zs'.length = zs.length) (he : m b = some e) (n : Nat) (os : Array Obj) :
    HR m (h.set b (.arr (zs'.map encZ) 1 false)) base w0 (Sort.grow (Sort.putRow (Value.int .i64) (Sort.ahead w n) e.g e.off zs'.toArray) os) := by
  obtain ⟨e', he', hes, cc, t, fr, h1, h2, h3, h4, h5, h6⟩ := k.obj b _ hb
  rw [he] at he'
  cases he'
  obtain ⟨rfl, hbase⟩ := h5 rfl
  have hbl : b < h.length := (k.lt b e he).2
  have ht : Turns w (Sort.grow (Sort.putRow (Value.int .i64) (Sort.ahead w n) e.g e.off zs'.toArray) os) (· = e.g) :=
    ⟨rfl, rfl, rfl, by simp, fun q hq hs => put_other hq hs⟩
  have live : ∀ (i : Nat) (o : AObj) (ei : Ent), (h.set b .dead)[i]? = some o → o.rw = true → m i = some ei → ei.g ≠ e.g := by
    intro i o ei hi hr hm
    rw [List.getElem?_set] at hi
    by_cases c : b = i
    · rw [if_pos c] at hi
      split at hi <;> cases hi <;> cases hr
    · rw [if_neg c] at hi
      exact k.uniq i b o _ ei e hi hb hr rfl hm he (Ne.symm c)
  have k1 := (k.kill b).turnFree ht (fun g hg => hg ▸ hbase) live
  have k2 := k1.revive (b := b) (e := e) (o' := .arr (zs'.map encZ) 1 false) (by simpa using hbl) he (fun i o ei hib hi hr hm => live i o ei hi hr hm) ?_
  · rwa [List.set_set] at k2
  · refine ⟨e, he, hes, _, t, (0, 0), put_heap h1, by simp [Sort.putCells, h2], by simpa [hl] using h3, fun i v hv => ?_, fun _ => ⟨rfl, hbase⟩, fun hq => by cases hq⟩
    rw [List.getElem?_map] at hv
    obtain ⟨z, hz, rfl⟩ := Option.map_eq_some_iff.1 hv
    have hi := (List.getElem?_eq_some_iff.1 hz).1
    have hil : e.off + i < cc.size := by simp at h3; omega
    refine ⟨.int .i64 z, ?_, by simp only [encZ, VR], rfl⟩
    simp only [Sort.putCells, Array.getElem?_mapIdx, Array.getElem?_eq_getElem hil, Option.map_some, List.size_toArray]
    rw [if_pos ⟨by omega, by omega⟩, show e.off + i - e.off = i by omega]
    congr 2
    rw [getElem!_pos _ _ (by simpa using hi), List.getElem_toArray]
    exact (List.getElem?_eq_some_iff.1 hz).2

theorem row_holds (k : HR m h base w0 w) {b : Nat} {zs : List Int} {e : Ent} (hb : h[b]? = some (.arr (zs.map encZ) 1 false)) (he : m b = some e) : Sort.Holds (Value.int .i64) w e.g e.off zs.toArray ∧ e.g < w.heap.size := by
  obtain ⟨e', he', hes, cc, t, fr, h1, h2, h3, h4, h5, h6⟩ := k.obj b _ hb
  rw [he] at he'
  cases he'
  obtain ⟨rfl, hbase⟩ := h5 rfl
  refine ⟨fun j hj => ⟨?_, Lib.frozen_of_heap h1 _⟩, (k.lt b e he).1⟩
  have hj : j < zs.length := by simpa using hj
  obtain ⟨cv, g1, g2, _⟩ := h4 j (encZ zs[j]) (by simp [hj])
  simp only [encZ, VR] at g2
  rw [Lib.cell_of_heap h1, g1, g2, getElem!_pos _ _ (by simpa using hj), List.getElem_toArray]

theorem slice_arg {b n : Nat} {cargs : Array Value} (hn : n ≠ 0) (ha : VRs m [.slice b 0 n] cargs.toList) : ∃ e c, m b = some e ∧ cargs = #[.slice (some ⟨e.g, e.off, none⟩) n c] ∧ n ≤ c ∧ e.off + c * e.es ≤ e.sz := by
  simp only [VRs, VR] at ha
  obtain ⟨c1, cs, e1, ⟨e, he, hv⟩, rfl⟩ := ha
  rcases hv with ⟨c, rfl, h2, h3⟩ | ⟨h0, _⟩
  · refine ⟨e, c, he, ?_, h2, by simpa using h3⟩
    apply Array.ext'
    rw [e1]
    rfl
  · exact absurd h0 hn

theorem good_sort {out : Prop} {N : SortN} (hN : SortOK P N) {b : Nat} {zs : List Int} {Q : AV → Heap → Prop} (h0 : zs ≠ []) (hl : zs.length ≤ 1000000) (hb : h[b]? = some (.arr (zs.map encZ) 1 false))
    (hQ : Q (.tuple []) (h.set b (.arr ((sortZ zs).map encZ) 1 false))) : Good P base w0 out (.call N.fs [.slice b 0 zs.length] Q) h := by
  intro m w cargs ha hk O a next Q' hnext hlet
  obtain ⟨fn, c, f1, f2, f3⟩ := hN.fns
  rw [callFunc_run f1 f2 f3, Oper.upon_enter]
  obtain ⟨e, cap, he, rfl, hcap, hroom⟩ := slice_arg (by simpa using h0) ha
  obtain ⟨hh, hlt⟩ := row_holds hk hb he
  refine (hN.sort e.g e.off cap zs w hh hlt hl).mono ?_
  rintro e' w' ⟨rfl, n, os, rfl⟩
  exact hnext (.tuple []) _ m (.tuple #[]) _ hQ (Emb.le.refl m) (by simp only [VR]; exact ⟨#[], rfl, by simp [VRs]⟩) (row_put hk hb (sortZ_len zs) he n os)

theorem good_compact {out : Prop} {N : SortN} (hN : SortOK P N) {b : Nat} {zs : List Int} {Q : AV → Heap → Prop} (h0 : zs ≠ []) (hl : zs.length ≤ 1000000) (hb : h[b]? = some (.arr (zs.map encZ) 1 false))
    (hQ : Q (.slice b 0 (Lib.compact zs).length) (h.set b (.arr ((compZ zs).map encZ) 1 false))) : Good P base w0 out (.call N.fc [.slice b 0 zs.length] Q) h := by
  intro m w cargs ha hk O a next Q' hnext hlet
  obtain ⟨fn, c, f1, f2, f3⟩ := hN.fnc
  rw [callFunc_run f1 f2 f3, Oper.upon_enter]
  obtain ⟨e, cap, he, rfl, hcap, hroom⟩ := slice_arg (by simpa using h0) ha
  obtain ⟨hh, hlt⟩ := row_holds hk hb he
  refine (hN.compact e.g e.off cap zs w hh hl hcap).mono ?_
  rintro e' w' ⟨rfl, n, rfl⟩
  refine hnext (.slice b 0 (Lib.compact zs).length) _ m (.slice (some ⟨e.g, e.off, none⟩) (Lib.compact zs).length cap) _ hQ (Emb.le.refl m) ?_ ?_
  · simp only [VR]
    exact ⟨e, he, .inl ⟨cap, rfl, Nat.le_trans (compact_len zs) hcap, by simpa using hroom⟩⟩
  · have := row_put hk hb (compZ_len zs) he n #[]
    rwa [Sort.grow_empty] at this

theorem nil_arg {cargs : Array Value} (ha : VRs m [.nilslice] cargs.toList) : cargs = #[.slice none 0 0] := by
  simp only [VRs, VR] at ha
  obtain ⟨c1, cs, e1, rfl, rfl⟩ := ha
  apply Array.ext'
  rw [e1]
end

def withS (M : Model) (N : SortN) : Model := ⟨M.fn, fun f args h Q => M.prim f args h Q ∨ sortPrim N f args h Q⟩
theorem fits_sort {P : Program} {base : Nat} {w0 : World} {out : Prop} {M : Model} {N : SortN} (hM : Fits P base w0 out M) (hN : SortOK P N) : Fits P base w0 out (withS M N) where
  mixed := hM.mixed
  fn := hM.fn
  prim := fun f args h Q hp => by
    rcases hp with hp | ⟨rfl, rfl, hQ⟩ | ⟨rfl, b, zs, rfl, h0, hl, hb, hQ⟩ | ⟨rfl, rfl, hQ⟩ | ⟨rfl, b, zs, rfl, h0, hl, hb, hQ⟩
    · exact hM.prim f args h Q hp
    · intro m w cargs ha hk O a next Q' hnext hlet
      obtain ⟨fn, c, f1, f2, f3⟩ := hN.fns
      rw [callFunc_run f1 f2 f3, Oper.upon_enter, nil_arg ha]
      refine (hN.sort0 w).mono ?_
      rintro e' w' ⟨rfl, rfl⟩
      exact hnext (.tuple []) _ m (.tuple #[]) _ hQ (Emb.le.refl m) (by simp only [VR]; exact ⟨#[], rfl, by simp [VRs]⟩) hk
    · exact good_sort hN h0 hl hb hQ
    · intro m w cargs ha hk O a next Q' hnext hlet
      obtain ⟨fn, c, f1, f2, f3⟩ := hN.fnc
      rw [callFunc_run f1 f2 f3, Oper.upon_enter, nil_arg ha]
      refine (hN.compact0 w).mono ?_
      rintro e' w' ⟨rfl, rfl⟩
      exact hnext .nilslice _ m (.slice none 0 0) _ hQ (Emb.le.refl m) (by simp only [VR]) hk
    · exact good_compact hN h0 hl hb hQ
  ops := hM.ops
end Go.Abs

