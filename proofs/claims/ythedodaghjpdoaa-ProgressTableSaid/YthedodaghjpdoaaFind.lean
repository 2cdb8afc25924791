/- lib.find and lib.Takes, on the abstract machine. -/
import Derived.Test.YthedodaghjpdoaaTab
set_option linter.unusedVariables false
set_option linter.unusedSimpArgs false
set_option maxRecDepth 100000
namespace Go.Proofs.Ythedodaghjpdoaa.Kinds
open Go.Abs Mini
attribute [local irreducible] hs tObj

def ST (h : Heap) (b o : Nat) (cs : List AV) (h' : Heap) : Prop := ((wrCells h b o cs).map fun h1 => (AV.undef, h1)) = some (.undef, h')

def zero9 : List AV := [.str [], .str [], .int .i64 0, .nilslice, .int .i64 0, .int .i64 0, .bool false, .bool false, .bool false]
noncomputable def E9 (i c : Nat) : List AV := [.str (row i).nm, .str (src22 i), .int .i64 (row i).rule, .slice c 0 (row i).calls.length, .int .i64 (row i).lo, .int .i64 (row i).hi, .bool (row i).safe, .bool (row i).strict, .bool (row i).point]

def idxN (name : List UInt8) : Int := firstFrom (fun i => (row i).nm == name) 21 0

theorem firstFrom_spec (p : Nat → Bool) : ∀ (k i : Nat), firstFrom p k i = -1 ∨ ∃ j, i ≤ j ∧ j < i + k ∧ firstFrom p k i = j ∧ p j = true
  | 0, i => .inl rfl
  | k + 1, i => by
    simp only [firstFrom]
    cases hp : p i with
    | true => exact .inr ⟨i, by omega, by omega, by simp, hp⟩
    | false =>
      simp only [Bool.false_eq_true, if_false]
      rcases firstFrom_spec p k (i + 1) with h | ⟨j, h1, h2, h3, h4⟩
      · exact .inl h
      · exact .inr ⟨j, by omega, by omega, h3, h4⟩

theorem Ext.set {h h' : Heap} (hx : Ext h h') {b : Nat} (hb : h.length ≤ b) (o : AObj) : Ext h (h'.set b o) := by
  obtain ⟨l, rfl⟩ := hx
  exact ⟨l.set (b - h.length) o, by rw [List.set_append_right _ _ hb]⟩

theorem setCells_all : ∀ (vs pre c : List AV), c.length = vs.length → setCells (pre ++ c) pre.length vs = pre ++ vs
  | [], pre, c, h => by simp at h; subst h; rfl
  | v :: vs, pre, c, h => by
    cases c with
    | nil => simp at h
    | cons x c =>
      simp only [setCells]
      have e : (pre ++ x :: c).set pre.length v = (pre ++ [v]) ++ c := by simp
      rw [e]
      have := setCells_all vs (pre ++ [v]) c (by simpa using h)
      simpa using this

theorem ST.of {h : Heap} {b es : Nat} {c cs : List AV} (hb : h[b]? = some (.arr c es false)) (hl : c.length = cs.length) : ST h b 0 cs (h.set b (.arr cs es false)) := by
  have := setCells_all cs [] c hl
  simp only [List.nil_append, List.length_nil] at this
  simp [ST, wrCells, hb, hl, this]

theorem results_cell_tmp {h : Heap} {t : Tmps} {agg : Option Nat} {i j b o : Nat} {v : AV} (hi : t.getD i .undef = .ptr b o) (hv : Abs.rdVar h agg b o = some v) : Abs.results h t [.cell agg i, .tmp j] = some (.tuple [v, t.getD j .undef]) := by
  simp only [Abs.results, resAll, resOf, hi, hv]

theorem rd_set {h : Heap} {b es : Nat} {c : List AV} (hb : b < h.length) : Abs.rdVar (h.set b (.arr c es false)) (some c.length) b 0 = some (.agg c) := by
  simp [Abs.rdVar, rdCells, List.getElem?_set_self hb]

def P1 (h : Heap) (name : List UInt8) : Nat := (h ++ [AObj.arr [.str name] 1 false]).length
def H1 (h : Heap) (name : List UInt8) : Heap := h ++ [.arr [.str name] 1 false] ++ [.arr zero9 9 false]
noncomputable def H2 (h : Heap) (name : List UInt8) : Heap := hs (H1 h name) 21 ++ [tObj (H1 h name)]
def T2 (h : Heap) (name : List UInt8) : Nat := (hs (H1 h name) 21).length

theorem H2_ext (h : Heap) (name : List UInt8) : Ext (H1 h name) (H2 h name) := hs_ext _ _ _
theorem H1_ext (h : Heap) (name : List UInt8) : Ext h (H1 h name) := (Ext.push _ _).trans (Ext.push _ _)
theorem H1_name (h : Heap) (name : List UInt8) : (H1 h name)[h.length]? = some (.arr [.str name] 1 false) := by simp [H1]
theorem H1_zero (h : Heap) (name : List UInt8) : (H1 h name)[P1 h name]? = some (.arr zero9 9 false) := by simp [H1, P1]
theorem P1_eq (h : Heap) (name : List UInt8) : P1 h name = h.length + 1 := by simp [P1]
theorem H2_tab (h : Heap) (name : List UInt8) {i : Nat} (hi : i < 21) : Abs.rdVar (H2 h name) (some 9) (T2 h name) (0 + i * 9) = some (.agg (E9 i (hs (H1 h name) i).length)) := tab_get hi
theorem H2_calls (h : Heap) (name : List UInt8) {i : Nat} (hi : i < 21) : (H2 h name)[(hs (H1 h name) i).length]? = some (cObj i) := hs_get hi _
theorem hs_ne (h : Heap) (name : List UInt8) (i : Nat) : (hs (H1 h name) i).length ≠ P1 h name := by
  rw [hs_eq, P1_eq]
  simp [H1]

theorem find_idx (h : Heap) (name : List UInt8) : ∃ H3, Ext (H2 h name) H3 ∧ Does K 23 [.slice (T2 h name) 0 21, .fn 24 [.ptr h.length 0]] (H2 h name) (.int .i64 (idxN name)) H3 := by
  refine idx_does (E := fun i => E9 i (hs (H1 h name) i).length) (p := fun i => (row i).nm == name) (show K.fn 23 = _ from rfl) (by omega) (fun i hi => H2_tab h name hi) fun i h2 hi hx => ?_
  exact ⟨_, Ext.push _ _, cb24 (((H2_ext h name).trans hx).get (H1_name h name))⟩

theorem find_no {h : Heap} {name : List UInt8} (hno : idxN name = -1) : ∃ H4, Ext h H4 ∧ Does K 19 [.str name] h (.tuple [.agg zero9, .bool false]) H4 := by
  obtain ⟨H3, hx3, hd⟩ := find_idx h name
  rw [hno] at hd
  have hz : H3[P1 h name]? = some (.arr zero9 9 false) := ((H2_ext h name).trans hx3).get (H1_zero h name)
  have hlt := (List.getElem?_eq_some_iff.1 hz).1
  refine ⟨H3.set (P1 h name) (.arr zero9 9 false), Ext.set (((H1_ext h name).trans (H2_ext h name)).trans hx3) (by rw [P1_eq]; omega) _, ?_⟩
  refine Gets.call (show K.fn 19 = some F19 from rfl) (gets_of_exec (n := 60) (x := .ret)
    (t' := [.str name, .ptr h.length 0, .ptr (P1 h name) 0, .bool false, .slice (T2 h name) 0 21, .int .i64 (-1), .slice (T2 h name) 0 21, .slice (T2 h name) 0 21, .fn 24 [.ptr h.length 0], .int .i64 (-1), .int .i64 (-1), .bool true, .agg zero9, .undef, .undef, .undef, .undef])
    [(6, .call (.slice (T2 h name) 0 21) (H2 h name)), (9, .call (.int .i64 (-1)) H3), (9999, .full .undef (H3.set (P1 h name) (.arr zero9 9 false)))]
    [ST H3 (P1 h name) 0 zero9 (H3.set (P1 h name) (.arr zero9 9 false)), Does K 23 [.slice (T2 h name) 0 21, .fn 24 [.ptr h.length 0]] (H2 h name) (.int .i64 (-1)) H3, Does K 22 [] (H1 h name) (.slice (T2 h name) 0 21) (H2 h name)] (by kernel_rfl) ?_) (.inr rfl) (results_cell_tmp rfl (rd_set hlt))
  simp only [List.mem_cons, List.not_mem_nil, or_false, forall_eq_or_imp, forall_eq]
  exact ⟨ST.of hz rfl, hd, table_does _⟩

theorem find_yes {h : Heap} {name : List UInt8} {i : Nat} (hi : i < 21) (hyes : idxN name = i) : ∃ H4 c, Ext h H4 ∧ Does K 19 [.str name] h (.tuple [.agg (E9 i c), .bool true]) H4 ∧ H4[c]? = some (cObj i) := by
  obtain ⟨H3, hx3, hd⟩ := find_idx h name
  rw [hyes] at hd
  have hz : H3[P1 h name]? = some (.arr zero9 9 false) := ((H2_ext h name).trans hx3).get (H1_zero h name)
  have hlt := (List.getElem?_eq_some_iff.1 hz).1
  have hc := hx3.get (H2_calls h name hi)
  have hr := hx3.rdVar (H2_tab h name hi)
  have hne := hs_ne h name i
  generalize (hs (H1 h name) i).length = c at hc hr hne
  refine ⟨H3.set (P1 h name) (.arr (E9 i c) 9 false), c, Ext.set (((H1_ext h name).trans (H2_ext h name)).trans hx3) (by rw [P1_eq]; omega) _, ?_, by rw [List.getElem?_set_ne (Ne.symm hne)]; exact hc⟩
  refine Gets.call (show K.fn 19 = some F19 from rfl) (gets_of_exec (n := 60) (x := .ret)
    (t' := [.str name, .ptr h.length 0, .ptr (P1 h name) 0, .bool true, .slice (T2 h name) 0 21, .int .i64 i, .slice (T2 h name) 0 21, .slice (T2 h name) 0 21, .fn 24 [.ptr h.length 0], .int .i64 i, .int .i64 i, .bool false, .undef, .slice (T2 h name) 0 21, .int .i64 i, .ptr (T2 h name) (0 + i * 9), .agg (E9 i c)])
    [(6, .call (.slice (T2 h name) 0 21) (H2 h name)), (9, .call (.int .i64 i) H3), (11, .val (.bool false)), (15, .full (.ptr (T2 h name) (0 + i * 9)) H3), (16, .full (.agg (E9 i c)) H3), (9999, .full .undef (H3.set (P1 h name) (.arr (E9 i c) 9 false)))]
    [ST H3 (P1 h name) 0 (E9 i c) (H3.set (P1 h name) (.arr (E9 i c) 9 false)), LD H3 (some 9) (T2 h name) (0 + i * 9) (.agg (E9 i c)), IA H3 (T2 h name) 0 21 9 i (.ptr (T2 h name) (0 + i * 9)), AV.bool (decide ((i : Int) < 0)) = .bool false, Does K 23 [.slice (T2 h name) 0 21, .fn 24 [.ptr h.length 0]] (H2 h name) (.int .i64 i) H3, Does K 22 [] (H1 h name) (.slice (T2 h name) 0 21) (H2 h name)] (by kernel_rfl) ?_) (.inr rfl) (results_cell_tmp rfl (rd_set hlt))
  simp only [List.mem_cons, List.not_mem_nil, or_false, forall_eq_or_imp, forall_eq]
  exact ⟨ST.of hz rfl, LD.of hr, IA.of hi, by simp, hd, table_does _⟩

/-! ### lib.Takes -/
def callAt (i j : Nat) : List UInt8 × Int := (row i).calls.getD j default
def jOf (i : Nat) (op : List UInt8) : Int := firstFrom (fun j => (callAt i j).1 == op) (row i).calls.length 0
def takesG (name op : List UInt8) : Int × Int :=
  if idxN name = -1 then (0, 5) else if jOf (idxN name).toNat op = -1 then (0, 1) else ((callAt (idxN name).toNat (jOf (idxN name).toNat op).toNat).2, 0)

theorem call_take : ∀ (l : List (List UInt8 × Int)) (j : Nat), j < l.length → ((callCells l).drop (j * 2)).take 2 = [.str (l.getD j default).1, .int .i64 (l.getD j default).2] ∧ j * 2 + 2 ≤ (callCells l).length
  | [], j, h => by simp at h
  | p :: l, 0, h => by simp [callCells]
  | p :: l, j + 1, h => by
    obtain ⟨h1, h2⟩ := call_take l j (by simpa using h)
    have e : callCells (p :: l) = .str p.1 :: .int .i64 p.2 :: callCells l := by simp [callCells]
    have e2 : (j + 1) * 2 = j * 2 + 1 + 1 := by omega
    rw [e, e2]
    simp only [List.drop_succ_cons, List.getD_cons_succ, List.length_cons]
    exact ⟨h1, by omega⟩

theorem call_rd {H : Heap} {c i j : Nat} (hc : H[c]? = some (cObj i)) (hj : j < (row i).calls.length) : Abs.rdVar H (some 2) c (0 + j * 2) = some (.agg [.str (callAt i j).1, .int .i64 (callAt i j).2]) ∧ Abs.rdVar H none c (0 + j * 2 + 1) = some (.int .i64 (callAt i j).2) ∧ Abs.rdVar H none c (0 + j * 2 + 0) = some (.str (callAt i j).1) := by
  obtain ⟨h1, h2⟩ := call_take _ j hj
  have key : ∀ (l : List AV) (a b : AV) (n : Nat), (l.drop n).take 2 = [a, b] → (l.drop (n + 1)).take 1 = [b] ∧ (l.drop n).take 1 = [a] := by
    intro l a b n hh
    have e1 : (l.drop n).take 1 = ((l.drop n).take 2).take 1 := by rw [List.take_take]; rfl
    have e2 : (l.drop (n + 1)).take 1 = (((l.drop n).take 2).drop 1).take 1 := by rw [List.drop_take, List.drop_drop, List.take_take]; rfl
    rw [e1, e2, hh]
    exact ⟨rfl, rfl⟩
  obtain ⟨k1, k2⟩ := key _ _ _ _ h1
  refine ⟨?_, ?_, ?_⟩
  · simp only [Abs.rdVar, rdCells, hc, cObj, Nat.zero_add]
    rw [if_pos h2, h1]
    rfl
  · simp only [Abs.rdVar, rdCells, hc, cObj, Nat.zero_add]
    rw [if_pos (by omega), k1]
    rfl
  · simp only [Abs.rdVar, rdCells, hc, cObj, Nat.zero_add, Nat.add_zero]
    rw [if_pos (by omega), k2]
    rfl

theorem calls_few : ∀ i, i < 21 → (row i).calls.length < 9223372036854775807 := by decide

theorem takes_no {h : Heap} {name op : List UInt8} (hno : idxN name = -1) : ∃ H, Ext h H ∧ Does K 14 [.str name, .str op] h (.tuple [.int .i64 0, .int .i64 5]) H := by
  obtain ⟨H4, hx, hd⟩ := find_no (h := h ++ [.arr [.str op] 1 false]) hno
  refine ⟨H4 ++ [.arr zero9 9 false], ((Ext.push _ _).trans hx).trans (Ext.push _ _), ?_⟩
  refine does_of_exec (n := 60) [(11, .call (.tuple [.agg zero9, .bool false]) H4), (9999, .full .undef (H4 ++ [.arr zero9 9 false]))]
    [ST (H4 ++ [.arr zero9 9 false]) H4.length 0 zero9 (H4 ++ [.arr zero9 9 false]), Does K 19 [.str name] (h ++ [.arr [.str op] 1 false]) (.tuple [.agg zero9, .bool false]) H4] (by kernel_rfl) ?_
  simp only [List.mem_cons, List.not_mem_nil, or_false, forall_eq_or_imp, forall_eq]
  refine ⟨?_, hd⟩
  have := ST.of (h := H4 ++ [.arr zero9 9 false]) (b := H4.length) (es := 9) (c := zero9) (cs := zero9) (by simp) rfl
  simpa using this

theorem takes_mid {h : Heap} {name op : List UInt8} {i : Nat} (hi : i < 21) (hyes : idxN name = i) : ∃ H4 c H6, Ext (h ++ [.arr [.str op] 1 false]) H4 ∧ Ext (H4 ++ [.arr (E9 i c) 9 false]) H6 ∧ H4[c]? = some (cObj i) ∧
    Does K 19 [.str name] (h ++ [.arr [.str op] 1 false]) (.tuple [.agg (E9 i c), .bool true]) H4 ∧
    Does K 20 [.slice c 0 (row i).calls.length, .fn 21 [.ptr h.length 0]] (H4 ++ [.arr (E9 i c) 9 false]) (.int .i64 (jOf i op)) H6 := by
  obtain ⟨H4, c, hx, hd, hc⟩ := find_yes (h := h ++ [.arr [.str op] 1 false]) hi hyes
  have hx5 := Ext.push H4 (.arr (E9 i c) 9 false)
  obtain ⟨H6, hx6, hd6⟩ := idx_does (M := K) (es := 2) (b := c) (o := 0) (n := (row i).calls.length) (g := 21) (f := 20) (cap := [.ptr h.length 0]) (h := H4 ++ [.arr (E9 i c) 9 false]) (E := fun j => [.str (callAt i j).1, .int .i64 (callAt i j).2]) (p := fun j => (callAt i j).1 == op)
    rfl (calls_few i hi) (fun j hj => (call_rd (hx5.get hc) hj).1) fun j h2 hj hx2 => ⟨_, Ext.push _ _, cb21 (((hx.trans hx5).trans hx2).get (by simp))⟩
  exact ⟨H4, c, H6, hx, hx6, hc, hd, hd6⟩

theorem st_push {H : Heap} {E : List AV} (hE : E.length = 9) : ST (H ++ [.arr zero9 9 false]) H.length 0 E (H ++ [.arr E 9 false]) := by
  have := ST.of (h := H ++ [.arr zero9 9 false]) (b := H.length) (es := 9) (c := zero9) (cs := E) (by simp) (by rw [hE]; rfl)
  simpa using this

theorem takes_err {h : Heap} {name op : List UInt8} {i : Nat} (hi : i < 21) (hyes : idxN name = i) (hj : jOf i op = -1) : ∃ H, Ext h H ∧ Does K 14 [.str name, .str op] h (.tuple [.int .i64 0, .int .i64 1]) H := by
  obtain ⟨H4, c, H6, hx, hx6, hc, hd, hd6⟩ := takes_mid (h := h) (op := op) hi hyes
  rw [hj] at hd6
  refine ⟨H6, (((Ext.push _ _).trans hx).trans (Ext.push _ _)).trans hx6, ?_⟩
  refine does_of_exec (n := 60) [(11, .call (.tuple [.agg (E9 i c), .bool true]) H4), (9999, .full .undef (H4 ++ [.arr (E9 i c) 9 false])), (17, .full (.slice c 0 (row i).calls.length) (H4 ++ [.arr (E9 i c) 9 false])), (19, .call (.int .i64 (-1)) H6)]
    [Does K 20 [.slice c 0 (row i).calls.length, .fn 21 [.ptr h.length 0]] (H4 ++ [.arr (E9 i c) 9 false]) (.int .i64 (-1)) H6, LD (H4 ++ [.arr (E9 i c) 9 false]) none H4.length 3 (.slice c 0 (row i).calls.length), ST (H4 ++ [.arr zero9 9 false]) H4.length 0 (E9 i c) (H4 ++ [.arr (E9 i c) 9 false]), Does K 19 [.str name] (h ++ [.arr [.str op] 1 false]) (.tuple [.agg (E9 i c), .bool true]) H4] (by kernel_rfl) ?_
  simp only [List.mem_cons, List.not_mem_nil, or_false, forall_eq_or_imp, forall_eq]
  exact ⟨hd6, LD.of (by simp [Abs.rdVar, rdCells, E9]), st_push rfl, hd⟩

theorem takes_yes {h : Heap} {name op : List UInt8} {i j : Nat} (hi : i < 21) (hyes : idxN name = i) (hj : j < (row i).calls.length) (hjj : jOf i op = j) : ∃ H, Ext h H ∧ Does K 14 [.str name, .str op] h (.tuple [.int .i64 (callAt i j).2, .int .i64 0]) H := by
  obtain ⟨H4, c, H6, hx, hx6, hc, hd, hd6⟩ := takes_mid (h := h) (op := op) hi hyes
  rw [hjj] at hd6
  refine ⟨H6, (((Ext.push _ _).trans hx).trans (Ext.push _ _)).trans hx6, ?_⟩
  have hc6 : H6[c]? = some (cObj i) := ((Ext.push _ _).trans hx6).get hc
  have hl : Abs.rdVar (H4 ++ [.arr (E9 i c) 9 false]) none H4.length 3 = some (.slice c 0 (row i).calls.length) := by simp [Abs.rdVar, rdCells, E9]
  refine does_of_exec (n := 60) [(11, .call (.tuple [.agg (E9 i c), .bool true]) H4), (9999, .full .undef (H4 ++ [.arr (E9 i c) 9 false])), (17, .full (.slice c 0 (row i).calls.length) (H4 ++ [.arr (E9 i c) 9 false])), (19, .call (.int .i64 j) H6), (21, .val (.bool false)),
      (23, .full (.slice c 0 (row i).calls.length) H6), (25, .full (.ptr c (0 + j * 2)) H6), (27, .full (.int .i64 (callAt i j).2) H6)]
    [LD H6 none c (0 + j * 2 + 1) (.int .i64 (callAt i j).2), IA H6 c 0 (row i).calls.length 2 j (.ptr c (0 + j * 2)), LD H6 none H4.length 3 (.slice c 0 (row i).calls.length), AV.bool (decide ((j : Int) < 0)) = .bool false,
      Does K 20 [.slice c 0 (row i).calls.length, .fn 21 [.ptr h.length 0]] (H4 ++ [.arr (E9 i c) 9 false]) (.int .i64 j) H6, LD (H4 ++ [.arr (E9 i c) 9 false]) none H4.length 3 (.slice c 0 (row i).calls.length), ST (H4 ++ [.arr zero9 9 false]) H4.length 0 (E9 i c) (H4 ++ [.arr (E9 i c) 9 false]), Does K 19 [.str name] (h ++ [.arr [.str op] 1 false]) (.tuple [.agg (E9 i c), .bool true]) H4] (by kernel_rfl) ?_
  simp only [List.mem_cons, List.not_mem_nil, or_false, forall_eq_or_imp, forall_eq]
  exact ⟨LD.of (call_rd hc6 hj).2.1, IA.of hj, LD.of (hx6.rdVar hl), by simp, hd6, LD.of hl, st_push rfl, hd⟩

theorem idxN_cases (name : List UInt8) : idxN name = -1 ∨ ∃ i, i < 21 ∧ idxN name = (i : Nat) := by
  rcases firstFrom_spec (fun i => (row i).nm == name) 21 0 with h | ⟨j, _, h2, h3, _⟩
  · exact .inl h
  · exact .inr ⟨j, by omega, h3⟩
theorem jOf_cases (i : Nat) (op : List UInt8) : jOf i op = -1 ∨ ∃ j, j < (row i).calls.length ∧ jOf i op = (j : Nat) := by
  rcases firstFrom_spec (fun j => (callAt i j).1 == op) (row i).calls.length 0 with h | ⟨j, _, h2, h3, _⟩
  · exact .inl h
  · exact .inr ⟨j, by omega, h3⟩

theorem takes_does (h : Heap) (name op : List UInt8) : ∃ H, Ext h H ∧ Does K 14 [.str name, .str op] h (.tuple [.int .i64 (takesG name op).1, .int .i64 (takesG name op).2]) H := by
  rcases idxN_cases name with hn | ⟨i, hi, hn⟩
  · have : takesG name op = (0, 5) := by simp [takesG, hn]
    rw [this]
    exact takes_no hn
  · have hne : ¬ (i : Int) = -1 := by omega
    rcases jOf_cases i op with hj | ⟨j, hj, hjj⟩
    · have : takesG name op = (0, 1) := by simp [takesG, hn, hne, hj]
      rw [this]
      exact takes_err hi hn hj
    · have hne2 : ¬ (j : Int) = -1 := by omega
      have : takesG name op = ((callAt i j).2, 0) := by simp [takesG, hn, hne, hjj, hne2]
      rw [this]
      exact takes_yes hi hn hj hjj
end Go.Proofs.Ythedodaghjpdoaa.Kinds
