/- locklessref16.Find and Takes, on the abstract machine. -/
import Derived.Test.YthedodaghjpdoaaRTab
set_option linter.unusedVariables false
set_option linter.unusedSimpArgs false
set_option maxRecDepth 100000
namespace Go.Proofs.Ythedodaghjpdoaa.Kinds
open Go.Abs Mini
attribute [local irreducible] hr rtObj

def zero7 : List AV := [.str [], .int .i64 0, .nilslice, .int .i64 0, .int .i64 0, .bool false, .bool false]

/-! ### Find's loop -/
def FB : MCode := (.seq (.seq (.region [(.mk (.some 7) (.mov (.tmp 5)) .none), (.mk (.some 8) (.mov (.tmp 4)) .none), (.mk (.some 9) (.lenSlc (.tmp 8)) .none), (.mk (.some 10) (.bin .lss (.tmp 7) (.tmp 9)) .none)]) (.cond (.tmp 10) .skip (.exit 0))) (.seq (.block 1 (.seq (.region [(.mk (.some 13) (.mov (.tmp 4)) .none), (.mk (.some 14) (.mov (.tmp 5)) .none), (.mk (.some 15) (.indexAddr 7 (.tmp 13) (.tmp 14)) .none), (.mk (.some 16) (.fieldAddr 0 (.tmp 15)) .none), (.mk (.some 17) (.load .none (.tmp 16)) .none), (.mk (.some 18) (.mov (.tmp 0)) .none), (.mk (.some 19) (.bin .eql (.tmp 17) (.tmp 18)) .none)]) (.cond (.tmp 19) (.seq (.region [(.mk (.some 20) (.mov (.tmp 4)) .none), (.mk (.some 21) (.mov (.tmp 5)) .none), (.mk (.some 22) (.indexAddr 7 (.tmp 20) (.tmp 21)) .none), (.mk (.some 23) (.load (.some 7) (.tmp 22)) .none), (.mk .none (.store 7 (.tmp 2) (.tmp 23)) .none), (.mk (.some 3) (.mov (.const (.bool .true))) .none)]) .ret) .skip))) (.region [(.mk (.some 11) (.mov (.tmp 5)) .none), (.mk (.some 12) (.bin .add (.tmp 11) (.const (.int .i64 1))) .none), (.mk (.some 5) (.mov (.tmp 12)) .none)])))
def FE : MCode := (.seq (.region [(.mk (.some 24) (.build [(.str []), (.int .i64 0), .nilslice, (.int .i64 0), (.int .i64 0), (.bool .false), (.bool .false)] []) .none), (.mk .none (.store 7 (.tmp 2) (.tmp 24)) .none), (.mk (.some 3) (.mov (.const (.bool .false))) .none)]) .ret)
theorem F8_eq : F8 = (.mk 25 (.seq (.region [(.mk (.some 2) (.alloc [(.str []), (.int .i64 0), .nilslice, (.int .i64 0), (.int .i64 0), (.bool .false), (.bool .false)] 7) .none), (.mk (.some 3) (.mov (.const (.bool .false))) .none)]) (.seq (.region [(.mk (.some 6) (.call (.const (.fn 16 [])) []) .none), (.mk (.some 4) (.mov (.tmp 6)) .none)]) (.seq (.seq (.region [(.mk (.some 5) (.mov (.const (.int .i64 0))) .none)]) (.block 0 (.loop FB))) FE))) [(.cell (.some 7) 2), (.tmp 3)]) := rfl

def fT (name : List UInt8) (p b i : Nat) (t1 t7 t8 t9 t10 t11 t12 t13 t14 t15 t16 t17 t18 t19 t20 t21 t22 t23 t24 : AV) : Tmps :=
  [.str name, t1, .ptr p 0, .bool false, .slice b 0 21, .int .i64 i, .slice b 0 21, t7, t8, t9, t10, t11, t12, t13, t14, t15, t16, t17, t18, t19, t20, t21, t22, t23, t24]

theorem fb_no {name nm : List UInt8} {p b i : Nat} {h : Heap} {E : List AV} {t1 t7 t8 t9 t10 t11 t12 t13 t14 t15 t16 t17 t18 t19 t20 t21 t22 t23 t24 : AV} (hi : i < 21) (hr : Abs.rdVar h none b (0 + i * 7 + 0) = some (.str nm)) (hne : (nm == name) = false) :
    Gets K FB (fT name p b i t1 t7 t8 t9 t10 t11 t12 t13 t14 t15 t16 t17 t18 t19 t20 t21 t22 t23 t24) h .normal
      (fT name p b (i + 1) t1 (.int .i64 i) (.slice b 0 21) (.int .i64 21) (.bool true) (.int .i64 i) (.int .i64 (i + 1 : Nat)) (.slice b 0 21) (.int .i64 i) (.ptr b (0 + i * 7)) (.ptr b (0 + i * 7 + 0)) (.str nm) (.str name) (.bool false) t20 t21 t22 t23 t24) h := by
  refine gets_of_exec (n := 60) [(10, .val (.bool true)), (15, .full (.ptr b (0 + i * 7)) h), (17, .full (.str nm) h), (19, .val (.bool false)), (12, .val (.int .i64 (i + 1 : Nat)))]
    [AV.int .i64 (IntKind.i64.wrap ((i : Int) + 1)) = .int .i64 (i + 1 : Nat), AV.bool (nm == name) = .bool false, LD h none b (0 + i * 7 + 0) (.str nm), IA h b 0 21 7 i (.ptr b (0 + i * 7)), AV.bool (decide ((i : Int) < 21)) = .bool true] (by kernel_rfl) ?_
  simp only [List.mem_cons, List.not_mem_nil, or_false, forall_eq_or_imp, forall_eq]
  refine ⟨?_, by rw [hne], LD.of hr, IA.of hi, ?_⟩
  · rw [wrap_small (by omega) (by omega)]
    rfl
  · have : (i : Int) < 21 := by omega
    simp [this]

theorem fb_yes {name nm : List UInt8} {p b i : Nat} {h h' : Heap} {E : List AV} {t1 t7 t8 t9 t10 t11 t12 t13 t14 t15 t16 t17 t18 t19 t20 t21 t22 t23 t24 : AV} (hE : E.length = 7) (hi : i < 21) (hr : Abs.rdVar h none b (0 + i * 7 + 0) = some (.str nm)) (hr2 : Abs.rdVar h (some 7) b (0 + i * 7) = some (.agg E)) (heq : (nm == name) = true) (hst : (if E.length = 7 then (wrCells h p 0 E).map fun h1 => (AV.undef, h1) else none) = some (.undef, h')) :
    Gets K FB (fT name p b i t1 t7 t8 t9 t10 t11 t12 t13 t14 t15 t16 t17 t18 t19 t20 t21 t22 t23 t24) h .ret
      [.str name, t1, .ptr p 0, .bool true, .slice b 0 21, .int .i64 i, .slice b 0 21, .int .i64 i, .slice b 0 21, .int .i64 21, .bool true, t11, t12, .slice b 0 21, .int .i64 i, .ptr b (0 + i * 7), .ptr b (0 + i * 7 + 0), .str nm, .str name, .bool true, .slice b 0 21, .int .i64 i, .ptr b (0 + i * 7), .agg E, t24] h' := by
  refine gets_of_exec (n := 60) [(10, .val (.bool true)), (15, .full (.ptr b (0 + i * 7)) h), (17, .full (.str nm) h), (19, .val (.bool true)), (22, .full (.ptr b (0 + i * 7)) h), (23, .full (.agg E) h), (9999, .full .undef h')]
    [(if E.length = 7 then (wrCells h p 0 E).map fun h1 => (AV.undef, h1) else none) = some (.undef, h'), LD h (some 7) b (0 + i * 7) (.agg E), IA h b 0 21 7 i (.ptr b (0 + i * 7)), AV.bool (nm == name) = .bool true, LD h none b (0 + i * 7 + 0) (.str nm), IA h b 0 21 7 i (.ptr b (0 + i * 7)), AV.bool (decide ((i : Int) < 21)) = .bool true] (by kernel_rfl) ?_
  simp only [List.mem_cons, List.not_mem_nil, or_false, forall_eq_or_imp, forall_eq]
  refine ⟨hst, LD.of hr2, IA.of hi, by rw [heq], LD.of hr, IA.of hi, ?_⟩
  have : (i : Int) < 21 := by omega
  simp [this]

theorem fb_end {name : List UInt8} {p b : Nat} {h : Heap} {t1 t7 t8 t9 t10 t11 t12 t13 t14 t15 t16 t17 t18 t19 t20 t21 t22 t23 t24 : AV} :
    Gets K FB (fT name p b 21 t1 t7 t8 t9 t10 t11 t12 t13 t14 t15 t16 t17 t18 t19 t20 t21 t22 t23 t24) h (.exit 0)
      (fT name p b 21 t1 (.int .i64 21) (.slice b 0 21) (.int .i64 21) (.bool false) t11 t12 t13 t14 t15 t16 t17 t18 t19 t20 t21 t22 t23 t24) h :=
  gets_of_exec (n := 60) [] [] (by kernel_rfl) (by simp)

theorem fb_loop {name : List UInt8} {p b : Nat} {h : Heap} {E : Nat → List AV} {nm : Nat → List UInt8} (hE : ∀ i, (E i).length = 7) (hr2 : ∀ i, i < 21 → Abs.rdVar h (some 7) b (0 + i * 7) = some (.agg (E i)))
    (hr : ∀ i, i < 21 → Abs.rdVar h none b (0 + i * 7 + 0) = some (.str (nm i))) (hp : h[p]? = some (.arr zero7 7 false)) :
    ∀ (k i : Nat) (t1 t7 t8 t9 t10 t11 t12 t13 t14 t15 t16 t17 t18 t19 t20 t21 t22 t23 t24 : AV), i + k = 21 →
      (∃ t' j, firstFrom (fun i => nm i == name) k i = (j : Nat) ∧ j < 21 ∧ t'.getD 2 .undef = .ptr p 0 ∧ t'.getD 3 .undef = .bool true ∧ Gets K (.loop FB) (fT name p b i t1 t7 t8 t9 t10 t11 t12 t13 t14 t15 t16 t17 t18 t19 t20 t21 t22 t23 t24) h .ret t' (h.set p (.arr (E j) 7 false))) ∨
      (firstFrom (fun i => nm i == name) k i = -1 ∧ ∃ t', (∃ u7 u8 u9 u10 u11 u12 u13 u14 u15 u16 u17 u18 u19 u20 u21 u22 u23 u24, t' = fT name p b 21 t1 u7 u8 u9 u10 u11 u12 u13 u14 u15 u16 u17 u18 u19 u20 u21 u22 u23 u24) ∧ Gets K (.loop FB) (fT name p b i t1 t7 t8 t9 t10 t11 t12 t13 t14 t15 t16 t17 t18 t19 t20 t21 t22 t23 t24) h (.exit 0) t' h) := by
  intro k
  induction k with
  | zero =>
    intro i t1 t7 t8 t9 t10 t11 t12 t13 t14 t15 t16 t17 t18 t19 t20 t21 t22 t23 t24 hik
    obtain rfl : i = 21 := by omega
    exact .inr ⟨rfl, _, ⟨_, _, _, _, _, _, _, _, _, _, _, _, _, _, _, _, _, _, rfl⟩, Gets.loopX (by simp) fb_end⟩
  | succ k ih =>
    intro i t1 t7 t8 t9 t10 t11 t12 t13 t14 t15 t16 t17 t18 t19 t20 t21 t22 t23 t24 hik
    cases hq : nm i == name with
    | true =>
      refine .inl ⟨_, i, by simp [firstFrom, hq], by omega, rfl, rfl, Gets.loopX (by simp) (fb_yes (hE i) (by omega) (hr i (by omega)) (hr2 i (by omega)) hq ?_)⟩
      rw [if_pos (hE i)]
      exact ST.of hp (by rw [hE i]; rfl)
    | false =>
      have hno := fb_no (p := p) (E := []) (t1 := t1) (t7 := t7) (t8 := t8) (t9 := t9) (t10 := t10) (t11 := t11) (t12 := t12) (t13 := t13) (t14 := t14) (t15 := t15) (t16 := t16) (t17 := t17) (t18 := t18) (t19 := t19) (t20 := t20) (t21 := t21) (t22 := t22) (t23 := t23) (t24 := t24) (by omega : i < 21) (hr i (by omega)) hq
      have hf : firstFrom (fun i => nm i == name) (k + 1) i = firstFrom (fun i => nm i == name) k (i + 1) := by simp [firstFrom, hq]
      rw [hf]
      rcases ih (i + 1) _ _ _ _ _ _ _ _ _ _ _ _ _ _ _ _ _ _ _ (by omega) with ⟨t', j, h1, h2, h3, h4, h5⟩ | ⟨h1, t', h2, h3⟩
      · exact .inl ⟨t', j, h1, h2, h3, h4, Gets.loop hno h5⟩
      · exact .inr ⟨h1, t', h2, Gets.loop hno h3⟩

theorem rd7_set {h : Heap} {b : Nat} {c : List AV} (hb : b < h.length) (hc : c.length = 7) : Abs.rdVar (h.set b (.arr c 7 false)) (some 7) b 0 = some (.agg c) := by
  have := rd_set (es := 7) (c := c) hb
  rwa [hc] at this

def J1 (h : Heap) : Heap := h ++ [.arr zero7 7 false]
def J2 (h : Heap) : Heap := hr (J1 h) 18 ++ [rtObj (J1 h)]
def S2 (h : Heap) : Nat := (hr (J1 h) 18).length
theorem J2_ext (h : Heap) : Ext (J1 h) (J2 h) := hr_ext _ _ _
theorem J1_ext (h : Heap) : Ext h (J1 h) := Ext.push _ _
theorem J2_zero (h : Heap) : (J2 h)[h.length]? = some (.arr zero7 7 false) := (J2_ext h).get (by simp [J1])
theorem J2_tab (h : Heap) {i : Nat} (hi : i < 21) : Abs.rdVar (J2 h) (some 7) (S2 h) (0 + i * 7) = some (.agg (R7 i (hr (J1 h) (rrow i).at_).length)) := rtab_get hi
theorem J2_nm (h : Heap) {i : Nat} (hi : i < 21) : Abs.rdVar (J2 h) none (S2 h) (0 + i * 7 + 0) = some (.str (rrow i).nm) := rd_first (E := (R7 i (hr (J1 h) (rrow i).at_).length).tail) (m := 7) rfl (J2_tab h hi)
theorem J2_calls (h : Heap) {i : Nat} (hi : i < 21) : (J2 h)[(hr (J1 h) (rrow i).at_).length]? = some (rObj (rrow i).at_) := hr_get (rat_lt i hi) _
theorem hr_ne (h : Heap) (i : Nat) : (hr (J1 h) i).length ≠ h.length := by
  rw [hr_eq]
  simp [J1]

def idxR (name : List UInt8) : Int := firstFrom (fun i => (rrow i).nm == name) 21 0

theorem rfind_start (h : Heap) (name : List UInt8) : Gets K (.region [(.mk (.some 2) (.alloc [(.str []), (.int .i64 0), .nilslice, (.int .i64 0), (.int .i64 0), (.bool .false), (.bool .false)] 7) .none), (.mk (.some 3) (.mov (.const (.bool .false))) .none)]) ([.str name] ++ List.replicate 24 .undef) h .normal
    [.str name, .undef, .ptr h.length 0, .bool false, .undef, .undef, .undef, .undef, .undef, .undef, .undef, .undef, .undef, .undef, .undef, .undef, .undef, .undef, .undef, .undef, .undef, .undef, .undef, .undef, .undef] (J1 h) := gets_of_exec (n := 20) [] [] (by kernel_rfl) (by simp)
theorem rfind_tab (h : Heap) (name : List UInt8) : Gets K (.region [(.mk (.some 6) (.call (.const (.fn 16 [])) []) .none), (.mk (.some 4) (.mov (.tmp 6)) .none)]) [.str name, .undef, .ptr h.length 0, .bool false, .undef, .undef, .undef, .undef, .undef, .undef, .undef, .undef, .undef, .undef, .undef, .undef, .undef, .undef, .undef, .undef, .undef, .undef, .undef, .undef, .undef] (J1 h) .normal
    [.str name, .undef, .ptr h.length 0, .bool false, .slice (S2 h) 0 21, .undef, .slice (S2 h) 0 21, .undef, .undef, .undef, .undef, .undef, .undef, .undef, .undef, .undef, .undef, .undef, .undef, .undef, .undef, .undef, .undef, .undef, .undef] (J2 h) :=
  gets_of_exec (n := 20) [(6, .call (.slice (S2 h) 0 21) (J2 h))] [Does K 16 [] (J1 h) (.slice (S2 h) 0 21) (J2 h)] (by kernel_rfl) (by simp only [List.mem_cons, List.not_mem_nil, or_false, forall_eq]; exact rtable_does _)
theorem rfind_zero (h : Heap) (name : List UInt8) : Gets K (.region [(.mk (.some 5) (.mov (.const (.int .i64 0))) .none)]) [.str name, .undef, .ptr h.length 0, .bool false, .slice (S2 h) 0 21, .undef, .slice (S2 h) 0 21, .undef, .undef, .undef, .undef, .undef, .undef, .undef, .undef, .undef, .undef, .undef, .undef, .undef, .undef, .undef, .undef, .undef, .undef] (J2 h) .normal
    (fT name h.length (S2 h) 0 .undef .undef .undef .undef .undef .undef .undef .undef .undef .undef .undef .undef .undef .undef .undef .undef .undef .undef .undef) (J2 h) := gets_of_exec (n := 20) [] [] (by kernel_rfl) (by simp)

theorem rfind_does (h : Heap) (name : List UInt8) : (∃ i H c, i < 21 ∧ idxR name = (i : Nat) ∧ Ext h H ∧ H[c]? = some (rObj (rrow i).at_) ∧ Does K 8 [.str name] h (.tuple [.agg (R7 i c), .bool true]) H) ∨ (idxR name = -1 ∧ ∃ H, Ext h H ∧ Does K 8 [.str name] h (.tuple [.agg zero7, .bool false]) H) := by
  have hlt := (List.getElem?_eq_some_iff.1 (J2_zero h)).1
  have hx : Ext h (J2 h) := (J1_ext h).trans (J2_ext h)
  rcases fb_loop (name := name) (p := h.length) (b := S2 h) (h := J2 h) (E := fun i => R7 i (hr (J1 h) (rrow i).at_).length) (nm := fun i => (rrow i).nm) (fun _ => rfl) (fun i hi => J2_tab h hi) (fun i hi => J2_nm h hi) (J2_zero h) 21 0 .undef .undef .undef .undef .undef .undef .undef .undef .undef .undef .undef .undef .undef .undef .undef .undef .undef .undef .undef rfl with ⟨t', j, h1, h2, h3, h4, h5⟩ | ⟨h1, t', ⟨u7, u8, u9, u10, u11, u12, u13, u14, u15, u16, u17, u18, u19, u20, u21, u22, u23, u24, rfl⟩, h3⟩
  · refine .inl ⟨j, (J2 h).set h.length (.arr (R7 j (hr (J1 h) (rrow j).at_).length) 7 false), (hr (J1 h) (rrow j).at_).length, h2, h1, Ext.set hx (Nat.le_refl _) _, ?_, ?_⟩
    · rw [List.getElem?_set_ne (Ne.symm (hr_ne h _))]
      exact J2_calls h h2
    · refine Gets.call (show K.fn 8 = some F8 from rfl) (Gets.seq (rfind_start h name) (Gets.seq (rfind_tab h name) (Gets.seqX (by simp) (Gets.seq (rfind_zero h name) (Gets.block h5))))) (.inr rfl) ?_
      have := results_cell_tmp (t := t') (i := 2) (j := 3) h3 (rd7_set (c := R7 j (hr (J1 h) (rrow j).at_).length) hlt rfl)
      rw [h4] at this
      exact this
  · refine .inr ⟨h1, (J2 h).set h.length (.arr zero7 7 false), Ext.set hx (Nat.le_refl _) _, ?_⟩
    refine Gets.call (show K.fn 8 = some F8 from rfl) (Gets.seq (rfind_start h name) (Gets.seq (rfind_tab h name) (Gets.seq (Gets.seq (rfind_zero h name) (Gets.block h3)) (gets_of_exec (n := 20) (x := .ret) (h' := (J2 h).set h.length (.arr zero7 7 false))
      (t' := [.str name, .undef, .ptr h.length 0, .bool false, .slice (S2 h) 0 21, .int .i64 21, .slice (S2 h) 0 21, u7, u8, u9, u10, u11, u12, u13, u14, u15, u16, u17, u18, u19, u20, u21, u22, u23, .agg zero7])
      [(9999, .full .undef ((J2 h).set h.length (.arr zero7 7 false)))] [ST (J2 h) h.length 0 zero7 ((J2 h).set h.length (.arr zero7 7 false))] (by kernel_rfl) ?_)))) (.inr rfl) (results_cell_tmp rfl (rd7_set hlt rfl))
    simp only [List.mem_cons, List.not_mem_nil, or_false, forall_eq]
    exact ST.of (J2_zero h) rfl

/-! ### locklessref16.Takes -/
def TB : MCode := (.seq (.seq (.region [(.mk (.some 6) (.mov (.tmp 5)) .none), (.mk (.some 7) (.fieldAddr 2 (.tmp 2)) .none), (.mk (.some 8) (.load .none (.tmp 7)) .none), (.mk (.some 9) (.lenSlc (.tmp 8)) .none), (.mk (.some 10) (.bin .lss (.tmp 6) (.tmp 9)) .none)]) (.cond (.tmp 10) .skip (.exit 0))) (.seq (.block 1 (.seq (.region [(.mk (.some 13) (.fieldAddr 2 (.tmp 2)) .none), (.mk (.some 14) (.load .none (.tmp 13)) .none), (.mk (.some 15) (.mov (.tmp 5)) .none), (.mk (.some 16) (.indexAddr 3 (.tmp 14) (.tmp 15)) .none), (.mk (.some 17) (.fieldAddr 0 (.tmp 16)) .none), (.mk (.some 18) (.load .none (.tmp 17)) .none), (.mk (.some 19) (.mov (.tmp 1)) .none), (.mk (.some 20) (.bin .eql (.tmp 18) (.tmp 19)) .none)]) (.cond (.tmp 20) (.seq (.region [(.mk (.some 21) (.fieldAddr 2 (.tmp 2)) .none), (.mk (.some 22) (.load .none (.tmp 21)) .none), (.mk (.some 23) (.mov (.tmp 5)) .none), (.mk (.some 24) (.indexAddr 3 (.tmp 22) (.tmp 23)) .none), (.mk (.some 25) (.fieldAddr 1 (.tmp 24)) .none), (.mk (.some 26) (.load .none (.tmp 25)) .none), (.mk (.some 4) (.mov (.tmp 26)) .none)]) .ret) .skip))) (.region [(.mk (.some 11) (.mov (.tmp 5)) .none), (.mk (.some 12) (.bin .add (.tmp 11) (.const (.int .i64 1))) .none), (.mk (.some 5) (.mov (.tmp 12)) .none)])))
theorem F9_eq : F9 = (.mk 27 (.seq (.region [(.mk (.some 2) (.box 7 (.tmp 0)) .none), (.mk (.some 4) (.mov (.const (.int .i64 0))) .none)]) (.seq (.seq (.region [(.mk (.some 5) (.mov (.const (.int .i64 0))) .none)]) (.block 0 (.loop TB))) (.seq (.region [(.mk (.some 4) (.mov (.const (.int .i64 (.negSucc 0)))) .none)]) .ret))) [(.tmp 4)]) := rfl

def tT (r op : AV) (p i : Nat) (t3 t6 t7 t8 t9 t10 t11 t12 t13 t14 t15 t16 t17 t18 t19 t20 t21 t22 t23 t24 t25 t26 : AV) : Tmps := [r, op, .ptr p 0, t3, .int .i64 0, .int .i64 i, t6, t7, t8, t9, t10, t11, t12, t13, t14, t15, t16, t17, t18, t19, t20, t21, t22, t23, t24, t25, t26]

def rcallAt (i j : Nat) : List UInt8 × Int × Int := (rcalls i).getD j default
def rjOf (i : Nat) (op : List UInt8) : Int := firstFrom (fun j => (rcallAt i j).1 == op) (rcalls i).length 0

theorem rcall_take : ∀ (l : List (List UInt8 × Int × Int)) (j : Nat), j < l.length → ((rcCells l).drop (j * 3)).take 3 = [.str (l.getD j default).1, .int .i64 (l.getD j default).2.1, .int .i64 (l.getD j default).2.2] ∧ j * 3 + 3 ≤ (rcCells l).length
  | [], j, h => by simp at h
  | p :: l, 0, h => by simp [rcCells]
  | p :: l, j + 1, h => by
    obtain ⟨h1, h2⟩ := rcall_take l j (by simpa using h)
    have e : rcCells (p :: l) = .str p.1 :: .int .i64 p.2.1 :: .int .i64 p.2.2 :: rcCells l := by simp [rcCells]
    have e2 : (j + 1) * 3 = j * 3 + 1 + 1 + 1 := by omega
    rw [e, e2]
    simp only [List.drop_succ_cons, List.getD_cons_succ, List.length_cons]
    exact ⟨h1, by omega⟩

theorem rcall_rd {H : Heap} {c i j : Nat} (hc : H[c]? = some (rObj (rrow i).at_)) (hj : j < (rcalls i).length) : Abs.rdVar H none c (0 + j * 3 + 1) = some (.int .i64 (rcallAt i j).2.1) ∧ Abs.rdVar H none c (0 + j * 3 + 0) = some (.str (rcallAt i j).1) := by
  obtain ⟨h1, h2⟩ := rcall_take _ j hj
  have key : ∀ (l : List AV) (a b c : AV) (n : Nat), (l.drop n).take 3 = [a, b, c] → (l.drop (n + 1)).take 1 = [b] ∧ (l.drop n).take 1 = [a] := by
    intro l a b c n hh
    have e1 : (l.drop n).take 1 = ((l.drop n).take 3).take 1 := by rw [List.take_take]; rfl
    have e2 : (l.drop (n + 1)).take 1 = (((l.drop n).take 3).drop 1).take 1 := by rw [List.drop_take, List.drop_drop, List.take_take]; rfl
    rw [e1, e2, hh]
    exact ⟨rfl, rfl⟩
  obtain ⟨k1, k2⟩ := key _ _ _ _ _ h1
  have hc' : H[c]? = some (.arr (rcCells (rcalls i)) 3 false) := hc
  refine ⟨?_, ?_⟩
  · simp only [Abs.rdVar, rdCells, hc', Nat.zero_add]
    rw [if_pos (by omega), k1]
    rfl
  · simp only [Abs.rdVar, rdCells, hc', Nat.zero_add, Nat.add_zero]
    rw [if_pos (by omega), k2]
    rfl

theorem rcalls_few : ∀ i, i < 21 → (rcalls i).length < 9223372036854775807 := by decide

theorem tb_no {r : AV} {op nm : List UInt8} {p c i n : Nat} {h : Heap} {t3 t6 t7 t8 t9 t10 t11 t12 t13 t14 t15 t16 t17 t18 t19 t20 t21 t22 t23 t24 t25 t26 : AV} (hn : n < 9223372036854775807) (hi : i < n) (hf : Abs.rdVar h none p 2 = some (.slice c 0 n)) (hr : Abs.rdVar h none c (0 + i * 3 + 0) = some (.str nm)) (hne : (nm == op) = false) :
    Gets K TB (tT r (.str op) p i t3 t6 t7 t8 t9 t10 t11 t12 t13 t14 t15 t16 t17 t18 t19 t20 t21 t22 t23 t24 t25 t26) h .normal
      (tT r (.str op) p (i + 1) t3 (.int .i64 i) (.ptr p 2) (.slice c 0 n) (.int .i64 n) (.bool true) (.int .i64 i) (.int .i64 (i + 1 : Nat)) (.ptr p 2) (.slice c 0 n) (.int .i64 i) (.ptr c (0 + i * 3)) (.ptr c (0 + i * 3 + 0)) (.str nm) (.str op) (.bool false) t21 t22 t23 t24 t25 t26) h := by
  refine gets_of_exec (n := 60) [(8, .full (.slice c 0 n) h), (10, .val (.bool true)), (14, .full (.slice c 0 n) h), (16, .full (.ptr c (0 + i * 3)) h), (18, .full (.str nm) h), (20, .val (.bool false)), (12, .val (.int .i64 (i + 1 : Nat)))]
    [AV.int .i64 (IntKind.i64.wrap ((i : Int) + 1)) = .int .i64 (i + 1 : Nat), AV.bool (nm == op) = .bool false, LD h none c (0 + i * 3 + 0) (.str nm), IA h c 0 n 3 i (.ptr c (0 + i * 3)), LD h none p 2 (.slice c 0 n), AV.bool (decide ((i : Int) < (n : Int))) = .bool true, LD h none p 2 (.slice c 0 n)] (by kernel_rfl) ?_
  simp only [List.mem_cons, List.not_mem_nil, or_false, forall_eq_or_imp, forall_eq]
  refine ⟨?_, by rw [hne], LD.of hr, IA.of hi, LD.of hf, by simp [hi], LD.of hf⟩
  rw [wrap_small (by omega) (by omega)]
  rfl

theorem tb_yes {r : AV} {op nm : List UInt8} {p c i n : Nat} {k : Int} {h : Heap} {t3 t6 t7 t8 t9 t10 t11 t12 t13 t14 t15 t16 t17 t18 t19 t20 t21 t22 t23 t24 t25 t26 : AV} (hi : i < n) (hf : Abs.rdVar h none p 2 = some (.slice c 0 n)) (hr : Abs.rdVar h none c (0 + i * 3 + 0) = some (.str nm)) (hr2 : Abs.rdVar h none c (0 + i * 3 + 1) = some (.int .i64 k)) (heq : (nm == op) = true) :
    Gets K TB (tT r (.str op) p i t3 t6 t7 t8 t9 t10 t11 t12 t13 t14 t15 t16 t17 t18 t19 t20 t21 t22 t23 t24 t25 t26) h .ret
      [r, .str op, .ptr p 0, t3, .int .i64 k, .int .i64 i, .int .i64 i, .ptr p 2, .slice c 0 n, .int .i64 n, .bool true, t11, t12, .ptr p 2, .slice c 0 n, .int .i64 i, .ptr c (0 + i * 3), .ptr c (0 + i * 3 + 0), .str nm, .str op, .bool true, .ptr p 2, .slice c 0 n, .int .i64 i, .ptr c (0 + i * 3), .ptr c (0 + i * 3 + 1), .int .i64 k] h := by
  refine gets_of_exec (n := 60) [(8, .full (.slice c 0 n) h), (10, .val (.bool true)), (14, .full (.slice c 0 n) h), (16, .full (.ptr c (0 + i * 3)) h), (18, .full (.str nm) h), (20, .val (.bool true)), (22, .full (.slice c 0 n) h), (24, .full (.ptr c (0 + i * 3)) h), (26, .full (.int .i64 k) h)]
    [LD h none c (0 + i * 3 + 1) (.int .i64 k), IA h c 0 n 3 i (.ptr c (0 + i * 3)), LD h none p 2 (.slice c 0 n), AV.bool (nm == op) = .bool true, LD h none c (0 + i * 3 + 0) (.str nm), IA h c 0 n 3 i (.ptr c (0 + i * 3)), LD h none p 2 (.slice c 0 n), AV.bool (decide ((i : Int) < (n : Int))) = .bool true, LD h none p 2 (.slice c 0 n)] (by kernel_rfl) ?_
  simp only [List.mem_cons, List.not_mem_nil, or_false, forall_eq_or_imp, forall_eq]
  exact ⟨LD.of hr2, IA.of hi, LD.of hf, by rw [heq], LD.of hr, IA.of hi, LD.of hf, by simp [hi], LD.of hf⟩

theorem tb_end {r op : AV} {p c n : Nat} {h : Heap} {t3 t6 t7 t8 t9 t10 t11 t12 t13 t14 t15 t16 t17 t18 t19 t20 t21 t22 t23 t24 t25 t26 : AV} (hf : Abs.rdVar h none p 2 = some (.slice c 0 n)) :
    Gets K TB (tT r op p n t3 t6 t7 t8 t9 t10 t11 t12 t13 t14 t15 t16 t17 t18 t19 t20 t21 t22 t23 t24 t25 t26) h (.exit 0) (tT r op p n t3 (.int .i64 n) (.ptr p 2) (.slice c 0 n) (.int .i64 n) (.bool false) t11 t12 t13 t14 t15 t16 t17 t18 t19 t20 t21 t22 t23 t24 t25 t26) h := by
  refine gets_of_exec (n := 60) [(8, .full (.slice c 0 n) h), (10, .val (.bool false))] [AV.bool (decide ((n : Int) < (n : Int))) = .bool false, LD h none p 2 (.slice c 0 n)] (by kernel_rfl) ?_
  simp only [List.mem_cons, List.not_mem_nil, or_false, forall_eq_or_imp, forall_eq]
  exact ⟨by simp, LD.of hf⟩

theorem tb_loop {r : AV} {op : List UInt8} {p c n : Nat} {h : Heap} {nm : Nat → List UInt8} {k : Nat → Int} (hn : n < 9223372036854775807) (hf : Abs.rdVar h none p 2 = some (.slice c 0 n)) (hr : ∀ i, i < n → Abs.rdVar h none c (0 + i * 3 + 0) = some (.str (nm i))) (hr2 : ∀ i, i < n → Abs.rdVar h none c (0 + i * 3 + 1) = some (.int .i64 (k i))) :
    ∀ (m i : Nat) (t3 t6 t7 t8 t9 t10 t11 t12 t13 t14 t15 t16 t17 t18 t19 t20 t21 t22 t23 t24 t25 t26 : AV), i + m = n →
      (∃ t' j, firstFrom (fun i => nm i == op) m i = (j : Nat) ∧ j < n ∧ t'.getD 4 .undef = .int .i64 (k j) ∧ Gets K (.loop TB) (tT r (.str op) p i t3 t6 t7 t8 t9 t10 t11 t12 t13 t14 t15 t16 t17 t18 t19 t20 t21 t22 t23 t24 t25 t26) h .ret t' h) ∨
      (firstFrom (fun i => nm i == op) m i = -1 ∧ ∃ t', (∃ u3 u6 u7 u8 u9 u10 u11 u12 u13 u14 u15 u16 u17 u18 u19 u20 u21 u22 u23 u24 u25 u26, t' = tT r (.str op) p n u3 u6 u7 u8 u9 u10 u11 u12 u13 u14 u15 u16 u17 u18 u19 u20 u21 u22 u23 u24 u25 u26) ∧ Gets K (.loop TB) (tT r (.str op) p i t3 t6 t7 t8 t9 t10 t11 t12 t13 t14 t15 t16 t17 t18 t19 t20 t21 t22 t23 t24 t25 t26) h (.exit 0) t' h) := by
  intro m
  induction m with
  | zero =>
    intro i t3 t6 t7 t8 t9 t10 t11 t12 t13 t14 t15 t16 t17 t18 t19 t20 t21 t22 t23 t24 t25 t26 him
    obtain rfl : i = n := by omega
    exact .inr ⟨rfl, _, ⟨_, _, _, _, _, _, _, _, _, _, _, _, _, _, _, _, _, _, _, _, _, _, rfl⟩, Gets.loopX (by simp) (tb_end hf)⟩
  | succ m ih =>
    intro i t3 t6 t7 t8 t9 t10 t11 t12 t13 t14 t15 t16 t17 t18 t19 t20 t21 t22 t23 t24 t25 t26 him
    cases hq : nm i == op with
    | true => exact .inl ⟨_, i, by simp [firstFrom, hq], by omega, rfl, Gets.loopX (by simp) (tb_yes (by omega) hf (hr i (by omega)) (hr2 i (by omega)) hq)⟩
    | false =>
      have hno := tb_no (r := r) (t3 := t3) (t6 := t6) (t7 := t7) (t8 := t8) (t9 := t9) (t10 := t10) (t11 := t11) (t12 := t12) (t13 := t13) (t14 := t14) (t15 := t15) (t16 := t16) (t17 := t17) (t18 := t18) (t19 := t19) (t20 := t20) (t21 := t21) (t22 := t22) (t23 := t23) (t24 := t24) (t25 := t25) (t26 := t26) hn (by omega : i < n) hf (hr i (by omega)) hq
      have hfst : firstFrom (fun i => nm i == op) (m + 1) i = firstFrom (fun i => nm i == op) m (i + 1) := by simp [firstFrom, hq]
      rw [hfst]
      rcases ih (i + 1) _ _ _ _ _ _ _ _ _ _ _ _ _ _ _ _ _ _ _ _ _ _ (by omega) with ⟨t', j, h1, h2, h3, h4⟩ | ⟨h1, t', h2, h3⟩
      · exact .inl ⟨t', j, h1, h2, h3, Gets.loop hno h4⟩
      · exact .inr ⟨h1, t', h2, Gets.loop hno h3⟩

/-- What the reference's Takes says: -1, there is none. -/
def takesR (i : Nat) (op : List UInt8) : Int := if rjOf i op = -1 then -1 else (rcallAt i (rjOf i op).toNat).2.1

theorem rtakes_does {h : Heap} {i c : Nat} {op : List UInt8} (hi : i < 21) (hc : h[c]? = some (rObj (rrow i).at_)) : ∃ H, Ext h H ∧ Does K 9 [.agg (R7 i c), .str op] h (.int .i64 (takesR i op)) H := by
  have hx := Ext.push h (.arr (R7 i c) 7 false)
  have hcc := hx.get hc
  refine ⟨_, hx, ?_⟩
  have hf : Abs.rdVar (h ++ [.arr (R7 i c) 7 false]) none h.length 2 = some (.slice c 0 (rcalls i).length) := by simp [Abs.rdVar, rdCells, R7]
  have h1 : Gets K (.region [(.mk (.some 2) (.box 7 (.tmp 0)) .none), (.mk (.some 4) (.mov (.const (.int .i64 0))) .none)]) ([.agg (R7 i c), .str op] ++ List.replicate 25 .undef) h .normal ([.agg (R7 i c), .str op, .ptr h.length 0, .undef, .int .i64 0] ++ List.replicate 22 .undef) (h ++ [.arr (R7 i c) 7 false]) := gets_of_exec (n := 20) [] [] (by kernel_rfl) (by simp)
  have h2 : Gets K (.region [(.mk (.some 5) (.mov (.const (.int .i64 0))) .none)]) ([.agg (R7 i c), .str op, .ptr h.length 0, .undef, .int .i64 0] ++ List.replicate 22 .undef) (h ++ [.arr (R7 i c) 7 false]) .normal (tT (.agg (R7 i c)) (.str op) h.length 0 .undef .undef .undef .undef .undef .undef .undef .undef .undef .undef .undef .undef .undef .undef .undef .undef .undef .undef .undef .undef .undef .undef) (h ++ [.arr (R7 i c) 7 false]) := gets_of_exec (n := 20) [] [] (by kernel_rfl) (by simp)
  rcases tb_loop (r := .agg (R7 i c)) (op := op) (nm := fun j => (rcallAt i j).1) (k := fun j => (rcallAt i j).2.1) (rcalls_few i hi) hf (fun j hj => (rcall_rd hcc hj).2) (fun j hj => (rcall_rd hcc hj).1) (rcalls i).length 0 .undef .undef .undef .undef .undef .undef .undef .undef .undef .undef .undef .undef .undef .undef .undef .undef .undef .undef .undef .undef .undef .undef (by omega) with ⟨t', j, k1, k2, k3, k4⟩ | ⟨k1, t', ⟨u3, u6, u7, u8, u9, u10, u11, u12, u13, u14, u15, u16, u17, u18, u19, u20, u21, u22, u23, u24, u25, u26, rfl⟩, k3⟩
  · have hj : rjOf i op = (j : Nat) := k1
    have e : takesR i op = (rcallAt i j).2.1 := by simp [takesR, hj, show ¬ (j : Int) = -1 by omega]
    rw [e]
    refine Gets.call (show K.fn 9 = some F9 from rfl) (Gets.seq h1 (Gets.seqX (by simp) (Gets.seq h2 (Gets.block k4)))) (.inr rfl) ?_
    show Abs.results _ t' [.tmp 4] = _
    simp only [Abs.results, resAll, resOf, k3]
  · have hj : rjOf i op = -1 := k1
    have e : takesR i op = -1 := by simp [takesR, hj]
    rw [e]
    refine Gets.call (show K.fn 9 = some F9 from rfl) (Gets.seq h1 (Gets.seq (Gets.seq h2 (Gets.block k3)) (gets_of_exec (n := 20) (x := .ret) (h' := h ++ [.arr (R7 i c) 7 false])
      (t' := [.agg (R7 i c), .str op, .ptr h.length 0, u3, .int .i64 (-1), .int .i64 (rcalls i).length, u6, u7, u8, u9, u10, u11, u12, u13, u14, u15, u16, u17, u18, u19, u20, u21, u22, u23, u24, u25, u26]) [] [] (by kernel_rfl) (by simp)))) (.inr rfl) rfl
end Go.Proofs.Ythedodaghjpdoaa.Kinds
