/- The law ProgressKinds itself, on the abstract machine. -/
import Derived.Test.YthedodaghjpdoaaWalk
set_option linter.unusedVariables false
set_option linter.unusedSimpArgs false
set_option maxRecDepth 100000
namespace Go.Proofs.Ythedodaghjpdoaa.Kinds
open Go.Abs Mini
attribute [local irreducible] hr rtObj hs tObj

def A0 (a b : List UInt8) (x y : Int) : Heap := [.arr [.str a, .str b, .int .i64 x, .int .i64 y] 4 false]

theorem law_no (a b : List UInt8) (x y : Int) (hno : idxR a = -1) : ∃ H, Does K 3 [.agg [.str a, .str b, .int .i64 x, .int .i64 y]] [] (.bool true) H := by
  obtain ⟨H5, x5, d5⟩ := awake_does (A0 a b x y)
  obtain ⟨H6, x6, d6⟩ := kind_does H5 a b
  obtain ⟨H7, x7, d7⟩ := bound_does H6 a b x y
  have hn : idxN a = -1 := by rw [← idx_same]; exact hno
  have ht : takesG a b = (0, 5) := by simp [takesG, hn]
  have hk : kindG a b = (0, 5) := by simp [kindG, ht]
  have hb : boundG a b x y = (0, 5) := by simp [boundG, hk]
  rw [hk] at d6
  rw [hb] at d7
  rcases rfind_does H7 a with ⟨i, H8, c, hi, hf, x8, hc, d8⟩ | ⟨_, H8, x8, d8⟩
  · rw [hf] at hno; omega
  refine ⟨_, does_of_exec (n := 100) (h' := H8 ++ [.arr zero7 7 false]) [(21, .call (.bool true) H5), (26, .call (.tuple [.int .i64 0, .int .i64 5]) H6), (34, .call (.tuple [.int .i64 0, .int .i64 5]) H7), (39, .call (.tuple [.agg zero7, .bool false]) H8), (9999, .full .undef (H8 ++ [.arr zero7 7 false]))]
    [ST (H8 ++ [.arr zero7 7 false]) H8.length 0 zero7 (H8 ++ [.arr zero7 7 false]), Does K 8 [.str a] H7 (.tuple [.agg zero7, .bool false]) H8, Does K 7 [.str a, .str b, .int .i64 x, .int .i64 y] H6 (.tuple [.int .i64 0, .int .i64 5]) H7, Does K 6 [.str a, .str b] H5 (.tuple [.int .i64 0, .int .i64 5]) H6, Does K 5 [] (A0 a b x y) (.bool true) H5] (by kernel_rfl) ?_⟩
  simp only [List.mem_cons, List.not_mem_nil, or_false, forall_eq_or_imp, forall_eq]
  exact ⟨st7 rfl, d8, d7, d6, d5⟩

theorem law_err (a b : List UInt8) (x y : Int) {i : Nat} (hi : i < 21) (hf : idxR a = i) (hj : rjOf i b = -1) : ∃ H, Does K 3 [.agg [.str a, .str b, .int .i64 x, .int .i64 y]] [] (.bool true) H := by
  obtain ⟨H5, x5, d5⟩ := awake_does (A0 a b x y)
  obtain ⟨H6, x6, d6⟩ := kind_does H5 a b
  obtain ⟨H7, x7, d7⟩ := bound_does H6 a b x y
  have hn : idxN a = i := by rw [← idx_same]; exact hf
  have hjj : jOf i b = -1 := by rw [← j_same hi]; exact hj
  have ht : takesG a b = (0, 1) := by simp [takesG, hn, hjj, show ¬ (i : Int) = -1 by omega]
  have hk : kindG a b = (0, 1) := by simp [kindG, ht]
  have hb : boundG a b x y = (0, 1) := by simp [boundG, hk]
  rw [hk] at d6
  rw [hb] at d7
  rcases rfind_does H7 a with ⟨i', H8, c, hi', hf', x8, hc, d8⟩ | ⟨hno, _⟩
  rotate_left
  · rw [hf] at hno; omega
  obtain rfl : i' = i := by rw [hf] at hf'; omega
  obtain ⟨H9, x9, d9⟩ := rtakes_does (h := H8 ++ [.arr (R7 i' c) 7 false]) (op := b) hi ((Ext.push _ _).get hc)
  have htr : takesR i' b = -1 := by simp [takesR, hj]
  rw [htr] at d9
  refine ⟨_, does_of_exec (n := 100) (h' := H9) [(21, .call (.bool true) H5), (26, .call (.tuple [.int .i64 0, .int .i64 1]) H6), (34, .call (.tuple [.int .i64 0, .int .i64 1]) H7), (39, .call (.tuple [.agg (R7 i' c), .bool true]) H8), (9999, .full .undef (H8 ++ [.arr (R7 i' c) 7 false])), (58, .full (.agg (R7 i' c)) (H8 ++ [.arr (R7 i' c) 7 false])), (60, .call (.int .i64 (-1)) H9)]
    [Does K 9 [.agg (R7 i' c), .str b] (H8 ++ [.arr (R7 i' c) 7 false]) (.int .i64 (-1)) H9, LD (H8 ++ [.arr (R7 i' c) 7 false]) (some 7) H8.length 0 (.agg (R7 i' c)), ST (H8 ++ [.arr zero7 7 false]) H8.length 0 (R7 i' c) (H8 ++ [.arr (R7 i' c) 7 false]), Does K 8 [.str a] H7 (.tuple [.agg (R7 i' c), .bool true]) H8, Does K 7 [.str a, .str b, .int .i64 x, .int .i64 y] H6 (.tuple [.int .i64 0, .int .i64 1]) H7, Does K 6 [.str a, .str b] H5 (.tuple [.int .i64 0, .int .i64 1]) H6, Does K 5 [] (A0 a b x y) (.bool true) H5] (by kernel_rfl) ?_⟩
  simp only [List.mem_cons, List.not_mem_nil, or_false, forall_eq_or_imp, forall_eq]
  exact ⟨d9, LD.of (by simp [Abs.rdVar, rdCells, R7]), st7 rfl, d8, d7, d6, d5⟩

/-- What stands before the numbers are looked at. -/
structure Upto (a b : List UInt8) (x y : Int) (k n f tk : Int) (i c : Nat) (H5 H6 H7 H8 H9 : Heap) : Prop where
  d5 : Does K 5 [] (A0 a b x y) (.bool true) H5
  d6 : Does K 6 [.str a, .str b] H5 (.tuple [.int .i64 k, .int .i64 0]) H6
  d7 : Does K 7 [.str a, .str b, .int .i64 x, .int .i64 y] H6 (.tuple [.int .i64 n, .int .i64 f]) H7
  d8 : Does K 8 [.str a] H7 (.tuple [.agg (R7 i c), .bool true]) H8
  d9 : Does K 9 [.agg (R7 i c), .str b] (H8 ++ [.arr (R7 i c) 7 false]) (.int .i64 tk) H9
  d10 : Does K 10 [.str a, .str b] H9 (.int .i64 k) H9
  pos : 0 ≤ tk

theorem upto (a b : List UInt8) (x y : Int) {i j : Nat} (hi : i < 21) (hf : idxR a = i) (hj : rjOf i b = (j : Nat)) (hjl : j < (rcalls i).length) :
    (∃ tk c H5 H6 H7 H8 H9, Upto a b x y 2 (boundG a b x y).1 (boundG a b x y).2 tk i c H5 H6 H7 H8 H9 ∧ kindG a b = (2, 0) ∧ kindR a b = 2) ∨
    (∃ tk c H5 H6 H7 H8 H9, Upto a b x y 1 (boundG a b x y).1 (boundG a b x y).2 tk i c H5 H6 H7 H8 H9 ∧ kindG a b = (1, 0) ∧ kindR a b = 1) := by
  obtain ⟨H5, x5, d5⟩ := awake_does (A0 a b x y)
  obtain ⟨H6, x6, d6⟩ := kind_does H5 a b
  obtain ⟨H7, x7, d7⟩ := bound_does H6 a b x y
  have hn : idxN a = i := by rw [← idx_same]; exact hf
  have hjj : jOf i b = (j : Nat) := by rw [← j_same hi]; exact hj
  have ht : takesG a b = ((callAt i j).2, 0) := by simp [takesG, hn, hjj, show ¬ (i : Int) = -1 by omega, show ¬ (j : Int) = -1 by omega]
  rcases rfind_does H7 a with ⟨i', H8, c, hi', hf', x8, hc, d8⟩ | ⟨hno, _⟩
  rotate_left
  · rw [hf] at hno; omega
  obtain rfl : i' = i := by rw [hf] at hf'; omega
  obtain ⟨H9, x9, d9⟩ := rtakes_does (h := H8 ++ [.arr (R7 i' c) 7 false]) (op := b) hi ((Ext.push _ _).get hc)
  have htr : takesR i' b = (callAt i' j).2 := by simp [takesR, hj, show ¬ (j : Int) = -1 by omega, rcall_same hi hjl]
  rw [htr] at d9
  have hp := takes_pos i' hi j (by rw [← len_same hi]; exact hjl)
  have d10 := rkind_does H9 a b
  have hs := kinds_same a b
  cases hfr : freeG a b with
  | true =>
    have hk : kindG a b = (2, 0) := by simp [kindG, ht, hfr]
    rw [hk] at d6
    have hkr : kindR a b = 2 := by rw [← hs]; simp [hfr]
    rw [hkr] at d10
    exact .inl ⟨_, c, H5, H6, H7, H8, H9, ⟨d5, d6, d7, d8, d9, d10, hp⟩, hk, hkr⟩
  | false =>
    have hk : kindG a b = (1, 0) := by simp [kindG, ht, hfr]
    rw [hk] at d6
    have hkr : kindR a b = 1 := by rw [← hs]; simp [hfr]
    rw [hkr] at d10
    exact .inr ⟨_, c, H5, H6, H7, H8, H9, ⟨d5, d6, d7, d8, d9, d10, hp⟩, hk, hkr⟩

/-- From there: outside the range. -/
theorem law_out {a b : List UInt8} {x y k tk : Int} {i c : Nat} {H5 H6 H7 H8 H9 : Heap} (hk : k = 2 ∨ k = 1) (U : Upto a b x y k 0 1 tk i c H5 H6 H7 H8 H9) (ho : outR x y) : ∃ H, Does K 3 [.agg [.str a, .str b, .int .i64 x, .int .i64 y]] [] (.bool true) H := by
  obtain ⟨d5, d6, d7, d8, d9, d10, hp⟩ := U
  have hl : LD (H8 ++ [.arr (R7 i c) 7 false]) (some 7) H8.length 0 (.agg (R7 i c)) := LD.of (by simp [Abs.rdVar, rdCells, R7])
  have hst : ST (H8 ++ [.arr zero7 7 false]) H8.length 0 (R7 i c) (H8 ++ [.arr (R7 i c) 7 false]) := st7 rfl
  by_cases c1 : x < 0
  · rcases hk with rfl | rfl
    · refine ⟨_, does_of_exec (n := 120) (h' := H9) [(21, .call (.bool true) H5), (26, .call (.tuple [.int .i64 2, .int .i64 0]) H6), (34, .call (.tuple [.int .i64 0, .int .i64 1]) H7), (39, .call (.tuple [.agg (R7 i c), .bool true]) H8), (9999, .full .undef (H8 ++ [.arr (R7 i c) 7 false])), (58, .full (.agg (R7 i c)) (H8 ++ [.arr (R7 i c) 7 false])), (60, .call (.int .i64 tk) H9), (61, .val (.bool false)), (79, .call (.int .i64 2) H9), (86, .val (.bool true))] [AV.bool (decide (x < 0)) = .bool true, Does K 10 [.str a, .str b] H9 (.int .i64 2) H9, AV.bool (decide (tk < 0)) = .bool false, Does K 9 [.agg (R7 i c), .str b] (H8 ++ [.arr (R7 i c) 7 false]) (.int .i64 tk) H9, LD (H8 ++ [.arr (R7 i c) 7 false]) (some 7) H8.length 0 (.agg (R7 i c)), ST (H8 ++ [.arr zero7 7 false]) H8.length 0 (R7 i c) (H8 ++ [.arr (R7 i c) 7 false]), Does K 8 [.str a] H7 (.tuple [.agg (R7 i c), .bool true]) H8, Does K 7 [.str a, .str b, .int .i64 x, .int .i64 y] H6 (.tuple [.int .i64 0, .int .i64 1]) H7, Does K 6 [.str a, .str b] H5 (.tuple [.int .i64 2, .int .i64 0]) H6, Does K 5 [] (A0 a b x y) (.bool true) H5] (by kernel_rfl) ?_⟩
      simp only [List.mem_cons, List.not_mem_nil, or_false, forall_eq_or_imp, forall_eq]
      exact ⟨by simpa using c1, d10, by simpa using hp, d9, hl, hst, d8, d7, d6, d5⟩
    · refine ⟨_, does_of_exec (n := 120) (h' := H9) [(21, .call (.bool true) H5), (26, .call (.tuple [.int .i64 1, .int .i64 0]) H6), (34, .call (.tuple [.int .i64 0, .int .i64 1]) H7), (39, .call (.tuple [.agg (R7 i c), .bool true]) H8), (9999, .full .undef (H8 ++ [.arr (R7 i c) 7 false])), (58, .full (.agg (R7 i c)) (H8 ++ [.arr (R7 i c) 7 false])), (60, .call (.int .i64 tk) H9), (61, .val (.bool false)), (79, .call (.int .i64 1) H9), (86, .val (.bool true))] [AV.bool (decide (x < 0)) = .bool true, Does K 10 [.str a, .str b] H9 (.int .i64 1) H9, AV.bool (decide (tk < 0)) = .bool false, Does K 9 [.agg (R7 i c), .str b] (H8 ++ [.arr (R7 i c) 7 false]) (.int .i64 tk) H9, LD (H8 ++ [.arr (R7 i c) 7 false]) (some 7) H8.length 0 (.agg (R7 i c)), ST (H8 ++ [.arr zero7 7 false]) H8.length 0 (R7 i c) (H8 ++ [.arr (R7 i c) 7 false]), Does K 8 [.str a] H7 (.tuple [.agg (R7 i c), .bool true]) H8, Does K 7 [.str a, .str b, .int .i64 x, .int .i64 y] H6 (.tuple [.int .i64 0, .int .i64 1]) H7, Does K 6 [.str a, .str b] H5 (.tuple [.int .i64 1, .int .i64 0]) H6, Does K 5 [] (A0 a b x y) (.bool true) H5] (by kernel_rfl) ?_⟩
      simp only [List.mem_cons, List.not_mem_nil, or_false, forall_eq_or_imp, forall_eq]
      exact ⟨by simpa using c1, d10, by simpa using hp, d9, hl, hst, d8, d7, d6, d5⟩
  by_cases c2 : x > 1000000
  · rcases hk with rfl | rfl
    · refine ⟨_, does_of_exec (n := 120) (h' := H9) [(21, .call (.bool true) H5), (26, .call (.tuple [.int .i64 2, .int .i64 0]) H6), (34, .call (.tuple [.int .i64 0, .int .i64 1]) H7), (39, .call (.tuple [.agg (R7 i c), .bool true]) H8), (9999, .full .undef (H8 ++ [.arr (R7 i c) 7 false])), (58, .full (.agg (R7 i c)) (H8 ++ [.arr (R7 i c) 7 false])), (60, .call (.int .i64 tk) H9), (61, .val (.bool false)), (79, .call (.int .i64 2) H9), (86, .val (.bool false)), (89, .val (.bool true))] [AV.bool (decide (x > 1000000)) = .bool true, AV.bool (decide (x < 0)) = .bool false, Does K 10 [.str a, .str b] H9 (.int .i64 2) H9, AV.bool (decide (tk < 0)) = .bool false, Does K 9 [.agg (R7 i c), .str b] (H8 ++ [.arr (R7 i c) 7 false]) (.int .i64 tk) H9, LD (H8 ++ [.arr (R7 i c) 7 false]) (some 7) H8.length 0 (.agg (R7 i c)), ST (H8 ++ [.arr zero7 7 false]) H8.length 0 (R7 i c) (H8 ++ [.arr (R7 i c) 7 false]), Does K 8 [.str a] H7 (.tuple [.agg (R7 i c), .bool true]) H8, Does K 7 [.str a, .str b, .int .i64 x, .int .i64 y] H6 (.tuple [.int .i64 0, .int .i64 1]) H7, Does K 6 [.str a, .str b] H5 (.tuple [.int .i64 2, .int .i64 0]) H6, Does K 5 [] (A0 a b x y) (.bool true) H5] (by kernel_rfl) ?_⟩
      simp only [List.mem_cons, List.not_mem_nil, or_false, forall_eq_or_imp, forall_eq]
      exact ⟨by simpa using c2, by simpa using c1, d10, by simpa using hp, d9, hl, hst, d8, d7, d6, d5⟩
    · refine ⟨_, does_of_exec (n := 120) (h' := H9) [(21, .call (.bool true) H5), (26, .call (.tuple [.int .i64 1, .int .i64 0]) H6), (34, .call (.tuple [.int .i64 0, .int .i64 1]) H7), (39, .call (.tuple [.agg (R7 i c), .bool true]) H8), (9999, .full .undef (H8 ++ [.arr (R7 i c) 7 false])), (58, .full (.agg (R7 i c)) (H8 ++ [.arr (R7 i c) 7 false])), (60, .call (.int .i64 tk) H9), (61, .val (.bool false)), (79, .call (.int .i64 1) H9), (86, .val (.bool false)), (89, .val (.bool true))] [AV.bool (decide (x > 1000000)) = .bool true, AV.bool (decide (x < 0)) = .bool false, Does K 10 [.str a, .str b] H9 (.int .i64 1) H9, AV.bool (decide (tk < 0)) = .bool false, Does K 9 [.agg (R7 i c), .str b] (H8 ++ [.arr (R7 i c) 7 false]) (.int .i64 tk) H9, LD (H8 ++ [.arr (R7 i c) 7 false]) (some 7) H8.length 0 (.agg (R7 i c)), ST (H8 ++ [.arr zero7 7 false]) H8.length 0 (R7 i c) (H8 ++ [.arr (R7 i c) 7 false]), Does K 8 [.str a] H7 (.tuple [.agg (R7 i c), .bool true]) H8, Does K 7 [.str a, .str b, .int .i64 x, .int .i64 y] H6 (.tuple [.int .i64 0, .int .i64 1]) H7, Does K 6 [.str a, .str b] H5 (.tuple [.int .i64 1, .int .i64 0]) H6, Does K 5 [] (A0 a b x y) (.bool true) H5] (by kernel_rfl) ?_⟩
      simp only [List.mem_cons, List.not_mem_nil, or_false, forall_eq_or_imp, forall_eq]
      exact ⟨by simpa using c2, by simpa using c1, d10, by simpa using hp, d9, hl, hst, d8, d7, d6, d5⟩
  by_cases c3 : y < 0
  · rcases hk with rfl | rfl
    · refine ⟨_, does_of_exec (n := 120) (h' := H9) [(21, .call (.bool true) H5), (26, .call (.tuple [.int .i64 2, .int .i64 0]) H6), (34, .call (.tuple [.int .i64 0, .int .i64 1]) H7), (39, .call (.tuple [.agg (R7 i c), .bool true]) H8), (9999, .full .undef (H8 ++ [.arr (R7 i c) 7 false])), (58, .full (.agg (R7 i c)) (H8 ++ [.arr (R7 i c) 7 false])), (60, .call (.int .i64 tk) H9), (61, .val (.bool false)), (79, .call (.int .i64 2) H9), (86, .val (.bool false)), (89, .val (.bool false)), (93, .val (.bool true))] [AV.bool (decide (y < 0)) = .bool true, AV.bool (decide (x > 1000000)) = .bool false, AV.bool (decide (x < 0)) = .bool false, Does K 10 [.str a, .str b] H9 (.int .i64 2) H9, AV.bool (decide (tk < 0)) = .bool false, Does K 9 [.agg (R7 i c), .str b] (H8 ++ [.arr (R7 i c) 7 false]) (.int .i64 tk) H9, LD (H8 ++ [.arr (R7 i c) 7 false]) (some 7) H8.length 0 (.agg (R7 i c)), ST (H8 ++ [.arr zero7 7 false]) H8.length 0 (R7 i c) (H8 ++ [.arr (R7 i c) 7 false]), Does K 8 [.str a] H7 (.tuple [.agg (R7 i c), .bool true]) H8, Does K 7 [.str a, .str b, .int .i64 x, .int .i64 y] H6 (.tuple [.int .i64 0, .int .i64 1]) H7, Does K 6 [.str a, .str b] H5 (.tuple [.int .i64 2, .int .i64 0]) H6, Does K 5 [] (A0 a b x y) (.bool true) H5] (by kernel_rfl) ?_⟩
      simp only [List.mem_cons, List.not_mem_nil, or_false, forall_eq_or_imp, forall_eq]
      exact ⟨by simpa using c3, by simpa using c2, by simpa using c1, d10, by simpa using hp, d9, hl, hst, d8, d7, d6, d5⟩
    · refine ⟨_, does_of_exec (n := 120) (h' := H9) [(21, .call (.bool true) H5), (26, .call (.tuple [.int .i64 1, .int .i64 0]) H6), (34, .call (.tuple [.int .i64 0, .int .i64 1]) H7), (39, .call (.tuple [.agg (R7 i c), .bool true]) H8), (9999, .full .undef (H8 ++ [.arr (R7 i c) 7 false])), (58, .full (.agg (R7 i c)) (H8 ++ [.arr (R7 i c) 7 false])), (60, .call (.int .i64 tk) H9), (61, .val (.bool false)), (79, .call (.int .i64 1) H9), (86, .val (.bool false)), (89, .val (.bool false)), (93, .val (.bool true))] [AV.bool (decide (y < 0)) = .bool true, AV.bool (decide (x > 1000000)) = .bool false, AV.bool (decide (x < 0)) = .bool false, Does K 10 [.str a, .str b] H9 (.int .i64 1) H9, AV.bool (decide (tk < 0)) = .bool false, Does K 9 [.agg (R7 i c), .str b] (H8 ++ [.arr (R7 i c) 7 false]) (.int .i64 tk) H9, LD (H8 ++ [.arr (R7 i c) 7 false]) (some 7) H8.length 0 (.agg (R7 i c)), ST (H8 ++ [.arr zero7 7 false]) H8.length 0 (R7 i c) (H8 ++ [.arr (R7 i c) 7 false]), Does K 8 [.str a] H7 (.tuple [.agg (R7 i c), .bool true]) H8, Does K 7 [.str a, .str b, .int .i64 x, .int .i64 y] H6 (.tuple [.int .i64 0, .int .i64 1]) H7, Does K 6 [.str a, .str b] H5 (.tuple [.int .i64 1, .int .i64 0]) H6, Does K 5 [] (A0 a b x y) (.bool true) H5] (by kernel_rfl) ?_⟩
      simp only [List.mem_cons, List.not_mem_nil, or_false, forall_eq_or_imp, forall_eq]
      exact ⟨by simpa using c3, by simpa using c2, by simpa using c1, d10, by simpa using hp, d9, hl, hst, d8, d7, d6, d5⟩
  have c4 : y > 1000000 := by
    unfold outR at ho
    omega
  rcases hk with rfl | rfl
  · refine ⟨_, does_of_exec (n := 120) (h' := H9) [(21, .call (.bool true) H5), (26, .call (.tuple [.int .i64 2, .int .i64 0]) H6), (34, .call (.tuple [.int .i64 0, .int .i64 1]) H7), (39, .call (.tuple [.agg (R7 i c), .bool true]) H8), (9999, .full .undef (H8 ++ [.arr (R7 i c) 7 false])), (58, .full (.agg (R7 i c)) (H8 ++ [.arr (R7 i c) 7 false])), (60, .call (.int .i64 tk) H9), (61, .val (.bool false)), (79, .call (.int .i64 2) H9), (86, .val (.bool false)), (89, .val (.bool false)), (93, .val (.bool false)), (97, .val (.bool true))] [AV.bool (decide (y > 1000000)) = .bool true, AV.bool (decide (y < 0)) = .bool false, AV.bool (decide (x > 1000000)) = .bool false, AV.bool (decide (x < 0)) = .bool false, Does K 10 [.str a, .str b] H9 (.int .i64 2) H9, AV.bool (decide (tk < 0)) = .bool false, Does K 9 [.agg (R7 i c), .str b] (H8 ++ [.arr (R7 i c) 7 false]) (.int .i64 tk) H9, LD (H8 ++ [.arr (R7 i c) 7 false]) (some 7) H8.length 0 (.agg (R7 i c)), ST (H8 ++ [.arr zero7 7 false]) H8.length 0 (R7 i c) (H8 ++ [.arr (R7 i c) 7 false]), Does K 8 [.str a] H7 (.tuple [.agg (R7 i c), .bool true]) H8, Does K 7 [.str a, .str b, .int .i64 x, .int .i64 y] H6 (.tuple [.int .i64 0, .int .i64 1]) H7, Does K 6 [.str a, .str b] H5 (.tuple [.int .i64 2, .int .i64 0]) H6, Does K 5 [] (A0 a b x y) (.bool true) H5] (by kernel_rfl) ?_⟩
    simp only [List.mem_cons, List.not_mem_nil, or_false, forall_eq_or_imp, forall_eq]
    exact ⟨by simpa using c4, by simpa using c3, by simpa using c2, by simpa using c1, d10, by simpa using hp, d9, hl, hst, d8, d7, d6, d5⟩
  · refine ⟨_, does_of_exec (n := 120) (h' := H9) [(21, .call (.bool true) H5), (26, .call (.tuple [.int .i64 1, .int .i64 0]) H6), (34, .call (.tuple [.int .i64 0, .int .i64 1]) H7), (39, .call (.tuple [.agg (R7 i c), .bool true]) H8), (9999, .full .undef (H8 ++ [.arr (R7 i c) 7 false])), (58, .full (.agg (R7 i c)) (H8 ++ [.arr (R7 i c) 7 false])), (60, .call (.int .i64 tk) H9), (61, .val (.bool false)), (79, .call (.int .i64 1) H9), (86, .val (.bool false)), (89, .val (.bool false)), (93, .val (.bool false)), (97, .val (.bool true))] [AV.bool (decide (y > 1000000)) = .bool true, AV.bool (decide (y < 0)) = .bool false, AV.bool (decide (x > 1000000)) = .bool false, AV.bool (decide (x < 0)) = .bool false, Does K 10 [.str a, .str b] H9 (.int .i64 1) H9, AV.bool (decide (tk < 0)) = .bool false, Does K 9 [.agg (R7 i c), .str b] (H8 ++ [.arr (R7 i c) 7 false]) (.int .i64 tk) H9, LD (H8 ++ [.arr (R7 i c) 7 false]) (some 7) H8.length 0 (.agg (R7 i c)), ST (H8 ++ [.arr zero7 7 false]) H8.length 0 (R7 i c) (H8 ++ [.arr (R7 i c) 7 false]), Does K 8 [.str a] H7 (.tuple [.agg (R7 i c), .bool true]) H8, Does K 7 [.str a, .str b, .int .i64 x, .int .i64 y] H6 (.tuple [.int .i64 0, .int .i64 1]) H7, Does K 6 [.str a, .str b] H5 (.tuple [.int .i64 1, .int .i64 0]) H6, Does K 5 [] (A0 a b x y) (.bool true) H5] (by kernel_rfl) ?_⟩
    simp only [List.mem_cons, List.not_mem_nil, or_false, forall_eq_or_imp, forall_eq]
    exact ⟨by simpa using c4, by simpa using c3, by simpa using c2, by simpa using c1, d10, by simpa using hp, d9, hl, hst, d8, d7, d6, d5⟩

theorem law_in {a b : List UInt8} {x y k n tk : Int} {i c : Nat} {H5 H6 H7 H8 H9 : Heap} (hk : k = 2 ∨ k = 1) (U : Upto a b x y k n 0 tk i c H5 H6 H7 H8 H9) (ho : ¬ outR x y) (d11 : Does K 11 [.str a, .str b, .int .i64 x, .int .i64 y] H9 (.int .i64 n) H9) : ∃ H, Does K 3 [.agg [.str a, .str b, .int .i64 x, .int .i64 y]] [] (.bool true) H := by
  obtain ⟨d5, d6, d7, d8, d9, d10, hp⟩ := U
  have hl : LD (H8 ++ [.arr (R7 i c) 7 false]) (some 7) H8.length 0 (.agg (R7 i c)) := LD.of (by simp [Abs.rdVar, rdCells, R7])
  have hst : ST (H8 ++ [.arr zero7 7 false]) H8.length 0 (R7 i c) (H8 ++ [.arr (R7 i c) 7 false]) := st7 rfl
  unfold outR at ho
  have c1 : ¬ x < 0 := by omega
  have c2 : ¬ x > 1000000 := by omega
  have c3 : ¬ y < 0 := by omega
  have c4 : ¬ y > 1000000 := by omega
  rcases hk with rfl | rfl
  · refine ⟨_, does_of_exec (n := 120) (h' := H9) [(21, .call (.bool true) H5), (26, .call (.tuple [.int .i64 2, .int .i64 0]) H6), (34, .call (.tuple [.int .i64 n, .int .i64 0]) H7), (39, .call (.tuple [.agg (R7 i c), .bool true]) H8), (9999, .full .undef (H8 ++ [.arr (R7 i c) 7 false])), (58, .full (.agg (R7 i c)) (H8 ++ [.arr (R7 i c) 7 false])), (60, .call (.int .i64 tk) H9), (61, .val (.bool false)), (79, .call (.int .i64 2) H9), (86, .val (.bool false)), (89, .val (.bool false)), (93, .val (.bool false)), (97, .val (.bool false)), (110, .call (.int .i64 n) H9), (111, .val (.bool true))] [AV.bool (n == n) = .bool true, Does K 11 [.str a, .str b, .int .i64 x, .int .i64 y] H9 (.int .i64 n) H9, AV.bool (decide (y > 1000000)) = .bool false, AV.bool (decide (y < 0)) = .bool false, AV.bool (decide (x > 1000000)) = .bool false, AV.bool (decide (x < 0)) = .bool false, Does K 10 [.str a, .str b] H9 (.int .i64 2) H9, AV.bool (decide (tk < 0)) = .bool false, Does K 9 [.agg (R7 i c), .str b] (H8 ++ [.arr (R7 i c) 7 false]) (.int .i64 tk) H9, LD (H8 ++ [.arr (R7 i c) 7 false]) (some 7) H8.length 0 (.agg (R7 i c)), ST (H8 ++ [.arr zero7 7 false]) H8.length 0 (R7 i c) (H8 ++ [.arr (R7 i c) 7 false]), Does K 8 [.str a] H7 (.tuple [.agg (R7 i c), .bool true]) H8, Does K 7 [.str a, .str b, .int .i64 x, .int .i64 y] H6 (.tuple [.int .i64 n, .int .i64 0]) H7, Does K 6 [.str a, .str b] H5 (.tuple [.int .i64 2, .int .i64 0]) H6, Does K 5 [] (A0 a b x y) (.bool true) H5] (by kernel_rfl) ?_⟩
    simp only [List.mem_cons, List.not_mem_nil, or_false, forall_eq_or_imp, forall_eq]
    exact ⟨by simp, d11, by simpa using c4, by simpa using c3, by simpa using c2, by simpa using c1, d10, by simpa using hp, d9, hl, hst, d8, d7, d6, d5⟩
  · refine ⟨_, does_of_exec (n := 120) (h' := H9) [(21, .call (.bool true) H5), (26, .call (.tuple [.int .i64 1, .int .i64 0]) H6), (34, .call (.tuple [.int .i64 n, .int .i64 0]) H7), (39, .call (.tuple [.agg (R7 i c), .bool true]) H8), (9999, .full .undef (H8 ++ [.arr (R7 i c) 7 false])), (58, .full (.agg (R7 i c)) (H8 ++ [.arr (R7 i c) 7 false])), (60, .call (.int .i64 tk) H9), (61, .val (.bool false)), (79, .call (.int .i64 1) H9), (86, .val (.bool false)), (89, .val (.bool false)), (93, .val (.bool false)), (97, .val (.bool false)), (110, .call (.int .i64 n) H9), (111, .val (.bool true))] [AV.bool (n == n) = .bool true, Does K 11 [.str a, .str b, .int .i64 x, .int .i64 y] H9 (.int .i64 n) H9, AV.bool (decide (y > 1000000)) = .bool false, AV.bool (decide (y < 0)) = .bool false, AV.bool (decide (x > 1000000)) = .bool false, AV.bool (decide (x < 0)) = .bool false, Does K 10 [.str a, .str b] H9 (.int .i64 1) H9, AV.bool (decide (tk < 0)) = .bool false, Does K 9 [.agg (R7 i c), .str b] (H8 ++ [.arr (R7 i c) 7 false]) (.int .i64 tk) H9, LD (H8 ++ [.arr (R7 i c) 7 false]) (some 7) H8.length 0 (.agg (R7 i c)), ST (H8 ++ [.arr zero7 7 false]) H8.length 0 (R7 i c) (H8 ++ [.arr (R7 i c) 7 false]), Does K 8 [.str a] H7 (.tuple [.agg (R7 i c), .bool true]) H8, Does K 7 [.str a, .str b, .int .i64 x, .int .i64 y] H6 (.tuple [.int .i64 n, .int .i64 0]) H7, Does K 6 [.str a, .str b] H5 (.tuple [.int .i64 1, .int .i64 0]) H6, Does K 5 [] (A0 a b x y) (.bool true) H5] (by kernel_rfl) ?_⟩
    simp only [List.mem_cons, List.not_mem_nil, or_false, forall_eq_or_imp, forall_eq]
    exact ⟨by simp, d11, by simpa using c4, by simpa using c3, by simpa using c2, by simpa using c1, d10, by simpa using hp, d9, hl, hst, d8, d7, d6, d5⟩

theorem walk (a b : List UInt8) (x y : Int) : ∃ H, Does K 3 [.agg [.str a, .str b, .int .i64 x, .int .i64 y]] [] (.bool true) H := by
  rcases firstFrom_spec (fun i => (rrow i).nm == a) 21 0 with hno | ⟨i, _, hi, hf, _⟩
  · exact law_no a b x y hno
  have hi : i < 21 := by omega
  rcases firstFrom_spec (fun j => (rcallAt i j).1 == b) (rcalls i).length 0 with hj | ⟨j, _, hjl, hj, _⟩
  · exact law_err a b x y hi hf hj
  have hjl : j < (rcalls i).length := by omega
  by_cases ho : outR x y
  · rcases upto a b x y hi hf hj hjl with ⟨tk, c, H5, H6, H7, H8, H9, U, hk, hkr⟩ | ⟨tk, c, H5, H6, H7, H8, H9, U, hk, hkr⟩
    · have hb : boundG a b x y = (0, 1) := by simp [boundG, hk, ho]
      rw [hb] at U
      exact law_out (.inl rfl) U ho
    · have hb : boundG a b x y = (0, 1) := by simp [boundG, hk, ho]
      rw [hb] at U
      exact law_out (.inr rfl) U ho
  · rcases upto a b x y hi hf hj hjl with ⟨tk, c, H5, H6, H7, H8, H9, U, hk, hkr⟩ | ⟨tk, c, H5, H6, H7, H8, H9, U, hk, hkr⟩
    · have hb : boundG a b x y = (boundR a b x y, 0) := by simp [boundG, boundR, hk, hkr, ho]
      rw [hb] at U
      exact law_in (.inl rfl) U ho (rbound_does H9 a b x y)
    · have hb : boundG a b x y = (boundR a b x y, 0) := by simp [boundG, boundR, hk, hkr, ho]
      rw [hb] at U
      exact law_in (.inr rfl) U ho (rbound_does H9 a b x y)
end Go.Proofs.Ythedodaghjpdoaa.Kinds
