/- The law ProgressKinds, on the abstract machine. -/
import Derived.Test.YthedodaghjpdoaaParts
set_option linter.unusedVariables false
set_option linter.unusedSimpArgs false
set_option maxRecDepth 100000
namespace Go.Proofs.Ythedodaghjpdoaa.Kinds
open Go.Abs Mini
attribute [local irreducible] hr rtObj hs tObj

def kindR (name op : List UInt8) : Int :=
  if (name == sNet) = true then 2 else if (name == sUni) = true then 2 else if (name == sSnap) = true then (if (op == sUpdate) = true then 2 else 1)
  else if (name == sTally) = true then (if (op == sGet) = true then 2 else 1) else if (name == sDeque) = true then (if (op == sSteal) = true then 1 else 2) else 1

theorem rkind_does (h : Heap) (name op : List UInt8) : Does K 10 [.str name, .str op] h (.int .i64 (kindR name op)) h := by
  cases h1 : name == sNet with
  | true =>
    rw [show kindR name op = 2 by simp [kindR, h1]]
    exact does_of_exec (n := 60) [(7, .val (.bool true))] [AV.bool (name == sNet) = .bool true] (by kernel_rfl) (by simp [h1])
  | false =>
  cases h2 : name == sUni with
  | true =>
    rw [show kindR name op = 2 by simp [kindR, h1, h2]]
    exact does_of_exec (n := 60) [(7, .val (.bool false)), (8, .val (.bool true))] [AV.bool (name == sUni) = .bool true, AV.bool (name == sNet) = .bool false] (by kernel_rfl) (by simp [h1, h2])
  | false =>
  cases h3 : name == sSnap with
  | true =>
    cases h4 : op == sUpdate with
    | true =>
      rw [show kindR name op = 2 by simp [kindR, h1, h2, h3, h4]]
      exact does_of_exec (n := 60) [(7, .val (.bool false)), (8, .val (.bool false)), (10, .val (.bool true)), (12, .val (.bool true))] [AV.bool (op == sUpdate) = .bool true, AV.bool (name == sSnap) = .bool true, AV.bool (name == sUni) = .bool false, AV.bool (name == sNet) = .bool false] (by kernel_rfl) (by simp [h1, h2, h3, h4])
    | false =>
      rw [show kindR name op = 1 by simp [kindR, h1, h2, h3, h4]]
      exact does_of_exec (n := 60) [(7, .val (.bool false)), (8, .val (.bool false)), (10, .val (.bool true)), (12, .val (.bool false))] [AV.bool (op == sUpdate) = .bool false, AV.bool (name == sSnap) = .bool true, AV.bool (name == sUni) = .bool false, AV.bool (name == sNet) = .bool false] (by kernel_rfl) (by simp [h1, h2, h3, h4])
  | false =>
  cases h5 : name == sTally with
  | true =>
    cases h4 : op == sGet with
    | true =>
      rw [show kindR name op = 2 by simp [kindR, h1, h2, h3, h5, h4]]
      exact does_of_exec (n := 60) [(7, .val (.bool false)), (8, .val (.bool false)), (10, .val (.bool false)), (14, .val (.bool true)), (16, .val (.bool true))] [AV.bool (op == sGet) = .bool true, AV.bool (name == sTally) = .bool true, AV.bool (name == sSnap) = .bool false, AV.bool (name == sUni) = .bool false, AV.bool (name == sNet) = .bool false] (by kernel_rfl) (by simp [h1, h2, h3, h5, h4])
    | false =>
      rw [show kindR name op = 1 by simp [kindR, h1, h2, h3, h5, h4]]
      exact does_of_exec (n := 60) [(7, .val (.bool false)), (8, .val (.bool false)), (10, .val (.bool false)), (14, .val (.bool true)), (16, .val (.bool false))] [AV.bool (op == sGet) = .bool false, AV.bool (name == sTally) = .bool true, AV.bool (name == sSnap) = .bool false, AV.bool (name == sUni) = .bool false, AV.bool (name == sNet) = .bool false] (by kernel_rfl) (by simp [h1, h2, h3, h5, h4])
  | false =>
  cases h6 : name == sDeque with
  | true =>
    cases h4 : op == sSteal with
    | true =>
      rw [show kindR name op = 1 by simp [kindR, h1, h2, h3, h5, h6, h4]]
      exact does_of_exec (n := 60) [(7, .val (.bool false)), (8, .val (.bool false)), (10, .val (.bool false)), (14, .val (.bool false)), (18, .val (.bool true)), (20, .val (.bool false))] [AV.bool (!(op == sSteal)) = .bool false, AV.bool (name == sDeque) = .bool true, AV.bool (name == sTally) = .bool false, AV.bool (name == sSnap) = .bool false, AV.bool (name == sUni) = .bool false, AV.bool (name == sNet) = .bool false] (by kernel_rfl) (by simp [h1, h2, h3, h5, h6, h4])
    | false =>
      rw [show kindR name op = 2 by simp [kindR, h1, h2, h3, h5, h6, h4]]
      exact does_of_exec (n := 60) [(7, .val (.bool false)), (8, .val (.bool false)), (10, .val (.bool false)), (14, .val (.bool false)), (18, .val (.bool true)), (20, .val (.bool true))] [AV.bool (!(op == sSteal)) = .bool true, AV.bool (name == sDeque) = .bool true, AV.bool (name == sTally) = .bool false, AV.bool (name == sSnap) = .bool false, AV.bool (name == sUni) = .bool false, AV.bool (name == sNet) = .bool false] (by kernel_rfl) (by simp [h1, h2, h3, h5, h6, h4])
  | false =>
    rw [show kindR name op = 1 by simp [kindR, h1, h2, h3, h5, h6]]
    exact does_of_exec (n := 60) [(7, .val (.bool false)), (8, .val (.bool false)), (10, .val (.bool false)), (14, .val (.bool false)), (18, .val (.bool false))] [AV.bool (name == sDeque) = .bool false, AV.bool (name == sTally) = .bool false, AV.bool (name == sSnap) = .bool false, AV.bool (name == sUni) = .bool false, AV.bool (name == sNet) = .bool false] (by kernel_rfl) (by simp [h1, h2, h3, h5, h6])

theorem kindR_two (name op : List UInt8) : kindR name op = 2 ∨ kindR name op = 1 := by
  unfold kindR
  repeat' split
  all_goals simp

theorem kinds_same (name op : List UInt8) : (if freeG name op = true then (2 : Int) else 1) = kindR name op := by
  by_cases a1 : name = sNet
  · subst a1; simp [freeG, kindR]
  by_cases a2 : name = sUni
  · subst a2; simp [freeG, kindR]
  by_cases a3 : name = sDeque
  · subst a3
    by_cases b : op = sSteal
    · subst b; decide
    · have e1 : (sDeque == sNet) = false := by decide
      have e2 : (sDeque == sUni) = false := by decide
      have e3 : (sDeque == sSnap) = false := by decide
      have e4 : (sDeque == sTally) = false := by decide
      simp [freeG, kindR, e1, e2, e3, e4, b]
  by_cases a4 : name = sSnap
  · subst a4
    have e1 : (sSnap == sNet) = false := by decide
    have e2 : (sSnap == sUni) = false := by decide
    have e3 : (sSnap == sDeque) = false := by decide
    have e4 : (sSnap == sTally) = false := by decide
    by_cases b : op = sUpdate
    · subst b; simp [freeG, kindR, e1, e2, e3]
    · simp [freeG, kindR, e1, e2, e3, e4, b]
  by_cases a5 : name = sTally
  · subst a5
    have e1 : (sTally == sNet) = false := by decide
    have e2 : (sTally == sUni) = false := by decide
    have e3 : (sTally == sDeque) = false := by decide
    have e4 : (sTally == sSnap) = false := by decide
    by_cases b : op = sGet
    · subst b; simp [freeG, kindR, e1, e2, e3, e4]
    · simp [freeG, kindR, e1, e2, e3, e4, b]
  · simp [freeG, kindR, a1, a2, a3, a4, a5]

def boundR (name op : List UInt8) (x y : Int) : Int := if kindR name op = 2 then steps2 x else steps1 x y

theorem rbound_does (h : Heap) (name op : List UInt8) (x y : Int) : Does K 11 [.str name, .str op, .int .i64 x, .int .i64 y] h (.int .i64 (boundR name op x y)) h := by
  have hd := rkind_does h name op
  rcases kindR_two name op with hk | hk
  · rw [hk] at hd
    rw [show boundR name op x y = steps2 x by simp [boundR, hk]]
    refine does_of_exec (n := 60) [(11, .call (.int .i64 2) h)] [Does K 10 [.str name, .str op] h (.int .i64 2) h] (by kernel_rfl) ?_
    simp only [List.mem_cons, List.not_mem_nil, or_false, forall_eq]
    exact hd
  · rw [hk] at hd
    rw [show boundR name op x y = steps1 x y by simp [boundR, hk]]
    refine does_of_exec (n := 60) [(11, .call (.int .i64 1) h)] [Does K 10 [.str name, .str op] h (.int .i64 1) h] (by kernel_rfl) ?_
    simp only [List.mem_cons, List.not_mem_nil, or_false, forall_eq]
    exact hd

def sNext : List UInt8 := [110, 101, 120, 116]
theorem bound_net : boundG sNet sNext 1 0 = (66, 0) := by kernel_rfl
theorem kind_net : kindG sNet sNext = (2, 0) := by kernel_rfl

theorem awake_does (h : Heap) : ∃ H, Ext h H ∧ Does K 5 [] h (.bool true) H := by
  obtain ⟨H7, x7, d7⟩ := bound_does h sNet sNext 1 0
  obtain ⟨H6, x6, d6⟩ := kind_does H7 sNet sNext
  rw [bound_net] at d7
  rw [kind_net] at d6
  refine ⟨H6, x7.trans x6, ?_⟩
  refine does_of_exec (n := 60) [(6, .call (.tuple [.int .i64 66, .int .i64 0]) H7), (10, .call (.tuple [.int .i64 2, .int .i64 0]) H6)] [Does K 6 [.str sNet, .str sNext] H7 (.tuple [.int .i64 2, .int .i64 0]) H6, Does K 7 [.str sNet, .str sNext, .int .i64 1, .int .i64 0] h (.tuple [.int .i64 66, .int .i64 0]) H7] (by kernel_rfl) ?_
  simp only [List.mem_cons, List.not_mem_nil, or_false, forall_eq_or_imp, forall_eq]
  exact ⟨d6, d7⟩

/-! ### The two tables say the same -/
theorem names_same : ∀ i, i < 21 → (rrow i).nm = (row i).nm := by decide
theorem calls_same : ∀ i, i < 21 → (rcalls i).map (fun p => (p.1, p.2.1)) = (row i).calls := by decide
theorem takes_pos : ∀ i, i < 21 → ∀ j, j < (row i).calls.length → 0 ≤ (callAt i j).2 := by decide

theorem firstFrom_congr {p q : Nat → Bool} : ∀ (k i : Nat), (∀ j, i ≤ j → j < i + k → p j = q j) → firstFrom p k i = firstFrom q k i
  | 0, i, h => rfl
  | k + 1, i, h => by
    simp only [firstFrom]
    rw [h i (Nat.le_refl i) (by omega), firstFrom_congr k (i + 1) fun j h1 h2 => h j (by omega) (by omega)]

theorem idx_same (name : List UInt8) : idxR name = idxN name := firstFrom_congr 21 0 fun j _ h => by rw [names_same j (by omega)]

theorem rcall_same {i j : Nat} (hi : i < 21) (hj : j < (rcalls i).length) : callAt i j = ((rcallAt i j).1, (rcallAt i j).2.1) := by
  unfold callAt rcallAt
  rw [← calls_same i hi]
  simp [List.getD_eq_getElem?_getD, hj]

theorem len_same {i : Nat} (hi : i < 21) : (rcalls i).length = (row i).calls.length := by rw [← calls_same i hi]; simp

theorem j_same {i : Nat} (hi : i < 21) (op : List UInt8) : rjOf i op = jOf i op := by
  unfold rjOf jOf
  rw [← len_same hi]
  exact firstFrom_congr _ 0 fun j _ h => by rw [rcall_same hi (by omega)]

theorem st7 {H : Heap} {E : List AV} (hE : E.length = 7) : ST (H ++ [.arr zero7 7 false]) H.length 0 E (H ++ [.arr E 7 false]) := by
  have := ST.of (h := H ++ [.arr zero7 7 false]) (b := H.length) (es := 7) (c := zero7) (cs := E) (by simp) (by rw [hE]; rfl)
  simpa using this
end Go.Proofs.Ythedodaghjpdoaa.Kinds
