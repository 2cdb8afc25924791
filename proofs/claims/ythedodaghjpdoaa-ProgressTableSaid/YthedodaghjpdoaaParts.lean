/- progress.free, Kind, Bound; the reference's Kind and Bound, on the abstract machine. -/
import Derived.Test.YthedodaghjpdoaaRFind
set_option linter.unusedVariables false
set_option linter.unusedSimpArgs false
set_option maxRecDepth 100000
namespace Go.Proofs.Ythedodaghjpdoaa.Kinds
open Go.Abs Mini

def sNet : List UInt8 := [110, 101, 116]
def sUni : List UInt8 := [117, 110, 105]
def sDeque : List UInt8 := [100, 101, 113, 117, 101]
def sSteal : List UInt8 := [115, 116, 101, 97, 108]
def sSnap : List UInt8 := [115, 110, 97, 112]
def sUpdate : List UInt8 := [117, 112, 100, 97, 116, 101]
def sTally : List UInt8 := [116, 97, 108, 108, 121]
def sGet : List UInt8 := [103, 101, 116]

def freeG (name op : List UInt8) : Bool :=
  if (name == sNet) = true then true else if (name == sUni) = true then true else if (name == sDeque) = true then !(op == sSteal)
  else if (name == sSnap) = true ∧ (op == sUpdate) = true then true else if (name == sTally) = true then (op == sGet) else false

theorem free_does (h : Heap) (name op : List UInt8) : Does K 15 [.str name, .str op] h (.bool (freeG name op)) h := by
  cases h1 : name == sNet with
  | true =>
    have e : freeG name op = true := by simp [freeG, h1]
    rw [e]
    exact does_of_exec (n := 60) [(7, .val (.bool true))] [AV.bool (name == sNet) = .bool true] (by kernel_rfl) (by simp [h1])
  | false =>
  cases h2 : name == sUni with
  | true =>
    have e : freeG name op = true := by simp [freeG, h1, h2]
    rw [e]
    exact does_of_exec (n := 60) [(7, .val (.bool false)), (8, .val (.bool true))] [AV.bool (name == sUni) = .bool true, AV.bool (name == sNet) = .bool false] (by kernel_rfl) (by simp [h1, h2])
  | false =>
  cases h3 : name == sDeque with
  | true =>
    have e : freeG name op = !(op == sSteal) := by simp [freeG, h1, h2, h3]
    rw [e]
    exact does_of_exec (n := 60) [(7, .val (.bool false)), (8, .val (.bool false)), (10, .val (.bool true))] [AV.bool (name == sDeque) = .bool true, AV.bool (name == sUni) = .bool false, AV.bool (name == sNet) = .bool false] (by kernel_rfl) (by simp [h1, h2, h3])
  | false =>
  cases h4 : name == sSnap with
  | true =>
    cases h5 : op == sUpdate with
    | true =>
      have e : freeG name op = true := by simp [freeG, h1, h2, h3, h4, h5]
      rw [e]
      exact does_of_exec (n := 60) [(7, .val (.bool false)), (8, .val (.bool false)), (10, .val (.bool false)), (14, .val (.bool true)), (17, .val (.bool true))] [AV.bool (op == sUpdate) = .bool true, AV.bool (name == sSnap) = .bool true, AV.bool (name == sDeque) = .bool false, AV.bool (name == sUni) = .bool false, AV.bool (name == sNet) = .bool false] (by kernel_rfl) (by simp [h1, h2, h3, h4, h5])
    | false =>
      cases h6 : name == sTally with
      | true =>
        have e : freeG name op = (op == sGet) := by simp [freeG, h1, h2, h3, h4, h5, h6]
        rw [e]
        exact does_of_exec (n := 60) [(7, .val (.bool false)), (8, .val (.bool false)), (10, .val (.bool false)), (14, .val (.bool true)), (17, .val (.bool false)), (21, .val (.bool true))] [AV.bool (name == sTally) = .bool true, AV.bool (op == sUpdate) = .bool false, AV.bool (name == sSnap) = .bool true, AV.bool (name == sDeque) = .bool false, AV.bool (name == sUni) = .bool false, AV.bool (name == sNet) = .bool false] (by kernel_rfl) (by simp [h1, h2, h3, h4, h5, h6])
      | false =>
        have e : freeG name op = false := by simp [freeG, h1, h2, h3, h4, h5, h6]
        rw [e]
        exact does_of_exec (n := 60) [(7, .val (.bool false)), (8, .val (.bool false)), (10, .val (.bool false)), (14, .val (.bool true)), (17, .val (.bool false)), (21, .val (.bool false))] [AV.bool (name == sTally) = .bool false, AV.bool (op == sUpdate) = .bool false, AV.bool (name == sSnap) = .bool true, AV.bool (name == sDeque) = .bool false, AV.bool (name == sUni) = .bool false, AV.bool (name == sNet) = .bool false] (by kernel_rfl) (by simp [h1, h2, h3, h4, h5, h6])
  | false =>
      cases h6 : name == sTally with
      | true =>
        have e : freeG name op = (op == sGet) := by simp [freeG, h1, h2, h3, h4, h6]
        rw [e]
        exact does_of_exec (n := 60) [(7, .val (.bool false)), (8, .val (.bool false)), (10, .val (.bool false)), (14, .val (.bool false)), (21, .val (.bool true))] [AV.bool (name == sTally) = .bool true, AV.bool (name == sSnap) = .bool false, AV.bool (name == sDeque) = .bool false, AV.bool (name == sUni) = .bool false, AV.bool (name == sNet) = .bool false] (by kernel_rfl) (by simp [h1, h2, h3, h4, h6])
      | false =>
        have e : freeG name op = false := by simp [freeG, h1, h2, h3, h4, h6]
        rw [e]
        exact does_of_exec (n := 60) [(7, .val (.bool false)), (8, .val (.bool false)), (10, .val (.bool false)), (14, .val (.bool false)), (21, .val (.bool false))] [AV.bool (name == sTally) = .bool false, AV.bool (name == sSnap) = .bool false, AV.bool (name == sDeque) = .bool false, AV.bool (name == sUni) = .bool false, AV.bool (name == sNet) = .bool false] (by kernel_rfl) (by simp [h1, h2, h3, h4, h6])

def kindG (name op : List UInt8) : Int × Int := if (takesG name op).2 ≠ 0 then (0, (takesG name op).2) else if freeG name op = true then (2, 0) else (1, 0)

theorem kind_does (h : Heap) (name op : List UInt8) : ∃ H, Ext h H ∧ Does K 6 [.str name, .str op] h (.tuple [.int .i64 (kindG name op).1, .int .i64 (kindG name op).2]) H := by
  obtain ⟨H, hx, hd⟩ := takes_does h name op
  have hf := free_does H name op
  refine ⟨H, hx, ?_⟩
  by_cases h0 : (takesG name op).2 = 0
  · rw [h0] at hd
    cases h1 : freeG name op with
    | true =>
      rw [h1] at hf
      have e : kindG name op = (2, 0) := by simp [kindG, h0, h1]
      rw [e]
      refine does_of_exec (n := 60) [(11, .call (.tuple [.int .i64 (takesG name op).1, .int .i64 0]) H), (19, .call (.bool true) H)] [Does K 15 [.str name, .str op] H (.bool true) H, Does K 14 [.str name, .str op] h (.tuple [.int .i64 (takesG name op).1, .int .i64 0]) H] (by kernel_rfl) ?_
      simp only [List.mem_cons, List.not_mem_nil, or_false, forall_eq_or_imp, forall_eq]
      exact ⟨hf, hd⟩
    | false =>
      rw [h1] at hf
      have e : kindG name op = (1, 0) := by simp [kindG, h0, h1]
      rw [e]
      refine does_of_exec (n := 60) [(11, .call (.tuple [.int .i64 (takesG name op).1, .int .i64 0]) H), (19, .call (.bool false) H)] [Does K 15 [.str name, .str op] H (.bool false) H, Does K 14 [.str name, .str op] h (.tuple [.int .i64 (takesG name op).1, .int .i64 0]) H] (by kernel_rfl) ?_
      simp only [List.mem_cons, List.not_mem_nil, or_false, forall_eq_or_imp, forall_eq]
      exact ⟨hf, hd⟩
  · have e : kindG name op = (0, (takesG name op).2) := by simp [kindG, h0]
    rw [e]
    refine does_of_exec (n := 60) [(11, .call (.tuple [.int .i64 (takesG name op).1, .int .i64 (takesG name op).2]) H), (15, .val (.bool true))] [AV.bool ((takesG name op).2 != 0) = .bool true, Does K 14 [.str name, .str op] h (.tuple [.int .i64 (takesG name op).1, .int .i64 (takesG name op).2]) H] (by kernel_rfl) ?_
    simp only [List.mem_cons, List.not_mem_nil, or_false, forall_eq_or_imp, forall_eq]
    exact ⟨by simpa using h0, hd⟩

def steps2 (x : Int) : Int := IntKind.i64.wrap (60 + IntKind.i64.wrap (6 * x))
def steps1 (x y : Int) : Int := IntKind.i64.wrap (IntKind.i64.wrap (80 + IntKind.i64.wrap (12 * x)) * IntKind.i64.wrap (2 + y))
def outR (x y : Int) : Prop := x < 0 ∨ x > 1000000 ∨ y < 0 ∨ y > 1000000
instance (x y : Int) : Decidable (outR x y) := inferInstanceAs (Decidable (x < 0 ∨ x > 1000000 ∨ y < 0 ∨ y > 1000000))
def boundG (name op : List UInt8) (x y : Int) : Int × Int :=
  if (kindG name op).2 ≠ 0 then (0, (kindG name op).2) else if outR x y then (0, 1) else if (kindG name op).1 = 2 then (steps2 x, 0) else (steps1 x y, 0)

theorem kindG_cases (name op : List UInt8) : (kindG name op).2 ≠ 0 ∨ kindG name op = (2, 0) ∨ kindG name op = (1, 0) := by
  unfold kindG
  split
  · exact .inl ‹_›
  · split
    · exact .inr (.inl rfl)
    · exact .inr (.inr rfl)

theorem bound_does (h : Heap) (name op : List UInt8) (x y : Int) : ∃ H, Ext h H ∧ Does K 7 [.str name, .str op, .int .i64 x, .int .i64 y] h (.tuple [.int .i64 (boundG name op x y).1, .int .i64 (boundG name op x y).2]) H := by
  obtain ⟨H, hx, hd⟩ := kind_does h name op
  refine ⟨H, hx, ?_⟩
  by_cases h0 : (kindG name op).2 = 0
  · have hk : ∃ k, (kindG name op).1 = k := ⟨_, rfl⟩
    obtain ⟨k, hk⟩ := hk
    rw [hk, h0] at hd
    by_cases c1 : x < 0
    · have e : boundG name op x y = (0, 1) := by simp [boundG, h0, outR, c1]
      rw [e]
      refine does_of_exec (n := 80) [(15, .call (.tuple [.int .i64 k, .int .i64 0]) H), (22, .val (.bool true))] [AV.bool (decide (x < 0)) = .bool true, Does K 6 [.str name, .str op] h (.tuple [.int .i64 k, .int .i64 0]) H] (by kernel_rfl) ?_
      simp only [List.mem_cons, List.not_mem_nil, or_false, forall_eq_or_imp, forall_eq]
      exact ⟨by simp [c1], hd⟩
    by_cases c2 : x > 1000000
    · have e : boundG name op x y = (0, 1) := by simp [boundG, h0, outR, c2]
      rw [e]
      refine does_of_exec (n := 80) [(15, .call (.tuple [.int .i64 k, .int .i64 0]) H), (22, .val (.bool false)), (25, .val (.bool true))] [AV.bool (decide (x > 1000000)) = .bool true, AV.bool (decide (x < 0)) = .bool false, Does K 6 [.str name, .str op] h (.tuple [.int .i64 k, .int .i64 0]) H] (by kernel_rfl) ?_
      simp only [List.mem_cons, List.not_mem_nil, or_false, forall_eq_or_imp, forall_eq]
      exact ⟨by simpa using c2, by simpa using c1, hd⟩
    by_cases c3 : y < 0
    · have e : boundG name op x y = (0, 1) := by simp [boundG, h0, outR, c3]
      rw [e]
      refine does_of_exec (n := 80) [(15, .call (.tuple [.int .i64 k, .int .i64 0]) H), (22, .val (.bool false)), (25, .val (.bool false)), (29, .val (.bool true))] [AV.bool (decide (y < 0)) = .bool true, AV.bool (decide (x > 1000000)) = .bool false, AV.bool (decide (x < 0)) = .bool false, Does K 6 [.str name, .str op] h (.tuple [.int .i64 k, .int .i64 0]) H] (by kernel_rfl) ?_
      simp only [List.mem_cons, List.not_mem_nil, or_false, forall_eq_or_imp, forall_eq]
      exact ⟨by simpa using c3, by simpa using c2, by simpa using c1, hd⟩
    by_cases c4 : y > 1000000
    · have e : boundG name op x y = (0, 1) := by simp [boundG, h0, outR, c4]
      rw [e]
      refine does_of_exec (n := 80) [(15, .call (.tuple [.int .i64 k, .int .i64 0]) H), (22, .val (.bool false)), (25, .val (.bool false)), (29, .val (.bool false)), (33, .val (.bool true))] [AV.bool (decide (y > 1000000)) = .bool true, AV.bool (decide (y < 0)) = .bool false, AV.bool (decide (x > 1000000)) = .bool false, AV.bool (decide (x < 0)) = .bool false, Does K 6 [.str name, .str op] h (.tuple [.int .i64 k, .int .i64 0]) H] (by kernel_rfl) ?_
      simp only [List.mem_cons, List.not_mem_nil, or_false, forall_eq_or_imp, forall_eq]
      exact ⟨by simpa using c4, by simpa using c3, by simpa using c2, by simpa using c1, hd⟩
    have hout : ¬ outR x y := by
      unfold outR
      omega
    rcases kindG_cases name op with hh | hh | hh
    · exact absurd h0 hh
    · have e : boundG name op x y = (steps2 x, 0) := by simp [boundG, h0, hout, hh]
      rw [hh] at hk
      obtain rfl : k = 2 := hk.symm
      rw [e]
      refine does_of_exec (n := 80) [(15, .call (.tuple [.int .i64 2, .int .i64 0]) H), (22, .val (.bool false)), (25, .val (.bool false)), (29, .val (.bool false)), (33, .val (.bool false))] [AV.bool (decide (y > 1000000)) = .bool false, AV.bool (decide (y < 0)) = .bool false, AV.bool (decide (x > 1000000)) = .bool false, AV.bool (decide (x < 0)) = .bool false, Does K 6 [.str name, .str op] h (.tuple [.int .i64 2, .int .i64 0]) H] (by kernel_rfl) ?_
      simp only [List.mem_cons, List.not_mem_nil, or_false, forall_eq_or_imp, forall_eq]
      exact ⟨by simpa using c4, by simpa using c3, by simpa using c2, by simpa using c1, hd⟩
    · have e : boundG name op x y = (steps1 x y, 0) := by simp [boundG, h0, hout, hh]
      rw [hh] at hk
      obtain rfl : k = 1 := hk.symm
      rw [e]
      refine does_of_exec (n := 80) [(15, .call (.tuple [.int .i64 1, .int .i64 0]) H), (22, .val (.bool false)), (25, .val (.bool false)), (29, .val (.bool false)), (33, .val (.bool false))] [AV.bool (decide (y > 1000000)) = .bool false, AV.bool (decide (y < 0)) = .bool false, AV.bool (decide (x > 1000000)) = .bool false, AV.bool (decide (x < 0)) = .bool false, Does K 6 [.str name, .str op] h (.tuple [.int .i64 1, .int .i64 0]) H] (by kernel_rfl) ?_
      simp only [List.mem_cons, List.not_mem_nil, or_false, forall_eq_or_imp, forall_eq]
      exact ⟨by simpa using c4, by simpa using c3, by simpa using c2, by simpa using c1, hd⟩
  · have e : boundG name op x y = (0, (kindG name op).2) := by simp [boundG, h0]
    rw [e]
    refine does_of_exec (n := 80) [(15, .call (.tuple [.int .i64 (kindG name op).1, .int .i64 (kindG name op).2]) H), (19, .val (.bool true))] [AV.bool ((kindG name op).2 != 0) = .bool true, Does K 6 [.str name, .str op] h (.tuple [.int .i64 (kindG name op).1, .int .i64 (kindG name op).2]) H] (by kernel_rfl) ?_
    simp only [List.mem_cons, List.not_mem_nil, or_false, forall_eq_or_imp, forall_eq]
    exact ⟨by simpa using h0, hd⟩
end Go.Proofs.Ythedodaghjpdoaa.Kinds
