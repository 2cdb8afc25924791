/- The law of function 8 holds at every number. -/
import Derived.Test.YtifkphfhadimaaaGreatDoorPr0
set_option linter.unusedVariables false
set_option maxRecDepth 100000
namespace Go.Proofs.YtifkphfhadimaaaGreatDoor.Mini
open Go.Abs
theorem prAll (k : Nat) (hk : k < 21) : givesT (evE ER 100000 8 [.int .i64 (k : Int)] 0 0 .leaf) (.flat (.bool true)) = true := by
  have hm : k ∈ ([0, 1, 2, 3] : List Nat) ∨ k ∈ ([4, 5, 6] : List Nat) ∨ k ∈ ([7, 8] : List Nat) ∨ k ∈ ([9, 10] : List Nat) ∨ k ∈ ([11, 12, 13, 14] : List Nat) ∨ k ∈ ([15, 17, 19, 20] : List Nat) ∨ k ∈ ([16] : List Nat) ∨ k ∈ ([18] : List Nat) := by
    simp only [List.mem_cons, List.not_mem_nil, or_false]
    omega
  rcases hm with h | h | h | h | h | h | h | h
  · exact List.all_eq_true.1 pr0 k h
  · exact List.all_eq_true.1 pr1 k h
  · exact List.all_eq_true.1 pr2 k h
  · exact List.all_eq_true.1 pr3 k h
  · exact List.all_eq_true.1 pr4 k h
  · exact List.all_eq_true.1 pr5 k h
  · exact List.all_eq_true.1 pr6 k h
  · exact List.all_eq_true.1 pr7 k h
theorem libPrograms_ok {w : Int} {h : Heap} {P : AV → Heap → Prop} (hP : ∀ t, P (.bool true) t) : CallE KR 8 [.int .i64 w] h P := lawR_ok (F := F8) (by kernel_rfl) (fun i => by kernel_rfl) [0, 13] (by decide) (by kernel_rfl) (by kernel_rfl) prAll hP
end Go.Proofs.YtifkphfhadimaaaGreatDoor.Mini

