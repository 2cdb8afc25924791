/- The law of function 3 holds at every number. -/
import Derived.Test.YtifkphfhadimaaaGreatDoorGd0
import Derived.Test.YtifkphfhadimaaaGreatDoorGd1
import Derived.Test.YtifkphfhadimaaaGreatDoorGd2
import Derived.Test.YtifkphfhadimaaaGreatDoorGd3
import Derived.Test.YtifkphfhadimaaaGreatDoorGd4
import Derived.Test.YtifkphfhadimaaaGreatDoorGd5
import Derived.Test.YtifkphfhadimaaaGreatDoorGd6
import Derived.Test.YtifkphfhadimaaaGreatDoorGd7
set_option linter.unusedVariables false
set_option maxRecDepth 100000
namespace Go.Proofs.YtifkphfhadimaaaGreatDoor.Mini
open Go.Abs
theorem gdAll (k : Nat) (hk : k < 21) : givesT (evE EN 100000 3 [.int .i64 (k : Int)] 0 0 .leaf) (.flat (.bool true)) = true := by
  have hm : k ∈ ([0, 1, 2, 3] : List Nat) ∨ k ∈ ([4, 5, 6] : List Nat) ∨ k ∈ ([7, 8] : List Nat) ∨ k ∈ ([9, 10] : List Nat) ∨ k ∈ ([11, 12, 13, 14] : List Nat) ∨ k ∈ ([15, 17, 19, 20] : List Nat) ∨ k ∈ ([16] : List Nat) ∨ k ∈ ([18] : List Nat) := by
    simp only [List.mem_cons, List.not_mem_nil, or_false]
    omega
  rcases hm with h | h | h | h | h | h | h | h
  · exact List.all_eq_true.1 gd0 k h
  · exact List.all_eq_true.1 gd1 k h
  · exact List.all_eq_true.1 gd2 k h
  · exact List.all_eq_true.1 gd3 k h
  · exact List.all_eq_true.1 gd4 k h
  · exact List.all_eq_true.1 gd5 k h
  · exact List.all_eq_true.1 gd6 k h
  · exact List.all_eq_true.1 gd7 k h
theorem libGuards_ok {w : Int} {h : Heap} {P : AV → Heap → Prop} (hP : ∀ t, P (.bool true) t) : CallE KN 3 [.int .i64 w] h P := law_ok (F := F3) (by kernel_rfl) (fun i => by kernel_rfl) [0, 14] (by decide) (by kernel_rfl) (by kernel_rfl) gdAll hP
end Go.Proofs.YtifkphfhadimaaaGreatDoor.Mini

