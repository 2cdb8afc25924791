/- The law of function 8, reckoned at some of the 21 numbers, part 1. -/
import Derived.Test.YtifkphfhadimaaaGreatDoorLwQ
set_option linter.unusedVariables false
set_option maxRecDepth 100000
namespace Go.Proofs.YtifkphfhadimaaaGreatDoor.Mini
open Go.Abs
theorem pr0 : ([0, 1, 2, 3] : List Nat).all (fun k => givesT (evE ER 100000 8 [.int .i64 (k : Int)] 0 0 .leaf) (.flat (.bool true))) = true := by kernel_rfl
end Go.Proofs.YtifkphfhadimaaaGreatDoor.Mini
set_option linter.unusedVariables false
set_option maxRecDepth 100000
namespace Go.Proofs.YtifkphfhadimaaaGreatDoor.Mini
open Go.Abs
theorem pr1 : ([4, 5, 6] : List Nat).all (fun k => givesT (evE ER 100000 8 [.int .i64 (k : Int)] 0 0 .leaf) (.flat (.bool true))) = true := by kernel_rfl
end Go.Proofs.YtifkphfhadimaaaGreatDoor.Mini
set_option linter.unusedVariables false
set_option maxRecDepth 100000
namespace Go.Proofs.YtifkphfhadimaaaGreatDoor.Mini
open Go.Abs
theorem pr2 : ([7, 8] : List Nat).all (fun k => givesT (evE ER 100000 8 [.int .i64 (k : Int)] 0 0 .leaf) (.flat (.bool true))) = true := by kernel_rfl
end Go.Proofs.YtifkphfhadimaaaGreatDoor.Mini
set_option linter.unusedVariables false
set_option maxRecDepth 100000
namespace Go.Proofs.YtifkphfhadimaaaGreatDoor.Mini
open Go.Abs
theorem pr3 : ([9, 10] : List Nat).all (fun k => givesT (evE ER 100000 8 [.int .i64 (k : Int)] 0 0 .leaf) (.flat (.bool true))) = true := by kernel_rfl
end Go.Proofs.YtifkphfhadimaaaGreatDoor.Mini
set_option linter.unusedVariables false
set_option maxRecDepth 100000
namespace Go.Proofs.YtifkphfhadimaaaGreatDoor.Mini
open Go.Abs
theorem pr4 : ([11, 12, 13, 14] : List Nat).all (fun k => givesT (evE ER 100000 8 [.int .i64 (k : Int)] 0 0 .leaf) (.flat (.bool true))) = true := by kernel_rfl
end Go.Proofs.YtifkphfhadimaaaGreatDoor.Mini
set_option linter.unusedVariables false
set_option maxRecDepth 100000
namespace Go.Proofs.YtifkphfhadimaaaGreatDoor.Mini
open Go.Abs
theorem pr5 : ([15, 17, 19, 20] : List Nat).all (fun k => givesT (evE ER 100000 8 [.int .i64 (k : Int)] 0 0 .leaf) (.flat (.bool true))) = true := by kernel_rfl
end Go.Proofs.YtifkphfhadimaaaGreatDoor.Mini
set_option linter.unusedVariables false
set_option maxRecDepth 100000
namespace Go.Proofs.YtifkphfhadimaaaGreatDoor.Mini
open Go.Abs
theorem pr6 : ([16] : List Nat).all (fun k => givesT (evE ER 100000 8 [.int .i64 (k : Int)] 0 0 .leaf) (.flat (.bool true))) = true := by kernel_rfl
end Go.Proofs.YtifkphfhadimaaaGreatDoor.Mini
set_option linter.unusedVariables false
set_option maxRecDepth 100000
namespace Go.Proofs.YtifkphfhadimaaaGreatDoor.Mini
open Go.Abs
theorem pr7 : ([18] : List Nat).all (fun k => givesT (evE ER 100000 8 [.int .i64 (k : Int)] 0 0 .leaf) (.flat (.bool true))) = true := by kernel_rfl
end Go.Proofs.YtifkphfhadimaaaGreatDoor.Mini
