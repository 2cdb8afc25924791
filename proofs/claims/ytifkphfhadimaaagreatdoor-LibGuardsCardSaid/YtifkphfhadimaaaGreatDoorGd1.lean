/- The law of function 3, reckoned at some of the 21 numbers, part 2. -/
import Derived.Test.YtifkphfhadimaaaGreatDoorLwO
set_option linter.unusedVariables false
set_option maxRecDepth 100000
namespace Go.Proofs.YtifkphfhadimaaaGreatDoor.Mini
open Go.Abs
theorem gd1 : ([4, 5, 6] : List Nat).all (fun k => givesT (evE EN 100000 3 [.int .i64 (k : Int)] 0 0 .leaf) (.flat (.bool true))) = true := by kernel_rfl
end Go.Proofs.YtifkphfhadimaaaGreatDoor.Mini

