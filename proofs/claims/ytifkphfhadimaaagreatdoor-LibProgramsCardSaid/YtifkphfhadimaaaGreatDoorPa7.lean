/- Parse, reckoned at some of the sources, part 8. -/
import Derived.Test.YtifkphfhadimaaaGreatDoorLwP
set_option linter.unusedVariables false
set_option maxRecDepth 100000
namespace Go.Proofs.YtifkphfhadimaaaGreatDoor.Mini
open Go.Abs
noncomputable def kPar18 : ObjMemo KP := ObjMemo.parse pg18 (src75 18) (by kernel_rfl)
end Go.Proofs.YtifkphfhadimaaaGreatDoor.Mini

