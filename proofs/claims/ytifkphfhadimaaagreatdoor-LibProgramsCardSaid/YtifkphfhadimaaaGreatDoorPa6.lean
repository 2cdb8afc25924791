/- Parse, reckoned at some of the sources, part 7. -/
import Derived.Test.YtifkphfhadimaaaGreatDoorLwP
set_option linter.unusedVariables false
set_option maxRecDepth 100000
namespace Go.Proofs.YtifkphfhadimaaaGreatDoor.Mini
open Go.Abs
noncomputable def kPar16 : ObjMemo KP := ObjMemo.parse pg16 (src75 16) (by kernel_rfl)
end Go.Proofs.YtifkphfhadimaaaGreatDoor.Mini

