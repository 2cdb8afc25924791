/- Parse, reckoned at some of the sources, part 4. -/
import Derived.Test.YtifkphfhadimaaaGreatDoorLwP
set_option linter.unusedVariables false
set_option maxRecDepth 100000
namespace Go.Proofs.YtifkphfhadimaaaGreatDoor.Mini
open Go.Abs
noncomputable def kPar9 : ObjMemo KP := ObjMemo.parse pg9 (src75 9) (by kernel_rfl)
noncomputable def kPar10 : ObjMemo KP := ObjMemo.parse pg10 (src75 10) (by kernel_rfl)
end Go.Proofs.YtifkphfhadimaaaGreatDoor.Mini

