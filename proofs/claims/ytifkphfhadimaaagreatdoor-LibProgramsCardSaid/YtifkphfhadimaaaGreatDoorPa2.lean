/- Parse, reckoned at some of the sources, part 3. -/
import Derived.Test.YtifkphfhadimaaaGreatDoorLwP
set_option linter.unusedVariables false
set_option maxRecDepth 100000
namespace Go.Proofs.YtifkphfhadimaaaGreatDoor.Mini
open Go.Abs
noncomputable def kPar7 : ObjMemo KP := ObjMemo.parse pg7 (src75 7) (by kernel_rfl)
noncomputable def kPar8 : ObjMemo KP := ObjMemo.parse pg8 (src75 8) (by kernel_rfl)
end Go.Proofs.YtifkphfhadimaaaGreatDoor.Mini

