/- Parse, reckoned at some of the sources, part 2. -/
import Derived.Test.YtifkphfhadimaaaGreatDoorLwP
set_option linter.unusedVariables false
set_option maxRecDepth 100000
namespace Go.Proofs.YtifkphfhadimaaaGreatDoor.Mini
open Go.Abs
noncomputable def kPar4 : ObjMemo KP := ObjMemo.parse pg4 (src75 4) (by kernel_rfl)
noncomputable def kPar5 : ObjMemo KP := ObjMemo.parse pg5 (src75 5) (by kernel_rfl)
noncomputable def kPar6 : ObjMemo KP := ObjMemo.parse pg6 (src75 6) (by kernel_rfl)
end Go.Proofs.YtifkphfhadimaaaGreatDoor.Mini

