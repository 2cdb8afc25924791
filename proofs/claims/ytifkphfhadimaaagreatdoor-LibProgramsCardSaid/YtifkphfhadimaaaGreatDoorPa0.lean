/- Parse, reckoned at some of the sources, part 1. -/
import Derived.Test.YtifkphfhadimaaaGreatDoorLwP
set_option linter.unusedVariables false
set_option maxRecDepth 100000
namespace Go.Proofs.YtifkphfhadimaaaGreatDoor.Mini
open Go.Abs
noncomputable def kPar0 : ObjMemo KP := ObjMemo.parse pg0 (src75 0) (by kernel_rfl)
noncomputable def kPar1 : ObjMemo KP := ObjMemo.parse pg1 (src75 1) (by kernel_rfl)
noncomputable def kPar2 : ObjMemo KP := ObjMemo.parse pg2 (src75 2) (by kernel_rfl)
noncomputable def kPar3 : ObjMemo KP := ObjMemo.parse pg3 (src75 3) (by kernel_rfl)
end Go.Proofs.YtifkphfhadimaaaGreatDoor.Mini

