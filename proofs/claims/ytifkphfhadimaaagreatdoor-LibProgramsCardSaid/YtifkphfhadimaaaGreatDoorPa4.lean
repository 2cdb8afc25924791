/- Parse, reckoned at some of the sources, part 5. -/
import Derived.Test.YtifkphfhadimaaaGreatDoorLwP
set_option linter.unusedVariables false
set_option maxRecDepth 100000
namespace Go.Proofs.YtifkphfhadimaaaGreatDoor.Mini
open Go.Abs
noncomputable def kPar11 : ObjMemo KP := ObjMemo.parse pg11 (src75 11) (by kernel_rfl)
noncomputable def kPar12 : ObjMemo KP := ObjMemo.parse pg12 (src75 12) (by kernel_rfl)
noncomputable def kPar13 : ObjMemo KP := ObjMemo.parse pg13 (src75 13) (by kernel_rfl)
noncomputable def kPar14 : ObjMemo KP := ObjMemo.parse pg14 (src75 14) (by kernel_rfl)
end Go.Proofs.YtifkphfhadimaaaGreatDoor.Mini

