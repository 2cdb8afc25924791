/- Parse, reckoned at some of the sources, part 6. -/
import Derived.Test.YtifkphfhadimaaaGreatDoorLwP
set_option linter.unusedVariables false
set_option maxRecDepth 100000
namespace Go.Proofs.YtifkphfhadimaaaGreatDoor.Mini
open Go.Abs
noncomputable def kPar15 : ObjMemo KP := ObjMemo.parse pg15 (src75 15) (by kernel_rfl)
noncomputable def kPar17 : ObjMemo KP := ObjMemo.parse pg17 (src75 17) (by kernel_rfl)
noncomputable def kPar19 : ObjMemo KP := ObjMemo.parse pg19 (src75 19) (by kernel_rfl)
noncomputable def kPar20 : ObjMemo KP := ObjMemo.parse pg20 (src75 20) (by kernel_rfl)
end Go.Proofs.YtifkphfhadimaaaGreatDoor.Mini

