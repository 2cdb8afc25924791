/- The sources parted into lines, part 4. -/
import Derived.Test.YtifkphfhadimaaaGreatDoorKm
set_option linter.unusedVariables false
set_option maxRecDepth 100000
namespace Go.Proofs.YtifkphfhadimaaaGreatDoor.Mini
open Go.Abs
noncomputable def kSpl16 : KeyMemo K1q := .of eok1q 80 [.str [10]] splitV [src75 16] (by kernel_rfl) (by kernel_rfl)
end Go.Proofs.YtifkphfhadimaaaGreatDoor.Mini

