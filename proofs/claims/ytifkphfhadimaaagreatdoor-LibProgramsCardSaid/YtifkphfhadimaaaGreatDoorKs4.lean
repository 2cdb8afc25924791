/- The sources parted into lines, part 5. -/
import Derived.Test.YtifkphfhadimaaaGreatDoorKm
set_option linter.unusedVariables false
set_option maxRecDepth 100000
namespace Go.Proofs.YtifkphfhadimaaaGreatDoor.Mini
open Go.Abs
noncomputable def kSpl17 : KeyMemo K1q := .of eok1q 80 [.str [10]] splitV [src75 17] (by kernel_rfl) (by kernel_rfl)
noncomputable def kSpl18 : KeyMemo K1q := .of eok1q 80 [.str [10]] splitV [src75 18] (by kernel_rfl) (by kernel_rfl)
noncomputable def kSpl19 : KeyMemo K1q := .of eok1q 80 [.str [10]] splitV [src75 19] (by kernel_rfl) (by kernel_rfl)
noncomputable def kSpl20 : KeyMemo K1q := .of eok1q 80 [.str [10]] splitV [src75 20] (by kernel_rfl) (by kernel_rfl)
end Go.Proofs.YtifkphfhadimaaaGreatDoor.Mini

