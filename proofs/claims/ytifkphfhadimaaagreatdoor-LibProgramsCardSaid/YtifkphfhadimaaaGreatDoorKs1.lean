/- The sources parted into lines, part 2. -/
import Derived.Test.YtifkphfhadimaaaGreatDoorKm
set_option linter.unusedVariables false
set_option maxRecDepth 100000
namespace Go.Proofs.YtifkphfhadimaaaGreatDoor.Mini
open Go.Abs
noncomputable def kSpl6 : KeyMemo K1q := .of eok1q 80 [.str [10]] splitV [src75 6] (by kernel_rfl) (by kernel_rfl)
noncomputable def kSpl7 : KeyMemo K1q := .of eok1q 80 [.str [10]] splitV [src75 7] (by kernel_rfl) (by kernel_rfl)
noncomputable def kSpl8 : KeyMemo K1q := .of eok1q 80 [.str [10]] splitV [src75 8] (by kernel_rfl) (by kernel_rfl)
noncomputable def kSpl9 : KeyMemo K1q := .of eok1q 80 [.str [10]] splitV [src75 9] (by kernel_rfl) (by kernel_rfl)
end Go.Proofs.YtifkphfhadimaaaGreatDoor.Mini

