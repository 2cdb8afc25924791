/- The sources parted into lines, part 3. -/
import Derived.Test.YtifkphfhadimaaaGreatDoorKm
set_option linter.unusedVariables false
set_option maxRecDepth 100000
namespace Go.Proofs.YtifkphfhadimaaaGreatDoor.Mini
open Go.Abs
noncomputable def kSpl10 : KeyMemo K1q := .of eok1q 80 [.str [10]] splitV [src75 10] (by kernel_rfl) (by kernel_rfl)
noncomputable def kSpl11 : KeyMemo K1q := .of eok1q 80 [.str [10]] splitV [src75 11] (by kernel_rfl) (by kernel_rfl)
noncomputable def kSpl12 : KeyMemo K1q := .of eok1q 80 [.str [10]] splitV [src75 12] (by kernel_rfl) (by kernel_rfl)
noncomputable def kSpl13 : KeyMemo K1q := .of eok1q 80 [.str [10]] splitV [src75 13] (by kernel_rfl) (by kernel_rfl)
noncomputable def kSpl14 : KeyMemo K1q := .of eok1q 80 [.str [10]] splitV [src75 14] (by kernel_rfl) (by kernel_rfl)
noncomputable def kSpl15 : KeyMemo K1q := .of eok1q 80 [.str [10]] splitV [src75 15] (by kernel_rfl) (by kernel_rfl)
end Go.Proofs.YtifkphfhadimaaaGreatDoor.Mini

