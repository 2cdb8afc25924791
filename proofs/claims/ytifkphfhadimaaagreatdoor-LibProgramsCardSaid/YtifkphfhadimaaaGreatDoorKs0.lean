/- The sources parted into lines, part 1. -/
import Derived.Test.YtifkphfhadimaaaGreatDoorKm
set_option linter.unusedVariables false
set_option maxRecDepth 100000
namespace Go.Proofs.YtifkphfhadimaaaGreatDoor.Mini
open Go.Abs
noncomputable def kSpl0 : KeyMemo K1q := .of eok1q 80 [.str [10]] splitV [src75 0] (by kernel_rfl) (by kernel_rfl)
noncomputable def kSpl1 : KeyMemo K1q := .of eok1q 80 [.str [10]] splitV [src75 1] (by kernel_rfl) (by kernel_rfl)
noncomputable def kSpl2 : KeyMemo K1q := .of eok1q 80 [.str [10]] splitV [src75 2] (by kernel_rfl) (by kernel_rfl)
noncomputable def kSpl3 : KeyMemo K1q := .of eok1q 80 [.str [10]] splitV [src75 3] (by kernel_rfl) (by kernel_rfl)
noncomputable def kSpl4 : KeyMemo K1q := .of eok1q 80 [.str [10]] splitV [src75 4] (by kernel_rfl) (by kernel_rfl)
noncomputable def kSpl5 : KeyMemo K1q := .of eok1q 80 [.str [10]] splitV [src75 5] (by kernel_rfl) (by kernel_rfl)
end Go.Proofs.YtifkphfhadimaaaGreatDoor.Mini

