/- Lines of the sources cut, and parted into words, part 3. -/
import Derived.Test.YtifkphfhadimaaaGreatDoorKm
set_option linter.unusedVariables false
set_option maxRecDepth 100000
namespace Go.Proofs.YtifkphfhadimaaaGreatDoor.Mini
open Go.Abs
noncomputable def kCut8 : KeyMemo K1q := .of eok1q 82 [.str [59]] cutV lns8 (by kernel_rfl) (by kernel_rfl)
noncomputable def kFld8 : KeyMemo K1q := .of eok1q 83 [.fn 84 []] fieldsV lns8 (by kernel_rfl) (by kernel_rfl)
noncomputable def kCut9 : KeyMemo K1q := .of eok1q 82 [.str [59]] cutV lns9 (by kernel_rfl) (by kernel_rfl)
noncomputable def kFld9 : KeyMemo K1q := .of eok1q 83 [.fn 84 []] fieldsV lns9 (by kernel_rfl) (by kernel_rfl)
end Go.Proofs.YtifkphfhadimaaaGreatDoor.Mini

