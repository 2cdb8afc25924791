/- Lines of the sources cut, and parted into words, part 2. -/
import Derived.Test.YtifkphfhadimaaaGreatDoorKm
set_option linter.unusedVariables false
set_option maxRecDepth 100000
namespace Go.Proofs.YtifkphfhadimaaaGreatDoor.Mini
open Go.Abs
noncomputable def kCut4 : KeyMemo K1q := .of eok1q 82 [.str [59]] cutV lns4 (by kernel_rfl) (by kernel_rfl)
noncomputable def kFld4 : KeyMemo K1q := .of eok1q 83 [.fn 84 []] fieldsV lns4 (by kernel_rfl) (by kernel_rfl)
noncomputable def kCut5 : KeyMemo K1q := .of eok1q 82 [.str [59]] cutV lns5 (by kernel_rfl) (by kernel_rfl)
noncomputable def kFld5 : KeyMemo K1q := .of eok1q 83 [.fn 84 []] fieldsV lns5 (by kernel_rfl) (by kernel_rfl)
noncomputable def kCut6 : KeyMemo K1q := .of eok1q 82 [.str [59]] cutV lns6 (by kernel_rfl) (by kernel_rfl)
noncomputable def kFld6 : KeyMemo K1q := .of eok1q 83 [.fn 84 []] fieldsV lns6 (by kernel_rfl) (by kernel_rfl)
noncomputable def kCut7 : KeyMemo K1q := .of eok1q 82 [.str [59]] cutV lns7 (by kernel_rfl) (by kernel_rfl)
noncomputable def kFld7 : KeyMemo K1q := .of eok1q 83 [.fn 84 []] fieldsV lns7 (by kernel_rfl) (by kernel_rfl)
end Go.Proofs.YtifkphfhadimaaaGreatDoor.Mini

