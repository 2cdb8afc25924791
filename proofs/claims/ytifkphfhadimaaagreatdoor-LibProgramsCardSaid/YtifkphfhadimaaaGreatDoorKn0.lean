/- Lines of the sources cut, and parted into words, part 1. -/
import Derived.Test.YtifkphfhadimaaaGreatDoorKm
set_option linter.unusedVariables false
set_option maxRecDepth 100000
namespace Go.Proofs.YtifkphfhadimaaaGreatDoor.Mini
open Go.Abs
noncomputable def kCut0 : KeyMemo K1q := .of eok1q 82 [.str [59]] cutV lns0 (by kernel_rfl) (by kernel_rfl)
noncomputable def kFld0 : KeyMemo K1q := .of eok1q 83 [.fn 84 []] fieldsV lns0 (by kernel_rfl) (by kernel_rfl)
noncomputable def kCut1 : KeyMemo K1q := .of eok1q 82 [.str [59]] cutV lns1 (by kernel_rfl) (by kernel_rfl)
noncomputable def kFld1 : KeyMemo K1q := .of eok1q 83 [.fn 84 []] fieldsV lns1 (by kernel_rfl) (by kernel_rfl)
noncomputable def kCut2 : KeyMemo K1q := .of eok1q 82 [.str [59]] cutV lns2 (by kernel_rfl) (by kernel_rfl)
noncomputable def kFld2 : KeyMemo K1q := .of eok1q 83 [.fn 84 []] fieldsV lns2 (by kernel_rfl) (by kernel_rfl)
noncomputable def kCut3 : KeyMemo K1q := .of eok1q 82 [.str [59]] cutV lns3 (by kernel_rfl) (by kernel_rfl)
noncomputable def kFld3 : KeyMemo K1q := .of eok1q 83 [.fn 84 []] fieldsV lns3 (by kernel_rfl) (by kernel_rfl)
end Go.Proofs.YtifkphfhadimaaaGreatDoor.Mini

