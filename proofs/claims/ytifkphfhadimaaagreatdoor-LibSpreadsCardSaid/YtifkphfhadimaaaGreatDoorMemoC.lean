/- Calls of flat arguments, each reckoned once by the kernel: printed by this session's own program. -/
import Derived.Test.YtifkphfhadimaaaGreatDoorIdxB
set_option linter.unusedVariables false
set_option maxRecDepth 100000
namespace Go.Proofs.YtifkphfhadimaaaGreatDoor.Mini
open Go.Abs
noncomputable def mc_0 : Memo K3 := .of eok3 100000 28 [] (.row 21 [(.str [115, 116, 97, 99, 107]), (.str [101, 108, 105, 109]), (.str [113, 117, 101, 117, 101]), (.str [114, 105, 110, 103]), (.str [100, 101, 113, 117, 101]), (.str [112, 113]), (.str [108, 97, 110, 101, 115]), (.str [108, 105, 115, 116]), (.str [115, 107, 105, 112]), (.str [116, 114, 101, 101]), (.str [116, 114, 105, 101]), (.str [104, 97, 115, 104]), (.str [110, 101, 116]), (.str [119, 105, 100, 101]), (.str [115, 110, 97, 112]), (.str [117, 110, 105, 111, 110]), (.str [112, 97, 105, 114]), (.str [117, 110, 105]), (.str [116, 119, 105, 110]), (.str [116, 97, 108, 108, 121]), (.str [98, 97, 114, 101])] 1) (by kernel_rfl) (by kernel_rfl)
noncomputable def mc_1 : Memo K3 := .of eok3 100000 10 [(.str [115, 116, 97, 99, 107])] (.flat (.bool true)) (by kernel_rfl) (by kernel_rfl)
noncomputable def mc_2 : Memo K3 := .of eok3 100000 10 [(.str [101, 108, 105, 109])] (.flat (.bool true)) (by kernel_rfl) (by kernel_rfl)
noncomputable def mc_3 : Memo K3 := .of eok3 100000 10 [(.str [113, 117, 101, 117, 101])] (.flat (.bool true)) (by kernel_rfl) (by kernel_rfl)
noncomputable def mc_4 : Memo K3 := .of eok3 100000 10 [(.str [114, 105, 110, 103])] (.flat (.bool true)) (by kernel_rfl) (by kernel_rfl)
noncomputable def mc_5 : Memo K3 := .of eok3 100000 10 [(.str [100, 101, 113, 117, 101])] (.flat (.bool true)) (by kernel_rfl) (by kernel_rfl)
noncomputable def mc_6 : Memo K3 := .of eok3 100000 10 [(.str [112, 113])] (.flat (.bool true)) (by kernel_rfl) (by kernel_rfl)
noncomputable def mc_7 : Memo K3 := .of eok3 100000 10 [(.str [108, 97, 110, 101, 115])] (.flat (.bool true)) (by kernel_rfl) (by kernel_rfl)
noncomputable def mc_8 : Memo K3 := .of eok3 100000 10 [(.str [108, 105, 115, 116])] (.flat (.bool true)) (by kernel_rfl) (by kernel_rfl)
noncomputable def mc_9 : Memo K3 := .of eok3 100000 10 [(.str [115, 107, 105, 112])] (.flat (.bool true)) (by kernel_rfl) (by kernel_rfl)
noncomputable def mc_10 : Memo K3 := .of eok3 100000 10 [(.str [116, 114, 101, 101])] (.flat (.bool true)) (by kernel_rfl) (by kernel_rfl)
noncomputable def mc_11 : Memo K3 := .of eok3 100000 10 [(.str [116, 114, 105, 101])] (.flat (.bool true)) (by kernel_rfl) (by kernel_rfl)
noncomputable def mc_12 : Memo K3 := .of eok3 100000 10 [(.str [104, 97, 115, 104])] (.flat (.bool true)) (by kernel_rfl) (by kernel_rfl)
noncomputable def mc_13 : Memo K3 := .of eok3 100000 10 [(.str [110, 101, 116])] (.flat (.bool true)) (by kernel_rfl) (by kernel_rfl)
noncomputable def mc_14 : Memo K3 := .of eok3 100000 10 [(.str [119, 105, 100, 101])] (.flat (.bool true)) (by kernel_rfl) (by kernel_rfl)
noncomputable def mc_15 : Memo K3 := .of eok3 100000 10 [(.str [115, 110, 97, 112])] (.flat (.bool true)) (by kernel_rfl) (by kernel_rfl)
noncomputable def mc_16 : Memo K3 := .of eok3 100000 10 [(.str [117, 110, 105, 111, 110])] (.flat (.bool true)) (by kernel_rfl) (by kernel_rfl)
noncomputable def mc_17 : Memo K3 := .of eok3 100000 10 [(.str [112, 97, 105, 114])] (.flat (.bool true)) (by kernel_rfl) (by kernel_rfl)
noncomputable def mc_18 : Memo K3 := .of eok3 100000 10 [(.str [117, 110, 105])] (.flat (.bool true)) (by kernel_rfl) (by kernel_rfl)
noncomputable def mc_19 : Memo K3 := .of eok3 100000 10 [(.str [116, 119, 105, 110])] (.flat (.bool true)) (by kernel_rfl) (by kernel_rfl)
noncomputable def mc_20 : Memo K3 := .of eok3 100000 10 [(.str [116, 97, 108, 108, 121])] (.flat (.bool true)) (by kernel_rfl) (by kernel_rfl)
noncomputable def mc_21 : Memo K3 := .of eok3 100000 10 [(.str [98, 97, 114, 101])] (.flat (.bool true)) (by kernel_rfl) (by kernel_rfl)
noncomputable def memosc : List (Memo K3) := [mc_0, mc_1, mc_2, mc_3, mc_4, mc_5, mc_6, mc_7, mc_8, mc_9, mc_10, mc_11, mc_12, mc_13, mc_14, mc_15, mc_16, mc_17, mc_18, mc_19, mc_20, mc_21]
end Go.Proofs.YtifkphfhadimaaaGreatDoor.Mini

