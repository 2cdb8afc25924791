import Derived.Test.YtifkphfhadimaaaGreatDoorMini
import Derived.KernelRfl
set_option linter.unusedVariables false
set_option maxRecDepth 100000
namespace Go.Proofs.YtifkphfhadimaaaGreatDoor.Mini
open Go.Abs
def F37 : MFunc := (.mk 24 (.seq (.region [(dr_ 2 (.box 3 (.tmp 0))), (dr_ 3 (.box 3 (.tmp 1))), (dr_ 4 (.mov (cb_ .false)))]) (.seq (.region [(dr_ 5 (.fieldAddr 0 (.tmp 2))), (dr_ 6 (.load .none (.tmp 5))), (dr_ 7 (.fieldAddr 0 (.tmp 3))), (dr_ 8 (.load .none (.tmp 7))), (dr_ 9 (.bin .eql (.tmp 6) (.tmp 8))), (mo_ 10 9), (.mk (.some 11) (.fieldAddr 1 (.tmp 2)) (.some (10, .true))), (.mk (.some 12) (.load .none (.tmp 11)) (.some (10, .true))), (.mk (.some 13) (.fieldAddr 1 (.tmp 3)) (.some (10, .true))), (.mk (.some 14) (.load .none (.tmp 13)) (.some (10, .true))), (.mk (.some 15) (.bin .eql (.tmp 12) (.tmp 14)) (.some (10, .true))), (dr_ 16 (.pick (.tmp 10) (.tmp 15) (cb_ .false))), (mo_ 17 16), (.mk (.some 18) (.fieldAddr 2 (.tmp 2)) (.some (17, .true))), (.mk (.some 19) (.load .none (.tmp 18)) (.some (17, .true))), (.mk (.some 20) (.fieldAddr 2 (.tmp 3)) (.some (17, .true))), (.mk (.some 21) (.load .none (.tmp 20)) (.some (17, .true))), (.mk (.some 22) (.call (cf_ 87) [(.tmp 19), (.tmp 21), (cf_ 88)]) (.some (17, .true))), (dr_ 23 (.pick (.tmp 17) (.tmp 22) (cb_ .false))), (mo_ 4 23)]) .ret)) [(.tmp 4)])
theorem fn37 : M.fn 37 = some F37 := by kernel_rfl
end Go.Proofs.YtifkphfhadimaaaGreatDoor.Mini

