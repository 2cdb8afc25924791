import Derived.Test.YtifkphfhadimaaaGreatDoorMini
import Derived.KernelRfl
set_option linter.unusedVariables false
set_option maxRecDepth 100000
namespace Go.Proofs.YtifkphfhadimaaaGreatDoor.Mini
open Go.Abs
def F35 : MFunc := (.mk 20 (.seq (.region [(dr_ 2 (.box 3 (.tmp 0))), (dr_ 3 (.box 1 (.tmp 1))), (dr_ 4 (.mov (ci_ 0))), (dr_ 5 (.mov (ci_ 0)))]) (.seq (.seq (.region [(dr_ 8 (.load (.some 3) (.tmp 2))), (dr_ 9 (.call (cf_ 38) [(.tmp 8)])), (mo_ 6 9)]) (.seq (.region [(mo_ 10 6), (dr_ 11 (.bin .neq (.tmp 10) (ci_ 0)))]) (.cond (.tmp 11) (.seq (.region [(mo_ 12 6), (dr_ 4 (.mov (ci_ 0))), (mo_ 5 12)]) .ret) .skip))) (.seq (.region [(dr_ 13 (.fieldAddr 2 (.tmp 2))), (dr_ 14 (.load .none (.tmp 13))), (dr_ 15 (.mkFn 79 [(.tmp 3)])), (dr_ 16 (.call (cf_ 78) [(.tmp 14), (.tmp 15)])), (mo_ 7 16)]) (.seq (.seq (.region [(mo_ 17 7), (dr_ 18 (.bin .lss (.tmp 17) (ci_ 0)))]) (.cond (.tmp 18) (.seq (.region [(dr_ 4 (.mov (ci_ 0))), (dr_ 5 (.mov (ci_ 5)))]) .ret) .skip)) (.seq (.region [(mo_ 19 7), (mo_ 4 19), (dr_ 5 (.mov (ci_ 0)))]) .ret))))) [(.tmp 4), (.tmp 5)])
theorem fn35 : M.fn 35 = some F35 := by kernel_rfl
def F79 : MFunc := (.mk 8 (.seq (.region [(dr_ 2 (.box 2 (.tmp 0))), (dr_ 3 (.mov (cb_ .false)))]) (.seq (.region [(dr_ 4 (.fieldAddr 0 (.tmp 2))), (dr_ 5 (.load .none (.tmp 4))), (dr_ 6 (.load .none (.tmp 1))), (dr_ 7 (.bin .eql (.tmp 5) (.tmp 6))), (mo_ 3 7)]) .ret)) [(.tmp 3)])
theorem fn79 : M.fn 79 = some F79 := by kernel_rfl
end Go.Proofs.YtifkphfhadimaaaGreatDoor.Mini

