/- What is left to be shown of functions of the seat: printed by this session's own program; the kernel finds each to be what the residual machine says. -/
import Derived.Test.YtifkphfhadimaaaGreatDoorMiniC
import Derived.Test.YtifkphfhadimaaaGreatDoorAbsG4
import Derived.Test.YtifkphfhadimaaaGreatDoorAbsG7
set_option linter.unusedVariables false
set_option linter.unusedSimpArgs false
set_option maxRecDepth 100000
namespace Go.Proofs.YtifkphfhadimaaaGreatDoor.Mini
open Go.Abs Mini
/-- (lockless/lib.entry).by -/
def D101 (M : Model) (e_1 : List UInt8) (e_2 : List UInt8) (e_3 : Int) (e_4 : Slc) (e_5 : Int) (e_6 : Int) (e_7 : Bool) (e_8 : Bool) (e_9 : Bool) (thread1 : Int) (op1 : List UInt8) (h : Heap) (P : AV → Heap → Prop) : Prop :=
((e_1.length + ([32] : List UInt8).length : Nat) : Int) ≤ 9223372036854775807 ∧
(((e_1 ++ [32]).length + op1.length : Nat) : Int) ≤ 9223372036854775807 ∧
∃ (J1 : Bool → Heap → Prop), (((((e_1 ++ [32]) ++ op1) == [100, 101, 113, 117, 101, 32, 112, 117, 115, 104]) = true → J1 (((e_1 ++ [32]) ++ op1) == [100, 101, 113, 117, 101, 32, 112, 117, 115, 104]) ([] : Heap)) ∧
((((e_1 ++ [32]) ++ op1) == [100, 101, 113, 117, 101, 32, 112, 117, 115, 104]) = false → J1 (((e_1 ++ [32]) ++ op1) == [100, 101, 113, 117, 101, 32, 112, 111, 112]) ([] : Heap))) ∧
(∀ (x1 : Bool) (t1 : Heap), J1 x1 t1 → (x1 = true → P (.bool (thread1 == 0)) (AObj.arr [(.str e_1), (.str e_2), (.int .i64 e_3), e_4.av, (.int .i64 e_5), (.int .i64 e_6), (.bool e_7), (.bool e_8), (.bool e_9)] 9 false :: t1)) ∧
(x1 = false → ((((e_1 ++ [32]) ++ op1) == [115, 110, 97, 112, 32, 117, 112, 100, 97, 116, 101]) = true → P (.bool (decide (thread1 < 2))) (AObj.arr [(.str e_1), (.str e_2), (.int .i64 e_3), e_4.av, (.int .i64 e_5), (.int .i64 e_6), (.bool e_7), (.bool e_8), (.bool e_9)] 9 false :: t1)) ∧
((((e_1 ++ [32]) ++ op1) == [115, 110, 97, 112, 32, 117, 112, 100, 97, 116, 101]) = false → ((((e_1 ++ [32]) ++ op1) == [117, 110, 105, 32, 97, 100, 100]) = true → P (.bool (decide (thread1 < 3))) (AObj.arr [(.str e_1), (.str e_2), (.int .i64 e_3), e_4.av, (.int .i64 e_5), (.int .i64 e_6), (.bool e_7), (.bool e_8), (.bool e_9)] 9 false :: t1)) ∧
((((e_1 ++ [32]) ++ op1) == [117, 110, 105, 32, 97, 100, 100]) = false → P (.bool true) (AObj.arr [(.str e_1), (.str e_2), (.int .i64 e_3), e_4.av, (.int .i64 e_5), (.int .i64 e_6), (.bool e_7), (.bool e_8), (.bool e_9)] 9 false :: t1)))))
theorem d101 {M : Model} {e_1 : List UInt8} {e_2 : List UInt8} {e_3 : Int} {e_4 : Slc} {e_5 : Int} {e_6 : Int} {e_7 : Bool} {e_8 : Bool} {e_9 : Bool} {thread1 : Int} {op1 : List UInt8} {h : Heap} {P : AV → Heap → Prop} (hF : M.fn 101 = some F101) (hd : D101 M e_1 e_2 e_3 e_4 e_5 e_6 e_7 e_8 e_9 thread1 op1 h P) : CallE M 101 [(.agg [(.str e_1), (.str e_2), (.int .i64 e_3), e_4.av, (.int .i64 e_5), (.int .i64 e_6), (.bool e_7), (.bool e_8), (.bool e_9)]), (.int .i64 thread1), (.str op1)] h P :=
  callE_of_wp (hi := (rs 4 (.op ⟨.raw, 0, true, 1⟩ (.op ⟨.raw, 0, true, 0⟩ (.op ⟨.raw, 0, true, 1⟩ (.join ⟨2, [], [(12, .bool)]⟩ (rs 2 (.condS .nil (rs 2 .nil))) (.condS (rs 3 .nil) (rs 2 (.condS (rs 3 .nil) (rs 2 (.condS (rs 3 .nil) (.op ⟨.raw, 0, true, 0⟩ .nil)))))))))))) (args := [(.agg [(.av (.str e_1)), (.av (.str e_2)), (.av (.int .i64 e_3)), (.slc e_4), (.av (.int .i64 e_5)), (.av (.int .i64 e_6)), (.av (.bool e_7)), (.av (.bool e_8)), (.av (.bool e_9))]), (.av (.int .i64 thread1)), (.av (.str op1))]) hF (by simp [oks, SV.ok]) (Eq.mp (α := D101 M e_1 e_2 e_3 e_4 e_5 e_6 e_7 e_8 e_9 thread1 op1 h P) (by kernel_rfl) hd)
end Go.Proofs.YtifkphfhadimaaaGreatDoor.Mini

