/- What is left to be shown of functions of the seat: printed by this session's own program; the kernel finds each to be what the residual machine says. -/
import Derived.Test.YthedodaghjpdoaaMini
import Derived.Test.YthedodaghjpdoaaAbsW
set_option linter.unusedVariables false
set_option linter.unusedSimpArgs false
set_option maxRecDepth 100000
namespace Go.Proofs.Ythedodaghjpdoaa.Mini
open Go.Abs Mini
/-- lockless/locklesslaw28.ProgressKinds -/
def D3 (M : Model) (given1 : List UInt8) (given2 : List UInt8) (given3 : Int) (given4 : Int) (h : Heap) (P : AV → Heap → Prop) : Prop :=
CallE M 5 [] (h ++ [AObj.arr [(.str given1), (.str given2), (.int .i64 given3), (.int .i64 given4)] 4 false]) fun rv1 t1 =>
∃ (b1 : Bool), rv1 = (.bool b1) ∧
((!b1) = true → P (.bool false) (AObj.arr [(.str given1), (.str given2), (.int .i64 given3), (.int .i64 given4)] 4 false :: t1)) ∧
((!b1) = false →
CallE M 6 [(.str given1), (.str given2)] (h ++ (AObj.arr [(.str given1), (.str given2), (.int .i64 given3), (.int .i64 given4)] 4 false :: t1)) fun rv2 t2 =>
∃ (r1 : Int) (r2 : Int), rv2 = (.tuple [(.int .i64 r1), (.int .i64 r2)]) ∧
CallE M 7 [(.str given1), (.str given2), (.int .i64 given3), (.int .i64 given4)] (h ++ (AObj.arr [(.str given1), (.str given2), (.int .i64 given3), (.int .i64 given4)] 4 false :: (t1 ++ t2))) fun rv3 t3 =>
∃ (r3 : Int) (r4 : Int), rv3 = (.tuple [(.int .i64 r3), (.int .i64 r4)]) ∧
CallE M 8 [(.str given1)] (h ++ (AObj.arr [(.str given1), (.str given2), (.int .i64 given3), (.int .i64 given4)] 4 false :: (t1 ++ (t2 ++ t3)))) fun rv4 t4 =>
∃ (r5 : List UInt8) (r6 : Int) (r7 : Slc) (r8 : Int) (r9 : Int) (r10 : Bool) (r11 : Bool) (r12 : Bool), rv4 = (.tuple [(.agg [(.str r5), (.int .i64 r6), r7.av, (.int .i64 r8), (.int .i64 r9), (.bool r10), (.bool r11)]), (.bool r12)]) ∧
((!r12) = true → ((r1 == 0) = true → ((r3 == 0) = true → ((r2 == 5) = true → P (.bool (r4 == 5)) (AObj.arr [(.str given1), (.str given2), (.int .i64 given3), (.int .i64 given4)] 4 false :: (t1 ++ (t2 ++ (t3 ++ (t4 ++ [AObj.arr [(.str r5), (.int .i64 r6), r7.av, (.int .i64 r8), (.int .i64 r9), (.bool r10), (.bool r11)] 7 false])))))) ∧
((r2 == 5) = false → P (.bool false) (AObj.arr [(.str given1), (.str given2), (.int .i64 given3), (.int .i64 given4)] 4 false :: (t1 ++ (t2 ++ (t3 ++ (t4 ++ [AObj.arr [(.str r5), (.int .i64 r6), r7.av, (.int .i64 r8), (.int .i64 r9), (.bool r10), (.bool r11)] 7 false]))))))) ∧
((r3 == 0) = false → P (.bool false) (AObj.arr [(.str given1), (.str given2), (.int .i64 given3), (.int .i64 given4)] 4 false :: (t1 ++ (t2 ++ (t3 ++ (t4 ++ [AObj.arr [(.str r5), (.int .i64 r6), r7.av, (.int .i64 r8), (.int .i64 r9), (.bool r10), (.bool r11)] 7 false]))))))) ∧
((r1 == 0) = false → P (.bool false) (AObj.arr [(.str given1), (.str given2), (.int .i64 given3), (.int .i64 given4)] 4 false :: (t1 ++ (t2 ++ (t3 ++ (t4 ++ [AObj.arr [(.str r5), (.int .i64 r6), r7.av, (.int .i64 r8), (.int .i64 r9), (.bool r10), (.bool r11)] 7 false]))))))) ∧
((!r12) = false →
CallE M 9 [(.agg [(.str r5), (.int .i64 r6), r7.av, (.int .i64 r8), (.int .i64 r9), (.bool r10), (.bool r11)]), (.str given2)] (h ++ (AObj.arr [(.str given1), (.str given2), (.int .i64 given3), (.int .i64 given4)] 4 false :: (t1 ++ (t2 ++ (t3 ++ (t4 ++ [AObj.arr [(.str r5), (.int .i64 r6), r7.av, (.int .i64 r8), (.int .i64 r9), (.bool r10), (.bool r11)] 7 false])))))) fun rv5 t5 =>
∃ (n1 : Int), rv5 = (.int .i64 n1) ∧
((decide (n1 < 0)) = true → ((r1 == 0) = true → ((r3 == 0) = true → ((r2 == 1) = true → P (.bool (r4 == 1)) (AObj.arr [(.str given1), (.str given2), (.int .i64 given3), (.int .i64 given4)] 4 false :: (t1 ++ (t2 ++ (t3 ++ (t4 ++ (AObj.arr [(.str r5), (.int .i64 r6), r7.av, (.int .i64 r8), (.int .i64 r9), (.bool r10), (.bool r11)] 7 false :: t5))))))) ∧
((r2 == 1) = false → P (.bool false) (AObj.arr [(.str given1), (.str given2), (.int .i64 given3), (.int .i64 given4)] 4 false :: (t1 ++ (t2 ++ (t3 ++ (t4 ++ (AObj.arr [(.str r5), (.int .i64 r6), r7.av, (.int .i64 r8), (.int .i64 r9), (.bool r10), (.bool r11)] 7 false :: t5)))))))) ∧
((r3 == 0) = false → P (.bool false) (AObj.arr [(.str given1), (.str given2), (.int .i64 given3), (.int .i64 given4)] 4 false :: (t1 ++ (t2 ++ (t3 ++ (t4 ++ (AObj.arr [(.str r5), (.int .i64 r6), r7.av, (.int .i64 r8), (.int .i64 r9), (.bool r10), (.bool r11)] 7 false :: t5)))))))) ∧
((r1 == 0) = false → P (.bool false) (AObj.arr [(.str given1), (.str given2), (.int .i64 given3), (.int .i64 given4)] 4 false :: (t1 ++ (t2 ++ (t3 ++ (t4 ++ (AObj.arr [(.str r5), (.int .i64 r6), r7.av, (.int .i64 r8), (.int .i64 r9), (.bool r10), (.bool r11)] 7 false :: t5)))))))) ∧
((decide (n1 < 0)) = false →
CallE M 10 [(.str given1), (.str given2)] (h ++ (AObj.arr [(.str given1), (.str given2), (.int .i64 given3), (.int .i64 given4)] 4 false :: (t1 ++ (t2 ++ (t3 ++ (t4 ++ (AObj.arr [(.str r5), (.int .i64 r6), r7.av, (.int .i64 r8), (.int .i64 r9), (.bool r10), (.bool r11)] 7 false :: t5))))))) fun rv6 t6 =>
∃ (n2 : Int), rv6 = (.int .i64 n2) ∧
((r1 != n2) = false → ((r2 != 0) = true → P (.bool false) (AObj.arr [(.str given1), (.str given2), (.int .i64 given3), (.int .i64 given4)] 4 false :: (t1 ++ (t2 ++ (t3 ++ (t4 ++ (AObj.arr [(.str r5), (.int .i64 r6), r7.av, (.int .i64 r8), (.int .i64 r9), (.bool r10), (.bool r11)] 7 false :: (t5 ++ t6)))))))) ∧
((r2 != 0) = false → ((decide (given3 < 0)) = false → ((decide (given3 > 1000000)) = false → ((decide (given4 < 0)) = false → ((decide (given4 > 1000000)) = true → ((r3 == 0) = true → P (.bool (r4 == 1)) (AObj.arr [(.str given1), (.str given2), (.int .i64 given3), (.int .i64 given4)] 4 false :: (t1 ++ (t2 ++ (t3 ++ (t4 ++ (AObj.arr [(.str r5), (.int .i64 r6), r7.av, (.int .i64 r8), (.int .i64 r9), (.bool r10), (.bool r11)] 7 false :: (t5 ++ t6)))))))) ∧
((r3 == 0) = false → P (.bool false) (AObj.arr [(.str given1), (.str given2), (.int .i64 given3), (.int .i64 given4)] 4 false :: (t1 ++ (t2 ++ (t3 ++ (t4 ++ (AObj.arr [(.str r5), (.int .i64 r6), r7.av, (.int .i64 r8), (.int .i64 r9), (.bool r10), (.bool r11)] 7 false :: (t5 ++ t6))))))))) ∧
((decide (given4 > 1000000)) = false →
CallE M 11 [(.str given1), (.str given2), (.int .i64 given3), (.int .i64 given4)] (h ++ (AObj.arr [(.str given1), (.str given2), (.int .i64 given3), (.int .i64 given4)] 4 false :: (t1 ++ (t2 ++ (t3 ++ (t4 ++ (AObj.arr [(.str r5), (.int .i64 r6), r7.av, (.int .i64 r8), (.int .i64 r9), (.bool r10), (.bool r11)] 7 false :: (t5 ++ t6)))))))) fun rv7 t7 =>
∃ (n3 : Int), rv7 = (.int .i64 n3) ∧
((r3 == n3) = true → P (.bool (r4 == 0)) (AObj.arr [(.str given1), (.str given2), (.int .i64 given3), (.int .i64 given4)] 4 false :: (t1 ++ (t2 ++ (t3 ++ (t4 ++ (AObj.arr [(.str r5), (.int .i64 r6), r7.av, (.int .i64 r8), (.int .i64 r9), (.bool r10), (.bool r11)] 7 false :: (t5 ++ (t6 ++ t7))))))))) ∧
((r3 == n3) = false → P (.bool false) (AObj.arr [(.str given1), (.str given2), (.int .i64 given3), (.int .i64 given4)] 4 false :: (t1 ++ (t2 ++ (t3 ++ (t4 ++ (AObj.arr [(.str r5), (.int .i64 r6), r7.av, (.int .i64 r8), (.int .i64 r9), (.bool r10), (.bool r11)] 7 false :: (t5 ++ (t6 ++ t7))))))))))) ∧
((decide (given4 < 0)) = true → ((r3 == 0) = true → P (.bool (r4 == 1)) (AObj.arr [(.str given1), (.str given2), (.int .i64 given3), (.int .i64 given4)] 4 false :: (t1 ++ (t2 ++ (t3 ++ (t4 ++ (AObj.arr [(.str r5), (.int .i64 r6), r7.av, (.int .i64 r8), (.int .i64 r9), (.bool r10), (.bool r11)] 7 false :: (t5 ++ t6)))))))) ∧
((r3 == 0) = false → P (.bool false) (AObj.arr [(.str given1), (.str given2), (.int .i64 given3), (.int .i64 given4)] 4 false :: (t1 ++ (t2 ++ (t3 ++ (t4 ++ (AObj.arr [(.str r5), (.int .i64 r6), r7.av, (.int .i64 r8), (.int .i64 r9), (.bool r10), (.bool r11)] 7 false :: (t5 ++ t6)))))))))) ∧
((decide (given3 > 1000000)) = true → ((r3 == 0) = true → P (.bool (r4 == 1)) (AObj.arr [(.str given1), (.str given2), (.int .i64 given3), (.int .i64 given4)] 4 false :: (t1 ++ (t2 ++ (t3 ++ (t4 ++ (AObj.arr [(.str r5), (.int .i64 r6), r7.av, (.int .i64 r8), (.int .i64 r9), (.bool r10), (.bool r11)] 7 false :: (t5 ++ t6)))))))) ∧
((r3 == 0) = false → P (.bool false) (AObj.arr [(.str given1), (.str given2), (.int .i64 given3), (.int .i64 given4)] 4 false :: (t1 ++ (t2 ++ (t3 ++ (t4 ++ (AObj.arr [(.str r5), (.int .i64 r6), r7.av, (.int .i64 r8), (.int .i64 r9), (.bool r10), (.bool r11)] 7 false :: (t5 ++ t6)))))))))) ∧
((decide (given3 < 0)) = true → ((r3 == 0) = true → P (.bool (r4 == 1)) (AObj.arr [(.str given1), (.str given2), (.int .i64 given3), (.int .i64 given4)] 4 false :: (t1 ++ (t2 ++ (t3 ++ (t4 ++ (AObj.arr [(.str r5), (.int .i64 r6), r7.av, (.int .i64 r8), (.int .i64 r9), (.bool r10), (.bool r11)] 7 false :: (t5 ++ t6)))))))) ∧
((r3 == 0) = false → P (.bool false) (AObj.arr [(.str given1), (.str given2), (.int .i64 given3), (.int .i64 given4)] 4 false :: (t1 ++ (t2 ++ (t3 ++ (t4 ++ (AObj.arr [(.str r5), (.int .i64 r6), r7.av, (.int .i64 r8), (.int .i64 r9), (.bool r10), (.bool r11)] 7 false :: (t5 ++ t6))))))))))) ∧
((r1 != n2) = true → P (.bool false) (AObj.arr [(.str given1), (.str given2), (.int .i64 given3), (.int .i64 given4)] 4 false :: (t1 ++ (t2 ++ (t3 ++ (t4 ++ (AObj.arr [(.str r5), (.int .i64 r6), r7.av, (.int .i64 r8), (.int .i64 r9), (.bool r10), (.bool r11)] 7 false :: (t5 ++ t6)))))))))))
theorem d3 {M : Model} {given1 : List UInt8} {given2 : List UInt8} {given3 : Int} {given4 : Int} {h : Heap} {P : AV → Heap → Prop} (hF : M.fn 3 = some F3) (hd : D3 M given1 given2 given3 given4 h P) : CallE M 3 [(.agg [(.str given1), (.str given2), (.int .i64 given3), (.int .i64 given4)])] h P :=
  callE_of_wp (hi := (.op ⟨.raw, 0, true, 0⟩ (.op ⟨.raw, 0, true, 0⟩ (.op ⟨.raw, 0, true, 0⟩ (.op ⟨.raw, 0, true, 0⟩ (.op ⟨.raw, 0, true, 0⟩ (.op ⟨.raw, 0, true, 0⟩ (.op ⟨.raw, 0, true, 0⟩ (.op ⟨.raw, 0, true, 0⟩ (.op ⟨.raw, 0, true, 0⟩ (.op ⟨.raw, 0, true, 0⟩ (.op ⟨.raw, 0, true, 0⟩ (.op ⟨.raw, 0, true, 0⟩ (.op ⟨.raw, 0, true, 0⟩ (.op ⟨.raw, 0, true, 0⟩ (.op ⟨.bool, 0, true, 0⟩ (.op ⟨.raw, 0, true, 0⟩ (.condS (.op ⟨.raw, 0, true, 0⟩ .nil) (.op ⟨.raw, 0, true, 0⟩ (.op ⟨.raw, 0, true, 0⟩ (.op ⟨(.tup [(.int .i64), (.int .i64)]), 0, true, 0⟩ (.op ⟨.raw, 0, true, 0⟩ (.op ⟨.raw, 0, true, 0⟩ (.op ⟨.raw, 0, true, 0⟩ (.op ⟨.raw, 0, true, 0⟩ (.op ⟨.raw, 0, true, 0⟩ (.op ⟨.raw, 0, true, 0⟩ (.op ⟨.raw, 0, true, 0⟩ (.op ⟨.raw, 0, true, 0⟩ (.op ⟨.raw, 0, true, 0⟩ (.op ⟨(.tup [(.int .i64), (.int .i64)]), 0, true, 0⟩ (.op ⟨.raw, 0, true, 0⟩ (.op ⟨.raw, 0, true, 0⟩ (.op ⟨.raw, 0, true, 0⟩ (.op ⟨.raw, 0, true, 0⟩ (.op ⟨.raw, 0, true, 0⟩ (.op ⟨.raw, 0, true, 0⟩ (.op ⟨(.tup [(.agg [.str, (.int .i64), .slc, (.int .i64), (.int .i64), .bool, .bool]), .bool]), 0, true, 0⟩ (.op ⟨.raw, 0, true, 0⟩ (.op ⟨.raw, 0, true, 0⟩ (.op ⟨.raw, 0, true, 0⟩ (.op ⟨.raw, 0, true, 0⟩ (.op ⟨.raw, 0, true, 0⟩ (.op ⟨.raw, 0, true, 0⟩ (.op ⟨.raw, 0, true, 0⟩ (.op ⟨.raw, 0, true, 0⟩ (.condS (.op ⟨.raw, 0, true, 0⟩ (.op ⟨.raw, 0, true, 0⟩ (.op ⟨.raw, 0, true, 0⟩ (.split ⟨.raw, 0, true, 0⟩ (.op ⟨.raw, 0, true, 0⟩ (.op ⟨.raw, 0, true, 0⟩ (.op ⟨.raw, 0, true, 0⟩ (.split ⟨.raw, 0, true, 0⟩ (.op ⟨.raw, 0, true, 0⟩ (.op ⟨.raw, 0, true, 0⟩ (.op ⟨.raw, 0, true, 0⟩ (.split ⟨.raw, 0, true, 0⟩ (.op ⟨.raw, 0, true, 0⟩ (.op ⟨.raw, 0, true, 0⟩ (.op ⟨.raw, 0, true, 0⟩ .nil))) (.op ⟨.raw, 0, true, 0⟩ (.op ⟨.raw, 0, true, 0⟩ (.op ⟨.raw, 0, true, 0⟩ .nil))))))) (.op ⟨.raw, 0, true, 0⟩ (.op ⟨.raw, 0, true, 0⟩ (.op ⟨.raw, 0, true, 0⟩ (.op ⟨.raw, 0, true, 0⟩ (.op ⟨.raw, 0, true, 0⟩ (.op ⟨.raw, 0, true, 0⟩ (.op ⟨.raw, 0, true, 0⟩ .nil))))))))))) (.op ⟨.raw, 0, true, 0⟩ (.op ⟨.raw, 0, true, 0⟩ (.op ⟨.raw, 0, true, 0⟩ (.op ⟨.raw, 0, true, 0⟩ (.op ⟨.raw, 0, true, 0⟩ (.op ⟨.raw, 0, true, 0⟩ (.op ⟨.raw, 0, true, 0⟩ (.op ⟨.raw, 0, true, 0⟩ (.op ⟨.raw, 0, true, 0⟩ (.op ⟨.raw, 0, true, 0⟩ (.op ⟨.raw, 0, true, 0⟩ .nil))))))))))))))) (.op ⟨.raw, 0, true, 0⟩ (.op ⟨.raw, 0, true, 0⟩ (.op ⟨(.int .i64), 0, true, 0⟩ (.op ⟨.raw, 0, true, 0⟩ (.condS (.op ⟨.raw, 0, true, 0⟩ (.op ⟨.raw, 0, true, 0⟩ (.op ⟨.raw, 0, true, 0⟩ (.split ⟨.raw, 0, true, 0⟩ (.op ⟨.raw, 0, true, 0⟩ (.op ⟨.raw, 0, true, 0⟩ (.op ⟨.raw, 0, true, 0⟩ (.split ⟨.raw, 0, true, 0⟩ (.op ⟨.raw, 0, true, 0⟩ (.op ⟨.raw, 0, true, 0⟩ (.op ⟨.raw, 0, true, 0⟩ (.split ⟨.raw, 0, true, 0⟩ (.op ⟨.raw, 0, true, 0⟩ (.op ⟨.raw, 0, true, 0⟩ (.op ⟨.raw, 0, true, 0⟩ .nil))) (.op ⟨.raw, 0, true, 0⟩ (.op ⟨.raw, 0, true, 0⟩ (.op ⟨.raw, 0, true, 0⟩ .nil))))))) (.op ⟨.raw, 0, true, 0⟩ (.op ⟨.raw, 0, true, 0⟩ (.op ⟨.raw, 0, true, 0⟩ (.op ⟨.raw, 0, true, 0⟩ (.op ⟨.raw, 0, true, 0⟩ (.op ⟨.raw, 0, true, 0⟩ (.op ⟨.raw, 0, true, 0⟩ .nil))))))))))) (.op ⟨.raw, 0, true, 0⟩ (.op ⟨.raw, 0, true, 0⟩ (.op ⟨.raw, 0, true, 0⟩ (.op ⟨.raw, 0, true, 0⟩ (.op ⟨.raw, 0, true, 0⟩ (.op ⟨.raw, 0, true, 0⟩ (.op ⟨.raw, 0, true, 0⟩ (.op ⟨.raw, 0, true, 0⟩ (.op ⟨.raw, 0, true, 0⟩ (.op ⟨.raw, 0, true, 0⟩ (.op ⟨.raw, 0, true, 0⟩ .nil))))))))))))))) (.op ⟨.raw, 0, true, 0⟩ (.op ⟨.raw, 0, true, 0⟩ (.op ⟨.raw, 0, true, 0⟩ (.op ⟨(.int .i64), 0, true, 0⟩ (.op ⟨.raw, 0, true, 0⟩ (.op ⟨.raw, 0, true, 0⟩ (.split ⟨.raw, 0, true, 0⟩ (.op ⟨.raw, 0, true, 0⟩ (.op ⟨.raw, 0, true, 0⟩ (.condS (.op ⟨.raw, 0, true, 0⟩ .nil) (.op ⟨.raw, 0, true, 0⟩ (.op ⟨.raw, 0, true, 0⟩ (.op ⟨.raw, 0, true, 0⟩ (.split ⟨.raw, 0, true, 0⟩ (.op ⟨.raw, 0, true, 0⟩ (.op ⟨.raw, 0, true, 0⟩ (.op ⟨.raw, 0, true, 0⟩ (.split ⟨.raw, 0, true, 0⟩ (.op ⟨.raw, 0, true, 0⟩ (.op ⟨.raw, 0, true, 0⟩ (.op ⟨.raw, 0, true, 0⟩ (.split ⟨.raw, 0, true, 0⟩ (.op ⟨.raw, 0, true, 0⟩ (.op ⟨.raw, 0, true, 0⟩ (.condS (.op ⟨.raw, 0, true, 0⟩ (.op ⟨.raw, 0, true, 0⟩ (.op ⟨.raw, 0, true, 0⟩ (.split ⟨.raw, 0, true, 0⟩ (.op ⟨.raw, 0, true, 0⟩ (.op ⟨.raw, 0, true, 0⟩ (.op ⟨.raw, 0, true, 0⟩ .nil))) (.op ⟨.raw, 0, true, 0⟩ (.op ⟨.raw, 0, true, 0⟩ (.op ⟨.raw, 0, true, 0⟩ .nil))))))) (.op ⟨.raw, 0, true, 0⟩ (.op ⟨.raw, 0, true, 0⟩ (.op ⟨.raw, 0, true, 0⟩ (.op ⟨.raw, 0, true, 0⟩ (.op ⟨.raw, 0, true, 0⟩ (.op ⟨(.int .i64), 0, true, 0⟩ (.op ⟨.raw, 0, true, 0⟩ (.op ⟨.raw, 0, true, 0⟩ (.split ⟨.raw, 0, true, 0⟩ (.op ⟨.raw, 0, true, 0⟩ (.op ⟨.raw, 0, true, 0⟩ (.op ⟨.raw, 0, true, 0⟩ .nil))) (.op ⟨.raw, 0, true, 0⟩ (.op ⟨.raw, 0, true, 0⟩ (.op ⟨.raw, 0, true, 0⟩ .nil))))))))))))))) (.op ⟨.raw, 0, true, 0⟩ (.op ⟨.raw, 0, true, 0⟩ (.condL (.op ⟨.raw, 0, true, 0⟩ (.op ⟨.raw, 0, true, 0⟩ (.op ⟨.raw, 0, true, 0⟩ (.split ⟨.raw, 0, true, 0⟩ (.op ⟨.raw, 0, true, 0⟩ (.op ⟨.raw, 0, true, 0⟩ (.op ⟨.raw, 0, true, 0⟩ .nil))) (.op ⟨.raw, 0, true, 0⟩ (.op ⟨.raw, 0, true, 0⟩ (.op ⟨.raw, 0, true, 0⟩ .nil)))))))))))))) (.op ⟨.raw, 0, true, 0⟩ (.op ⟨.raw, 0, true, 0⟩ (.op ⟨.raw, 0, true, 0⟩ (.op ⟨.raw, 0, true, 0⟩ (.op ⟨.raw, 0, true, 0⟩ (.op ⟨.raw, 0, true, 0⟩ (.condL (.op ⟨.raw, 0, true, 0⟩ (.op ⟨.raw, 0, true, 0⟩ (.op ⟨.raw, 0, true, 0⟩ (.split ⟨.raw, 0, true, 0⟩ (.op ⟨.raw, 0, true, 0⟩ (.op ⟨.raw, 0, true, 0⟩ (.op ⟨.raw, 0, true, 0⟩ .nil))) (.op ⟨.raw, 0, true, 0⟩ (.op ⟨.raw, 0, true, 0⟩ (.op ⟨.raw, 0, true, 0⟩ .nil)))))))))))))))))) (.op ⟨.raw, 0, true, 0⟩ (.op ⟨.raw, 0, true, 0⟩ (.op ⟨.raw, 0, true, 0⟩ (.op ⟨.raw, 0, true, 0⟩ (.op ⟨.raw, 0, true, 0⟩ (.op ⟨.raw, 0, true, 0⟩ (.op ⟨.raw, 0, true, 0⟩ (.op ⟨.raw, 0, true, 0⟩ (.op ⟨.raw, 0, true, 0⟩ (.op ⟨.raw, 0, true, 0⟩ (.condL (.op ⟨.raw, 0, true, 0⟩ (.op ⟨.raw, 0, true, 0⟩ (.op ⟨.raw, 0, true, 0⟩ (.split ⟨.raw, 0, true, 0⟩ (.op ⟨.raw, 0, true, 0⟩ (.op ⟨.raw, 0, true, 0⟩ (.op ⟨.raw, 0, true, 0⟩ .nil))) (.op ⟨.raw, 0, true, 0⟩ (.op ⟨.raw, 0, true, 0⟩ (.op ⟨.raw, 0, true, 0⟩ .nil))))))))))))))))))))))))) (.op ⟨.raw, 0, true, 0⟩ (.op ⟨.raw, 0, true, 0⟩ (.condL (.op ⟨.raw, 0, true, 0⟩ .nil))))))))))))))))))))))))))))))))))))))))))))))))))))))))))))))) (args := [(.agg [(.av (.str given1)), (.av (.str given2)), (.av (.int .i64 given3)), (.av (.int .i64 given4))])]) hF (by simp [oks, SV.ok]) (Eq.mp (α := D3 M given1 given2 given3 given4 h P) (by kernel_rfl) hd)
/-- lockless/locklesslaw28.ProgressTable -/
def D4 (M : Model) (at_1 : Int) (begun1 : Int) (others1 : Int) (h : Heap) (P : AV → Heap → Prop) : Prop :=
CallE M 5 [] h fun rv1 t1 =>
∃ (b1 : Bool), rv1 = (.bool b1) ∧
((!b1) = true → P (.bool false) t1) ∧
((!b1) = false →
CallE M 12 [] (h ++ t1) fun rv2 t2 =>
∃ (l1 : Slc), rv2 = l1.av ∧
CallE M 13 [] (h ++ (t1 ++ t2)) fun rv3 t3 =>
∃ (l2 : Slc), rv3 = l2.av ∧
((((l1.len : Nat) : Int) != ((l2.len : Nat) : Int)) = true → P (.bool false) (t1 ++ (t2 ++ t3))) ∧
((((l1.len : Nat) : Int) != ((l2.len : Nat) : Int)) = false → (IntKind.wrap .u64 ((l2.len : Nat) : Int)) ≠ 0 ∧
(0 ≤ (IntKind.wrap .i64 (Int.tmod (IntKind.wrap .u64 at_1) (IntKind.wrap .u64 ((l2.len : Nat) : Int)))) ∧
(IntKind.wrap .i64 (Int.tmod (IntKind.wrap .u64 at_1) (IntKind.wrap .u64 ((l2.len : Nat) : Int)))) < (l1.len : Int)) ∧
∃ (x1 : List UInt8) (x2 : List UInt8) (x3 : Int), rdVar (h ++ (t1 ++ (t2 ++ t3))) (some 3) l1.b (l1.o + ((IntKind.wrap .i64 (Int.tmod (IntKind.wrap .u64 at_1) (IntKind.wrap .u64 ((l2.len : Nat) : Int)))) : Int).toNat * 3) = some (.agg [(.str x1), (.str x2), (.int .i64 x3)]) ∧
(0 ≤ (IntKind.wrap .i64 (Int.tmod (IntKind.wrap .u64 at_1) (IntKind.wrap .u64 ((l2.len : Nat) : Int)))) ∧
(IntKind.wrap .i64 (Int.tmod (IntKind.wrap .u64 at_1) (IntKind.wrap .u64 ((l2.len : Nat) : Int)))) < (l2.len : Int)) ∧
∃ (x4 : List UInt8) (x5 : List UInt8) (x6 : Int), rdVar (h ++ (t1 ++ (t2 ++ t3))) (some 3) l2.b (l2.o + ((IntKind.wrap .i64 (Int.tmod (IntKind.wrap .u64 at_1) (IntKind.wrap .u64 ((l2.len : Nat) : Int)))) : Int).toNat * 3) = some (.agg [(.str x4), (.str x5), (.int .i64 x6)]) ∧
((((x1 == x4) && ((x2 == x5) && ((x3 == x6) && true))) != false) = true → (0 ≤ (IntKind.wrap .i64 (Int.tmod (IntKind.wrap .u64 at_1) (IntKind.wrap .u64 ((l2.len : Nat) : Int)))) ∧
(IntKind.wrap .i64 (Int.tmod (IntKind.wrap .u64 at_1) (IntKind.wrap .u64 ((l2.len : Nat) : Int)))) < (l1.len : Int)) ∧
∃ (w1 : List UInt8), rdVar (h ++ (t1 ++ (t2 ++ t3))) none l1.b (l1.o + ((IntKind.wrap .i64 (Int.tmod (IntKind.wrap .u64 at_1) (IntKind.wrap .u64 ((l2.len : Nat) : Int)))) : Int).toNat * 3) = some (.str w1) ∧
(0 ≤ (IntKind.wrap .i64 (Int.tmod (IntKind.wrap .u64 at_1) (IntKind.wrap .u64 ((l2.len : Nat) : Int)))) ∧
(IntKind.wrap .i64 (Int.tmod (IntKind.wrap .u64 at_1) (IntKind.wrap .u64 ((l2.len : Nat) : Int)))) < (l1.len : Int)) ∧
∃ (w2 : List UInt8), rdVar (h ++ (t1 ++ (t2 ++ t3))) none l1.b ((l1.o + ((IntKind.wrap .i64 (Int.tmod (IntKind.wrap .u64 at_1) (IntKind.wrap .u64 ((l2.len : Nat) : Int)))) : Int).toNat * 3) + 1) = some (.str w2) ∧
CallE M 3 [(.agg [(.str w1), (.str w2), (.int .i64 begun1), (.int .i64 others1)])] (h ++ (t1 ++ (t2 ++ t3))) fun rv4 t4 =>
∃ (b2 : Bool), rv4 = (.bool b2) ∧
P (.bool b2) (t1 ++ (t2 ++ (t3 ++ t4)))) ∧
((((x1 == x4) && ((x2 == x5) && ((x3 == x6) && true))) != false) = false → P (.bool false) (t1 ++ (t2 ++ t3)))))
theorem d4 {M : Model} {at_1 : Int} {begun1 : Int} {others1 : Int} {h : Heap} {P : AV → Heap → Prop} (hF : M.fn 4 = some F4) (hd : D4 M at_1 begun1 others1 h P) : CallE M 4 [(.int .i64 at_1), (.int .i64 begun1), (.int .i64 others1)] h P :=
  callE_of_wp (hi := (.op ⟨.raw, 0, true, 0⟩ (.op ⟨.bool, 0, true, 0⟩ (.op ⟨.raw, 0, true, 0⟩ (.condS (.op ⟨.raw, 0, true, 0⟩ .nil) (.op ⟨.slc, 0, true, 0⟩ (.op ⟨.raw, 0, true, 0⟩ (.op ⟨.slc, 0, true, 0⟩ (.op ⟨.raw, 0, true, 0⟩ (.op ⟨.raw, 0, true, 0⟩ (.op ⟨.raw, 0, true, 0⟩ (.op ⟨.raw, 0, true, 0⟩ (.op ⟨.raw, 0, true, 0⟩ (.op ⟨.raw, 0, true, 0⟩ (.condS (.op ⟨.raw, 0, true, 0⟩ .nil) (.op ⟨.raw, 0, true, 0⟩ (.op ⟨.raw, 0, true, 0⟩ (.op ⟨.raw, 0, true, 0⟩ (.op ⟨.raw, 0, true, 0⟩ (.op ⟨.raw, 0, true, 0⟩ (.op ⟨.raw, 0, true, 1⟩ (.op ⟨.raw, 0, true, 0⟩ (.op ⟨.raw, 0, true, 0⟩ (.op ⟨.raw, 0, true, 0⟩ (.op ⟨.raw, 0, true, 0⟩ (.op ⟨.raw, 0, true, 0⟩ (.op ⟨(.agg [.str, .str, (.int .i64)]), 4, true, 0⟩ (.op ⟨.raw, 0, true, 0⟩ (.op ⟨.raw, 0, true, 0⟩ (.op ⟨.raw, 0, true, 0⟩ (.op ⟨(.agg [.str, .str, (.int .i64)]), 4, true, 0⟩ (.op ⟨.raw, 0, true, 0⟩ (.op ⟨.raw, 0, true, 0⟩ (.split ⟨.raw, 0, true, 0⟩ (.op ⟨.raw, 0, true, 0⟩ (.op ⟨.raw, 0, true, 0⟩ (.op ⟨.raw, 0, true, 0⟩ (.op ⟨.str, 4, true, 0⟩ (.op ⟨.raw, 0, true, 0⟩ (.op ⟨.raw, 0, true, 0⟩ (.op ⟨.raw, 0, true, 0⟩ (.op ⟨.raw, 0, true, 0⟩ (.op ⟨.str, 4, true, 0⟩ (.op ⟨.raw, 0, true, 0⟩ (.op ⟨.raw, 0, true, 0⟩ (.op ⟨.raw, 0, true, 0⟩ (.op ⟨.bool, 0, true, 0⟩ (.op ⟨.raw, 0, true, 0⟩ (.op ⟨.raw, 0, true, 0⟩ .nil))))))))))))))) (.op ⟨.raw, 0, true, 0⟩ (.op ⟨.raw, 0, true, 0⟩ (.op ⟨.raw, 0, true, 0⟩ (.op ⟨.raw, 0, true, 0⟩ (.op ⟨.raw, 0, true, 0⟩ (.op ⟨.raw, 0, true, 0⟩ (.op ⟨.raw, 0, true, 0⟩ (.op ⟨.raw, 0, true, 0⟩ (.op ⟨.raw, 0, true, 0⟩ (.op ⟨.raw, 0, true, 0⟩ (.op ⟨.raw, 0, true, 0⟩ (.op ⟨.raw, 0, true, 0⟩ (.op ⟨.raw, 0, true, 0⟩ (.op ⟨.raw, 0, true, 0⟩ (.op ⟨.raw, 0, true, 0⟩ .nil))))))))))))))))))))))))))))))))))))))))))))))))) (args := [(.av (.int .i64 at_1)), (.av (.int .i64 begun1)), (.av (.int .i64 others1))]) hF (by simp [oks, SV.ok]) (Eq.mp (α := D4 M at_1 begun1 others1 h P) (by kernel_rfl) hd)
/-- lockless/locklesslaw28.awake -/
def D5 (M : Model)  (h : Heap) (P : AV → Heap → Prop) : Prop :=
CallE M 7 [(.str [110, 101, 116]), (.str [110, 101, 120, 116]), (.int .i64 1), (.int .i64 0)] h fun rv1 t1 =>
∃ (r1 : Int) (r2 : Int), rv1 = (.tuple [(.int .i64 r1), (.int .i64 r2)]) ∧
CallE M 6 [(.str [110, 101, 116]), (.str [110, 101, 120, 116])] (h ++ t1) fun rv2 t2 =>
∃ (r3 : Int) (r4 : Int), rv2 = (.tuple [(.int .i64 r3), (.int .i64 r4)]) ∧
((r1 == 66) = true → ((r2 == 0) = true → ((r3 == 2) = true → P (.bool (r4 == 0)) (t1 ++ t2)) ∧
((r3 == 2) = false → P (.bool false) (t1 ++ t2))) ∧
((r2 == 0) = false → P (.bool false) (t1 ++ t2))) ∧
((r1 == 66) = false → P (.bool false) (t1 ++ t2))
theorem d5 {M : Model}  {h : Heap} {P : AV → Heap → Prop} (hF : M.fn 5 = some F5) (hd : D5 M  h P) : CallE M 5 [] h P :=
  callE_of_wp (hi := (.op ⟨.raw, 0, true, 0⟩ (.op ⟨(.tup [(.int .i64), (.int .i64)]), 0, true, 0⟩ (.op ⟨.raw, 0, true, 0⟩ (.op ⟨.raw, 0, true, 0⟩ (.op ⟨.raw, 0, true, 0⟩ (.op ⟨.raw, 0, true, 0⟩ (.op ⟨.raw, 0, true, 0⟩ (.op ⟨(.tup [(.int .i64), (.int .i64)]), 0, true, 0⟩ (.op ⟨.raw, 0, true, 0⟩ (.op ⟨.raw, 0, true, 0⟩ (.op ⟨.raw, 0, true, 0⟩ (.op ⟨.raw, 0, true, 0⟩ (.op ⟨.raw, 0, true, 0⟩ (.op ⟨.raw, 0, true, 0⟩ (.op ⟨.raw, 0, true, 0⟩ (.op ⟨.raw, 0, true, 0⟩ (.split ⟨.raw, 0, true, 0⟩ (.op ⟨.raw, 0, true, 0⟩ (.op ⟨.raw, 0, true, 0⟩ (.op ⟨.raw, 0, true, 0⟩ (.split ⟨.raw, 0, true, 0⟩ (.op ⟨.raw, 0, true, 0⟩ (.op ⟨.raw, 0, true, 0⟩ (.op ⟨.raw, 0, true, 0⟩ (.split ⟨.raw, 0, true, 0⟩ (.op ⟨.raw, 0, true, 0⟩ (.op ⟨.raw, 0, true, 0⟩ (.op ⟨.raw, 0, true, 0⟩ .nil))) (.op ⟨.raw, 0, true, 0⟩ (.op ⟨.raw, 0, true, 0⟩ (.op ⟨.raw, 0, true, 0⟩ .nil))))))) (.op ⟨.raw, 0, true, 0⟩ (.op ⟨.raw, 0, true, 0⟩ (.op ⟨.raw, 0, true, 0⟩ (.op ⟨.raw, 0, true, 0⟩ (.op ⟨.raw, 0, true, 0⟩ (.op ⟨.raw, 0, true, 0⟩ (.op ⟨.raw, 0, true, 0⟩ .nil))))))))))) (.op ⟨.raw, 0, true, 0⟩ (.op ⟨.raw, 0, true, 0⟩ (.op ⟨.raw, 0, true, 0⟩ (.op ⟨.raw, 0, true, 0⟩ (.op ⟨.raw, 0, true, 0⟩ (.op ⟨.raw, 0, true, 0⟩ (.op ⟨.raw, 0, true, 0⟩ (.op ⟨.raw, 0, true, 0⟩ (.op ⟨.raw, 0, true, 0⟩ (.op ⟨.raw, 0, true, 0⟩ (.op ⟨.raw, 0, true, 0⟩ .nil))))))))))))))))))))))))))))) (args := []) hF (by simp [oks, SV.ok]) (Eq.mp (α := D5 M  h P) (by kernel_rfl) hd)
/-- lockless/progress.Kind -/
def D6 (M : Model) (name1 : List UInt8) (op1 : List UInt8) (h : Heap) (P : AV → Heap → Prop) : Prop :=
CallE M 14 [(.str name1), (.str op1)] h fun rv1 t1 =>
∃ (r1 : Int) (r2 : Int), rv1 = (.tuple [(.int .i64 r1), (.int .i64 r2)]) ∧
((r2 != 0) = true → P (.tuple [(.int .i64 0), (.int .i64 r2)]) t1) ∧
((r2 != 0) = false →
CallE M 15 [(.str name1), (.str op1)] (h ++ t1) fun rv2 t2 =>
∃ (b1 : Bool), rv2 = (.bool b1) ∧
(b1 = true → P (.tuple [(.int .i64 2), (.int .i64 0)]) (t1 ++ t2)) ∧
(b1 = false → P (.tuple [(.int .i64 1), (.int .i64 0)]) (t1 ++ t2)))
theorem d6 {M : Model} {name1 : List UInt8} {op1 : List UInt8} {h : Heap} {P : AV → Heap → Prop} (hF : M.fn 6 = some F6) (hd : D6 M name1 op1 h P) : CallE M 6 [(.str name1), (.str op1)] h P :=
  callE_of_wp (hi := (.op ⟨.raw, 0, true, 0⟩ (.op ⟨.raw, 0, true, 0⟩ (.op ⟨.raw, 0, true, 0⟩ (.op ⟨.raw, 0, true, 0⟩ (.op ⟨(.tup [(.int .i64), (.int .i64)]), 0, true, 0⟩ (.op ⟨.raw, 0, true, 0⟩ (.op ⟨.raw, 0, true, 0⟩ (.op ⟨.raw, 0, true, 0⟩ (.op ⟨.raw, 0, true, 0⟩ (.op ⟨.raw, 0, true, 0⟩ (.op ⟨.raw, 0, true, 0⟩ (.op ⟨.raw, 0, true, 0⟩ (.condS (.op ⟨.raw, 0, true, 0⟩ (.op ⟨.raw, 0, true, 0⟩ (.op ⟨.raw, 0, true, 0⟩ .nil))) (.op ⟨.raw, 0, true, 0⟩ (.op ⟨.raw, 0, true, 0⟩ (.op ⟨.bool, 0, true, 0⟩ (.condS (.op ⟨.raw, 0, true, 0⟩ (.op ⟨.raw, 0, true, 0⟩ .nil)) (.op ⟨.raw, 0, true, 0⟩ (.op ⟨.raw, 0, true, 0⟩ .nil)))))))))))))))))))) (args := [(.av (.str name1)), (.av (.str op1))]) hF (by simp [oks, SV.ok]) (Eq.mp (α := D6 M name1 op1 h P) (by kernel_rfl) hd)
/-- lockless/progress.Bound -/
def D7 (M : Model) (name1 : List UInt8) (op1 : List UInt8) (begun1 : Int) (others1 : Int) (h : Heap) (P : AV → Heap → Prop) : Prop :=
CallE M 6 [(.str name1), (.str op1)] h fun rv1 t1 =>
∃ (r1 : Int) (r2 : Int), rv1 = (.tuple [(.int .i64 r1), (.int .i64 r2)]) ∧
((r2 != 0) = true → P (.tuple [(.int .i64 0), (.int .i64 r2)]) t1) ∧
((r2 != 0) = false → ((decide (begun1 < 0)) = false → ((decide (begun1 > 1000000)) = false → ((decide (others1 < 0)) = false → ((decide (others1 > 1000000)) = true → P (.tuple [(.int .i64 0), (.int .i64 1)]) t1) ∧
((decide (others1 > 1000000)) = false → ((r1 == 2) = true → P (.tuple [(.int .i64 (IntKind.wrap .i64 (60 + (IntKind.wrap .i64 (6 * begun1))))), (.int .i64 0)]) t1) ∧
((r1 == 2) = false → P (.tuple [(.int .i64 (IntKind.wrap .i64 ((IntKind.wrap .i64 (80 + (IntKind.wrap .i64 (12 * begun1)))) * (IntKind.wrap .i64 (2 + others1))))), (.int .i64 0)]) t1))) ∧
((decide (others1 < 0)) = true → P (.tuple [(.int .i64 0), (.int .i64 1)]) t1)) ∧
((decide (begun1 > 1000000)) = true → P (.tuple [(.int .i64 0), (.int .i64 1)]) t1)) ∧
((decide (begun1 < 0)) = true → P (.tuple [(.int .i64 0), (.int .i64 1)]) t1))
theorem d7 {M : Model} {name1 : List UInt8} {op1 : List UInt8} {begun1 : Int} {others1 : Int} {h : Heap} {P : AV → Heap → Prop} (hF : M.fn 7 = some F7) (hd : D7 M name1 op1 begun1 others1 h P) : CallE M 7 [(.str name1), (.str op1), (.int .i64 begun1), (.int .i64 others1)] h P :=
  callE_of_wp (hi := (.op ⟨.raw, 0, true, 0⟩ (.op ⟨.raw, 0, true, 0⟩ (.op ⟨.raw, 0, true, 0⟩ (.op ⟨.raw, 0, true, 0⟩ (.op ⟨(.tup [(.int .i64), (.int .i64)]), 0, true, 0⟩ (.op ⟨.raw, 0, true, 0⟩ (.op ⟨.raw, 0, true, 0⟩ (.op ⟨.raw, 0, true, 0⟩ (.op ⟨.raw, 0, true, 0⟩ (.op ⟨.raw, 0, true, 0⟩ (.op ⟨.raw, 0, true, 0⟩ (.op ⟨.raw, 0, true, 0⟩ (.condS (.op ⟨.raw, 0, true, 0⟩ (.op ⟨.raw, 0, true, 0⟩ (.op ⟨.raw, 0, true, 0⟩ .nil))) (.op ⟨.raw, 0, true, 0⟩ (.op ⟨.raw, 0, true, 0⟩ (.op ⟨.raw, 0, true, 0⟩ (.split ⟨.raw, 0, true, 0⟩ (.op ⟨.raw, 0, true, 0⟩ (.op ⟨.raw, 0, true, 0⟩ (.op ⟨.raw, 0, true, 0⟩ (.split ⟨.raw, 0, true, 0⟩ (.op ⟨.raw, 0, true, 0⟩ (.op ⟨.raw, 0, true, 0⟩ (.op ⟨.raw, 0, true, 0⟩ (.split ⟨.raw, 0, true, 0⟩ (.op ⟨.raw, 0, true, 0⟩ (.op ⟨.raw, 0, true, 0⟩ (.condS (.op ⟨.raw, 0, true, 0⟩ (.op ⟨.raw, 0, true, 0⟩ .nil)) (.op ⟨.raw, 0, true, 0⟩ (.op ⟨.raw, 0, true, 0⟩ (.condS (.op ⟨.raw, 0, true, 0⟩ (.op ⟨.raw, 0, true, 0⟩ (.op ⟨.raw, 0, true, 0⟩ (.op ⟨.raw, 0, true, 0⟩ (.op ⟨.raw, 0, true, 0⟩ .nil))))) (.op ⟨.raw, 0, true, 0⟩ (.op ⟨.raw, 0, true, 0⟩ (.op ⟨.raw, 0, true, 0⟩ (.op ⟨.raw, 0, true, 0⟩ (.op ⟨.raw, 0, true, 0⟩ (.op ⟨.raw, 0, true, 0⟩ (.op ⟨.raw, 0, true, 0⟩ (.op ⟨.raw, 0, true, 0⟩ .nil)))))))))))))) (.op ⟨.raw, 0, true, 0⟩ (.op ⟨.raw, 0, true, 0⟩ (.condL (.op ⟨.raw, 0, true, 0⟩ (.op ⟨.raw, 0, true, 0⟩ .nil))))))))) (.op ⟨.raw, 0, true, 0⟩ (.op ⟨.raw, 0, true, 0⟩ (.op ⟨.raw, 0, true, 0⟩ (.op ⟨.raw, 0, true, 0⟩ (.op ⟨.raw, 0, true, 0⟩ (.op ⟨.raw, 0, true, 0⟩ (.condL (.op ⟨.raw, 0, true, 0⟩ (.op ⟨.raw, 0, true, 0⟩ .nil))))))))))))) (.op ⟨.raw, 0, true, 0⟩ (.op ⟨.raw, 0, true, 0⟩ (.op ⟨.raw, 0, true, 0⟩ (.op ⟨.raw, 0, true, 0⟩ (.op ⟨.raw, 0, true, 0⟩ (.op ⟨.raw, 0, true, 0⟩ (.op ⟨.raw, 0, true, 0⟩ (.op ⟨.raw, 0, true, 0⟩ (.op ⟨.raw, 0, true, 0⟩ (.op ⟨.raw, 0, true, 0⟩ (.condL (.op ⟨.raw, 0, true, 0⟩ (.op ⟨.raw, 0, true, 0⟩ .nil))))))))))))))))))))))))))))))) (args := [(.av (.str name1)), (.av (.str op1)), (.av (.int .i64 begun1)), (.av (.int .i64 others1))]) hF (by simp [oks, SV.ok]) (Eq.mp (α := D7 M name1 op1 begun1 others1 h P) (by kernel_rfl) hd)
/-- lockless/locklessref16.Find -/
def D8 (M : Model) (name1 : List UInt8) (h : Heap) (P : AV → Heap → Prop) : Prop :=
CallE M 16 [] (h ++ [AObj.arr [(.str []), (.int .i64 0), .nilslice, (.int .i64 0), (.int .i64 0), (.bool false), (.bool false)] 7 false]) fun rv1 t1 =>
∃ (l1 : Slc), rv1 = l1.av ∧
∃ (I1 : Nat → Int → (List UInt8) → Int → Slc → Int → Int → Bool → Bool → Heap → Prop), (∃ n1, I1 n1 (0 : Int) ([] : List UInt8) (0 : Int) (Slc.mk 0 0 0 true) (0 : Int) (0 : Int) false false ([] : Heap)) ∧
∀ (n2 : Nat) (i1 : Int) (c1 : List UInt8) (c2 : Int) (c3 : Slc) (c4 : Int) (c5 : Int) (c6 : Bool) (c7 : Bool) (t2 : Heap), I1 n2 i1 c1 c2 c3 c4 c5 c6 c7 t2 → ((decide (i1 < ((l1.len : Nat) : Int))) = true → (0 ≤ i1 ∧
i1 < (l1.len : Int)) ∧
∃ (w1 : List UInt8), rdVar (h ++ (AObj.arr [(.str c1), (.int .i64 c2), c3.av, (.int .i64 c4), (.int .i64 c5), (.bool c6), (.bool c7)] 7 false :: (t1 ++ t2))) none l1.b (l1.o + (i1 : Int).toNat * 7) = some (.str w1) ∧
((w1 == name1) = true → (0 ≤ i1 ∧
i1 < (l1.len : Int)) ∧
∃ (x1 : List UInt8) (x2 : Int) (x3 : Slc) (x4 : Int) (x5 : Int) (x6 : Bool) (x7 : Bool), rdVar (h ++ (AObj.arr [(.str c1), (.int .i64 c2), c3.av, (.int .i64 c4), (.int .i64 c5), (.bool c6), (.bool c7)] 7 false :: (t1 ++ t2))) (some 7) l1.b (l1.o + (i1 : Int).toNat * 7) = some (.agg [(.str x1), (.int .i64 x2), x3.av, (.int .i64 x4), (.int .i64 x5), (.bool x6), (.bool x7)]) ∧
P (.tuple [(.agg [(.str x1), (.int .i64 x2), x3.av, (.int .i64 x4), (.int .i64 x5), (.bool x6), (.bool x7)]), (.bool true)]) (AObj.arr [(.str x1), (.int .i64 x2), x3.av, (.int .i64 x4), (.int .i64 x5), (.bool x6), (.bool x7)] 7 false :: (t1 ++ t2))) ∧
((w1 == name1) = false → ∃ n3, n3 < n2 ∧
I1 n3 (IntKind.wrap .i64 (i1 + 1)) (c1 : List UInt8) c2 c3 c4 c5 c6 c7 t2)) ∧
((decide (i1 < ((l1.len : Nat) : Int))) = false → P (.tuple [(.agg [(.str []), (.int .i64 0), .nilslice, (.int .i64 0), (.int .i64 0), (.bool false), (.bool false)]), (.bool false)]) (AObj.arr [(.str []), (.int .i64 0), .nilslice, (.int .i64 0), (.int .i64 0), (.bool false), (.bool false)] 7 false :: (t1 ++ t2)))
theorem d8 {M : Model} {name1 : List UInt8} {h : Heap} {P : AV → Heap → Prop} (hF : M.fn 8 = some F8) (hd : D8 M name1 h P) : CallE M 8 [(.str name1)] h P :=
  callE_of_wp (hi := (.op ⟨.raw, 0, true, 0⟩ (.op ⟨.raw, 0, true, 0⟩ (.op ⟨.slc, 0, true, 0⟩ (.op ⟨.raw, 0, true, 0⟩ (.op ⟨.raw, 0, true, 0⟩ (.loop ⟨3, [(1, (.agg [.str, (.int .i64), .slc, (.int .i64), (.int .i64), .bool, .bool]), 7)], [(5, (.int .i64))]⟩ (.op ⟨.raw, 0, true, 0⟩ (.op ⟨.raw, 0, true, 0⟩ (.op ⟨.raw, 0, true, 0⟩ (.op ⟨.raw, 0, true, 0⟩ (.condS (.op ⟨.raw, 0, true, 0⟩ (.op ⟨.raw, 0, true, 0⟩ (.op ⟨.raw, 0, true, 0⟩ (.op ⟨.raw, 0, true, 0⟩ (.op ⟨.str, 4, true, 0⟩ (.op ⟨.raw, 0, true, 0⟩ (.op ⟨.raw, 0, true, 0⟩ (.condS (.op ⟨.raw, 0, true, 0⟩ (.op ⟨.raw, 0, true, 0⟩ (.op ⟨.raw, 0, true, 0⟩ (.op ⟨(.agg [.str, (.int .i64), .slc, (.int .i64), (.int .i64), .bool, .bool]), 4, true, 0⟩ (.op ⟨.raw, 0, true, 0⟩ (.op ⟨.raw, 0, true, 0⟩ .nil)))))) (.op ⟨.raw, 0, true, 0⟩ (.op ⟨.raw, 0, true, 0⟩ (.op ⟨.raw, 0, true, 0⟩ .nil))))))))))) (.op ⟨.raw, 0, true, 0⟩ (.op ⟨.raw, 0, true, 0⟩ (.op ⟨.raw, 0, true, 0⟩ .nil))))))))))))))) (args := [(.av (.str name1))]) hF (by simp [oks, SV.ok]) (Eq.mp (α := D8 M name1 h P) (by kernel_rfl) hd)
/-- lockless/locklessref16.Takes -/
def D9 (M : Model) (r1 : List UInt8) (r2 : Int) (r3 : Slc) (r4 : Int) (r5 : Int) (r6 : Bool) (r7 : Bool) (op1 : List UInt8) (h : Heap) (P : AV → Heap → Prop) : Prop :=
∃ (I1 : Nat → Int → Heap → Prop), (∃ n1, I1 n1 (0 : Int) ([] : Heap)) ∧
∀ (n2 : Nat) (i1 : Int) (t1 : Heap), I1 n2 i1 t1 → ((decide (i1 < ((r3.len : Nat) : Int))) = true → (0 ≤ i1 ∧
i1 < (r3.len : Int)) ∧
∃ (w1 : List UInt8), rdVar h none r3.b (r3.o + (i1 : Int).toNat * 3) = some (.str w1) ∧
((w1 == op1) = true → (0 ≤ i1 ∧
i1 < (r3.len : Int)) ∧
∃ (n4 : Int), rdVar h none r3.b ((r3.o + (i1 : Int).toNat * 3) + 1) = some (.int .i64 n4) ∧
P (.int .i64 n4) (AObj.arr [(.str r1), (.int .i64 r2), r3.av, (.int .i64 r4), (.int .i64 r5), (.bool r6), (.bool r7)] 7 false :: t1)) ∧
((w1 == op1) = false → ∃ n3, n3 < n2 ∧
I1 n3 (IntKind.wrap .i64 (i1 + 1)) t1)) ∧
((decide (i1 < ((r3.len : Nat) : Int))) = false → P (.int .i64 (-1)) (AObj.arr [(.str r1), (.int .i64 r2), r3.av, (.int .i64 r4), (.int .i64 r5), (.bool r6), (.bool r7)] 7 false :: t1))
theorem d9 {M : Model} {r1 : List UInt8} {r2 : Int} {r3 : Slc} {r4 : Int} {r5 : Int} {r6 : Bool} {r7 : Bool} {op1 : List UInt8} {h : Heap} {P : AV → Heap → Prop} (hF : M.fn 9 = some F9) (hd : D9 M r1 r2 r3 r4 r5 r6 r7 op1 h P) : CallE M 9 [(.agg [(.str r1), (.int .i64 r2), r3.av, (.int .i64 r4), (.int .i64 r5), (.bool r6), (.bool r7)]), (.str op1)] h P :=
  callE_of_wp (hi := (.op ⟨.raw, 0, true, 0⟩ (.op ⟨.raw, 0, true, 0⟩ (.op ⟨.raw, 0, true, 0⟩ (.loop ⟨2, [], [(5, (.int .i64))]⟩ (.op ⟨.raw, 0, true, 0⟩ (.op ⟨.raw, 0, true, 0⟩ (.op ⟨.raw, 0, true, 0⟩ (.op ⟨.raw, 0, true, 0⟩ (.op ⟨.raw, 0, true, 0⟩ (.condS (.op ⟨.raw, 0, true, 0⟩ (.op ⟨.raw, 0, true, 0⟩ (.op ⟨.raw, 0, true, 0⟩ (.op ⟨.raw, 0, true, 0⟩ (.op ⟨.raw, 0, true, 0⟩ (.op ⟨.str, 1, true, 0⟩ (.op ⟨.raw, 0, true, 0⟩ (.op ⟨.raw, 0, true, 0⟩ (.condS (.op ⟨.raw, 0, true, 0⟩ (.op ⟨.raw, 0, true, 0⟩ (.op ⟨.raw, 0, true, 0⟩ (.op ⟨.raw, 0, true, 0⟩ (.op ⟨.raw, 0, true, 0⟩ (.op ⟨(.int .i64), 1, true, 0⟩ (.op ⟨.raw, 0, true, 0⟩ .nil))))))) (.op ⟨.raw, 0, true, 0⟩ (.op ⟨.raw, 0, true, 0⟩ (.op ⟨.raw, 0, true, 0⟩ .nil)))))))))))) (.op ⟨.raw, 0, true, 0⟩ .nil)))))))))))) (args := [(.agg [(.av (.str r1)), (.av (.int .i64 r2)), (.slc r3), (.av (.int .i64 r4)), (.av (.int .i64 r5)), (.av (.bool r6)), (.av (.bool r7))]), (.av (.str op1))]) hF (by simp [oks, SV.ok]) (Eq.mp (α := D9 M r1 r2 r3 r4 r5 r6 r7 op1 h P) (by kernel_rfl) hd)
/-- lockless/locklessref28.Kind -/
def D10 (M : Model) (name1 : List UInt8) (op1 : List UInt8) (h : Heap) (P : AV → Heap → Prop) : Prop :=
∃ (J1 : Bool → Heap → Prop), (((name1 == [110, 101, 116]) = true → J1 (name1 == [110, 101, 116]) ([] : Heap)) ∧
((name1 == [110, 101, 116]) = false → J1 (name1 == [117, 110, 105]) ([] : Heap))) ∧
(∀ (x1 : Bool) (t1 : Heap), J1 x1 t1 → (x1 = true → P (.int .i64 2) t1) ∧
(x1 = false → ((name1 == [115, 110, 97, 112]) = true → ((op1 == [117, 112, 100, 97, 116, 101]) = true → P (.int .i64 2) t1) ∧
((op1 == [117, 112, 100, 97, 116, 101]) = false → P (.int .i64 1) t1)) ∧
((name1 == [115, 110, 97, 112]) = false → ((name1 == [116, 97, 108, 108, 121]) = true → ((op1 == [103, 101, 116]) = true → P (.int .i64 2) t1) ∧
((op1 == [103, 101, 116]) = false → P (.int .i64 1) t1)) ∧
((name1 == [116, 97, 108, 108, 121]) = false → ((name1 == [100, 101, 113, 117, 101]) = true → ((!(op1 == [115, 116, 101, 97, 108])) = true → P (.int .i64 2) t1) ∧
((!(op1 == [115, 116, 101, 97, 108])) = false → P (.int .i64 1) t1)) ∧
((name1 == [100, 101, 113, 117, 101]) = false → P (.int .i64 1) t1)))))
theorem d10 {M : Model} {name1 : List UInt8} {op1 : List UInt8} {h : Heap} {P : AV → Heap → Prop} (hF : M.fn 10 = some F10) (hd : D10 M name1 op1 h P) : CallE M 10 [(.str name1), (.str op1)] h P :=
  callE_of_wp (hi := (.op ⟨.raw, 0, true, 0⟩ (.op ⟨.raw, 0, true, 0⟩ (.join ⟨1, [], [(6, .bool)]⟩ (.op ⟨.raw, 0, true, 0⟩ (.op ⟨.raw, 0, true, 0⟩ (.condS .nil (.op ⟨.raw, 0, true, 0⟩ (.op ⟨.raw, 0, true, 0⟩ .nil))))) (.condS (.op ⟨.raw, 0, true, 0⟩ .nil) (.op ⟨.raw, 0, true, 0⟩ (.op ⟨.raw, 0, true, 0⟩ (.condS (.op ⟨.raw, 0, true, 0⟩ (.op ⟨.raw, 0, true, 0⟩ (.condS (.op ⟨.raw, 0, true, 0⟩ .nil) (.op ⟨.raw, 0, true, 0⟩ .nil)))) (.op ⟨.raw, 0, true, 0⟩ (.op ⟨.raw, 0, true, 0⟩ (.condS (.op ⟨.raw, 0, true, 0⟩ (.op ⟨.raw, 0, true, 0⟩ (.condS (.op ⟨.raw, 0, true, 0⟩ .nil) (.op ⟨.raw, 0, true, 0⟩ .nil)))) (.op ⟨.raw, 0, true, 0⟩ (.op ⟨.raw, 0, true, 0⟩ (.condS (.op ⟨.raw, 0, true, 0⟩ (.op ⟨.raw, 0, true, 0⟩ (.condS (.op ⟨.raw, 0, true, 0⟩ .nil) (.op ⟨.raw, 0, true, 0⟩ .nil)))) (.op ⟨.raw, 0, true, 0⟩ .nil))))))))))))))) (args := [(.av (.str name1)), (.av (.str op1))]) hF (by simp [oks, SV.ok]) (Eq.mp (α := D10 M name1 op1 h P) (by kernel_rfl) hd)
/-- lockless/locklessref28.Bound -/
def D11 (M : Model) (name1 : List UInt8) (op1 : List UInt8) (begun1 : Int) (others1 : Int) (h : Heap) (P : AV → Heap → Prop) : Prop :=
CallE M 10 [(.str name1), (.str op1)] h fun rv1 t1 =>
∃ (n1 : Int), rv1 = (.int .i64 n1) ∧
((n1 == 2) = true → P (.int .i64 (IntKind.wrap .i64 (60 + (IntKind.wrap .i64 (6 * begun1))))) t1) ∧
((n1 == 2) = false → P (.int .i64 (IntKind.wrap .i64 ((IntKind.wrap .i64 (80 + (IntKind.wrap .i64 (12 * begun1)))) * (IntKind.wrap .i64 (2 + others1))))) t1)
theorem d11 {M : Model} {name1 : List UInt8} {op1 : List UInt8} {begun1 : Int} {others1 : Int} {h : Heap} {P : AV → Heap → Prop} (hF : M.fn 11 = some F11) (hd : D11 M name1 op1 begun1 others1 h P) : CallE M 11 [(.str name1), (.str op1), (.int .i64 begun1), (.int .i64 others1)] h P :=
  callE_of_wp (hi := (.op ⟨.raw, 0, true, 0⟩ (.op ⟨.raw, 0, true, 0⟩ (.op ⟨.raw, 0, true, 0⟩ (.op ⟨(.int .i64), 0, true, 0⟩ (.op ⟨.raw, 0, true, 0⟩ (.condS (.op ⟨.raw, 0, true, 0⟩ (.op ⟨.raw, 0, true, 0⟩ (.op ⟨.raw, 0, true, 0⟩ (.op ⟨.raw, 0, true, 0⟩ .nil)))) (.op ⟨.raw, 0, true, 0⟩ (.op ⟨.raw, 0, true, 0⟩ (.op ⟨.raw, 0, true, 0⟩ (.op ⟨.raw, 0, true, 0⟩ (.op ⟨.raw, 0, true, 0⟩ (.op ⟨.raw, 0, true, 0⟩ (.op ⟨.raw, 0, true, 0⟩ .nil)))))))))))))) (args := [(.av (.str name1)), (.av (.str op1)), (.av (.int .i64 begun1)), (.av (.int .i64 others1))]) hF (by simp [oks, SV.ok]) (Eq.mp (α := D11 M name1 op1 begun1 others1 h P) (by kernel_rfl) hd)
/-- lockless/progress.Table -/
def D12 (M : Model)  (h : Heap) (P : AV → Heap → Prop) : Prop :=
CallE M 17 [] h fun rv1 t1 =>
∃ (l1 : Slc), rv1 = l1.av ∧
∃ (I1 : Nat → Slc → Int → Heap → Prop), (∃ n1, I1 n1 (Slc.mk 0 0 0 true) (0 : Int) ([] : Heap)) ∧
∀ (n2 : Nat) (l2 : Slc) (x1 : Int) (t2 : Heap), I1 n2 l2 x1 t2 → ((decide (x1 < ((l1.len : Nat) : Int))) = true → (0 ≤ x1 ∧
x1 < (l1.len : Int)) ∧
∃ (w1 : List UInt8), rdVar (h ++ (t1 ++ t2)) none l1.b (l1.o + (x1 : Int).toNat * 1) = some (.str w1) ∧
CallE M 18 [(.str w1)] (h ++ (t1 ++ t2)) fun rv2 t3 =>
∃ (r1 : Slc) (r2 : Int), rv2 = (.tuple [r1.av, (.int .i64 r2)]) ∧
∃ (I2 : Nat → Slc → Int → Heap → Prop), (∃ n4, I2 n4 l2 (0 : Int) (t2 ++ t3)) ∧
∀ (n5 : Nat) (l3 : Slc) (x2 : Int) (t4 : Heap), I2 n5 l3 x2 t4 → ((decide (x2 < ((r1.len : Nat) : Int))) = true → (0 ≤ x2 ∧
x2 < (r1.len : Int)) ∧
∃ (w2 : List UInt8), rdVar (h ++ (t1 ++ t4)) none r1.b (r1.o + (x2 : Int).toNat * 1) = some (.str w2) ∧
CallE M 6 [(.str w1), (.str w2)] (h ++ (t1 ++ t4)) fun rv3 t5 =>
∃ (r3 : Int) (r4 : Int), rv3 = (.tuple [(.int .i64 r3), (.int .i64 r4)]) ∧
∃ (old1 : List AV) (g1 : Heap), ((l3.nil = true ∧
old1 = [] ∧
g1 = t4) ∨ (l3.nil = false ∧
∃ (k1 : Nat) (c1 : List AV), l3.b = (h.length + t1.length) + k1 ∧
(t4)[k1]? = some (.arr c1 3 false) ∧
l3.o + l3.n * 3 ≤ c1.length ∧
old1 = (c1.drop l3.o).take (l3.n * 3) ∧
g1 = t4.set k1 .dead)) ∧
(l3.len + 1) * 40 ≤ 140737488355328 ∧
∃ n6, n6 < n5 ∧
I2 n6 (Slc.mk (h.length + (t1.length + (g1.length + (t5.length + 1)))) 0 (l3.len + 1) false) (IntKind.wrap .i64 (x2 + 1)) (g1 ++ (t5 ++ (AObj.arr [(.str w1), (.str w2), (.int .i64 r3)] 3 false :: [AObj.arr (old1 ++ [(.str w1), (.str w2), (.int .i64 r3)]) 3 false])))) ∧
((decide (x2 < ((r1.len : Nat) : Int))) = false → ∃ n3, n3 < n2 ∧
I1 n3 l3 (IntKind.wrap .i64 (x1 + 1)) t4)) ∧
((decide (x1 < ((l1.len : Nat) : Int))) = false → P l2.av (t1 ++ t2))
theorem d12 {M : Model}  {h : Heap} {P : AV → Heap → Prop} (hF : M.fn 12 = some F12) (hd : D12 M  h P) : CallE M 12 [] h P :=
  callE_of_wp (hi := (.op ⟨.raw, 0, true, 0⟩ (.op ⟨.raw, 0, true, 0⟩ (.op ⟨.slc, 0, true, 0⟩ (.op ⟨.raw, 0, true, 0⟩ (.op ⟨.raw, 0, true, 0⟩ (.loop ⟨2, [], [(1, .slc), (12, (.int .i64))]⟩ (.op ⟨.raw, 0, true, 0⟩ (.condS (.op ⟨.raw, 0, true, 0⟩ (.op ⟨.str, 3, true, 0⟩ (.op ⟨.raw, 0, true, 0⟩ (.op ⟨.raw, 0, true, 0⟩ (.op ⟨(.tup [.slc, (.int .i64)]), 0, true, 0⟩ (.op ⟨.raw, 0, true, 0⟩ (.op ⟨.raw, 0, true, 0⟩ (.op ⟨.raw, 0, true, 0⟩ (.op ⟨.raw, 0, true, 0⟩ (.op ⟨.raw, 0, true, 0⟩ (.op ⟨.raw, 0, true, 0⟩ (.op ⟨.raw, 0, true, 0⟩ (.op ⟨.raw, 0, true, 0⟩ (.loop ⟨2, [], [(1, .slc), (23, (.int .i64))]⟩ (.op ⟨.raw, 0, true, 0⟩ (.condS (.op ⟨.raw, 0, true, 0⟩ (.op ⟨.str, 3, true, 0⟩ (.op ⟨.raw, 0, true, 0⟩ (.op ⟨.raw, 0, true, 0⟩ (.op ⟨.raw, 0, true, 0⟩ (.op ⟨(.tup [(.int .i64), (.int .i64)]), 0, true, 0⟩ (.op ⟨.raw, 0, true, 0⟩ (.op ⟨.raw, 0, true, 0⟩ (.op ⟨.raw, 0, true, 0⟩ (.op ⟨.raw, 0, true, 0⟩ (.op ⟨.raw, 0, true, 0⟩ (.op ⟨.raw, 0, true, 0⟩ (.op ⟨.raw, 0, true, 0⟩ (.op ⟨.raw, 0, true, 0⟩ (.op ⟨.raw, 0, true, 0⟩ (.op ⟨.raw, 0, true, 0⟩ (.op ⟨.raw, 0, true, 0⟩ (.op ⟨.raw, 2, true, 0⟩ (.op ⟨.raw, 0, true, 0⟩ (.op ⟨.raw, 0, true, 0⟩ (.op ⟨.raw, 0, true, 0⟩ .nil))))))))))))))))))))) (.op ⟨.raw, 0, true, 0⟩ (.op ⟨.raw, 0, true, 0⟩ .nil)))))))))))))))))) (.op ⟨.raw, 0, true, 0⟩ (.op ⟨.raw, 0, true, 0⟩ .nil))))))))))) (args := []) hF (by simp [oks, SV.ok]) (Eq.mp (α := D12 M  h P) (by kernel_rfl) hd)
/-- lockless/locklessref28.Table -/
def D13 (M : Model)  (h : Heap) (P : AV → Heap → Prop) : Prop :=
CallE M 16 [] h fun rv1 t1 =>
∃ (l1 : Slc), rv1 = l1.av ∧
∃ (I1 : Nat → Slc → Int → Heap → Prop), (∃ n1, I1 n1 (Slc.mk 0 0 0 true) (0 : Int) ([] : Heap)) ∧
∀ (n2 : Nat) (out1 : Slc) (i1 : Int) (t2 : Heap), I1 n2 out1 i1 t2 → ((decide (i1 < ((l1.len : Nat) : Int))) = true → ∃ (I2 : Nat → Slc → Int → Heap → Prop), (∃ n4, I2 n4 out1 (0 : Int) t2) ∧
∀ (n5 : Nat) (out2 : Slc) (k1 : Int) (t3 : Heap), I2 n5 out2 k1 t3 → (0 ≤ i1 ∧
i1 < (l1.len : Int)) ∧
∃ (l2 : Slc), rdVar (h ++ (t1 ++ t3)) none l1.b ((l1.o + (i1 : Int).toNat * 7) + 2) = some l2.av ∧
((decide (k1 < ((l2.len : Nat) : Int))) = true → (0 ≤ i1 ∧
i1 < (l1.len : Int)) ∧
∃ (w1 : List UInt8), rdVar (h ++ (t1 ++ t3)) none l1.b (l1.o + (i1 : Int).toNat * 7) = some (.str w1) ∧
(0 ≤ i1 ∧
i1 < (l1.len : Int)) ∧
∃ (l3 : Slc), rdVar (h ++ (t1 ++ t3)) none l1.b ((l1.o + (i1 : Int).toNat * 7) + 2) = some l3.av ∧
(0 ≤ k1 ∧
k1 < (l3.len : Int)) ∧
∃ (w2 : List UInt8), rdVar (h ++ (t1 ++ t3)) none l3.b (l3.o + (k1 : Int).toNat * 3) = some (.str w2) ∧
(0 ≤ i1 ∧
i1 < (l1.len : Int)) ∧
∃ (w3 : List UInt8), rdVar (h ++ (t1 ++ t3)) none l1.b (l1.o + (i1 : Int).toNat * 7) = some (.str w3) ∧
(0 ≤ i1 ∧
i1 < (l1.len : Int)) ∧
∃ (l4 : Slc), rdVar (h ++ (t1 ++ t3)) none l1.b ((l1.o + (i1 : Int).toNat * 7) + 2) = some l4.av ∧
(0 ≤ k1 ∧
k1 < (l4.len : Int)) ∧
∃ (w4 : List UInt8), rdVar (h ++ (t1 ++ t3)) none l4.b (l4.o + (k1 : Int).toNat * 3) = some (.str w4) ∧
CallE M 10 [(.str w3), (.str w4)] (h ++ (t1 ++ t3)) fun rv2 t4 =>
∃ (n7 : Int), rv2 = (.int .i64 n7) ∧
∃ (old1 : List AV) (g1 : Heap), ((out2.nil = true ∧
old1 = [] ∧
g1 = t3) ∨ (out2.nil = false ∧
∃ (k2 : Nat) (c1 : List AV), out2.b = (h.length + t1.length) + k2 ∧
(t3)[k2]? = some (.arr c1 3 false) ∧
out2.o + out2.n * 3 ≤ c1.length ∧
old1 = (c1.drop out2.o).take (out2.n * 3) ∧
g1 = t3.set k2 .dead)) ∧
(out2.len + 1) * 40 ≤ 140737488355328 ∧
∃ n6, n6 < n5 ∧
I2 n6 (Slc.mk (h.length + (t1.length + (g1.length + (t4.length + 1)))) 0 (out2.len + 1) false) (IntKind.wrap .i64 (k1 + 1)) (g1 ++ (t4 ++ (AObj.arr [(.str w1), (.str w2), (.int .i64 n7)] 3 false :: [AObj.arr (old1 ++ [(.str w1), (.str w2), (.int .i64 n7)]) 3 false])))) ∧
((decide (k1 < ((l2.len : Nat) : Int))) = false → ∃ n3, n3 < n2 ∧
I1 n3 out2 (IntKind.wrap .i64 (i1 + 1)) t3)) ∧
((decide (i1 < ((l1.len : Nat) : Int))) = false → P out1.av (t1 ++ t2))
theorem d13 {M : Model}  {h : Heap} {P : AV → Heap → Prop} (hF : M.fn 13 = some F13) (hd : D13 M  h P) : CallE M 13 [] h P :=
  callE_of_wp (hi := (.op ⟨.raw, 0, true, 0⟩ (.op ⟨.raw, 0, true, 0⟩ (.op ⟨.slc, 0, true, 0⟩ (.op ⟨.raw, 0, true, 0⟩ (.op ⟨.raw, 0, true, 0⟩ (.loop ⟨2, [], [(1, .slc), (3, (.int .i64))]⟩ (.op ⟨.raw, 0, true, 0⟩ (.op ⟨.raw, 0, true, 0⟩ (.op ⟨.raw, 0, true, 0⟩ (.op ⟨.raw, 0, true, 0⟩ (.condS (.op ⟨.raw, 0, true, 0⟩ (.loop ⟨2, [], [(1, .slc), (4, (.int .i64))]⟩ (.op ⟨.raw, 0, true, 0⟩ (.op ⟨.raw, 0, true, 0⟩ (.op ⟨.raw, 0, true, 0⟩ (.op ⟨.raw, 0, true, 0⟩ (.op ⟨.raw, 0, true, 0⟩ (.op ⟨.slc, 3, true, 0⟩ (.op ⟨.raw, 0, true, 0⟩ (.op ⟨.raw, 0, true, 0⟩ (.condS (.op ⟨.raw, 0, true, 0⟩ (.op ⟨.raw, 0, true, 0⟩ (.op ⟨.raw, 0, true, 0⟩ (.op ⟨.raw, 0, true, 0⟩ (.op ⟨.raw, 0, true, 0⟩ (.op ⟨.str, 3, true, 0⟩ (.op ⟨.raw, 0, true, 0⟩ (.op ⟨.raw, 0, true, 0⟩ (.op ⟨.raw, 0, true, 0⟩ (.op ⟨.raw, 0, true, 0⟩ (.op ⟨.slc, 3, true, 0⟩ (.op ⟨.raw, 0, true, 0⟩ (.op ⟨.raw, 0, true, 0⟩ (.op ⟨.raw, 0, true, 0⟩ (.op ⟨.str, 3, true, 0⟩ (.op ⟨.raw, 0, true, 0⟩ (.op ⟨.raw, 0, true, 0⟩ (.op ⟨.raw, 0, true, 0⟩ (.op ⟨.raw, 0, true, 0⟩ (.op ⟨.str, 3, true, 0⟩ (.op ⟨.raw, 0, true, 0⟩ (.op ⟨.raw, 0, true, 0⟩ (.op ⟨.raw, 0, true, 0⟩ (.op ⟨.raw, 0, true, 0⟩ (.op ⟨.slc, 3, true, 0⟩ (.op ⟨.raw, 0, true, 0⟩ (.op ⟨.raw, 0, true, 0⟩ (.op ⟨.raw, 0, true, 0⟩ (.op ⟨.str, 3, true, 0⟩ (.op ⟨(.int .i64), 0, true, 0⟩ (.op ⟨.raw, 0, true, 0⟩ (.op ⟨.raw, 0, true, 0⟩ (.op ⟨.raw, 2, true, 0⟩ (.op ⟨.raw, 0, true, 0⟩ (.op ⟨.raw, 0, true, 0⟩ (.op ⟨.raw, 0, true, 0⟩ (.op ⟨.raw, 0, true, 0⟩ .nil))))))))))))))))))))))))))))))))))))) (.op ⟨.raw, 0, true, 0⟩ (.op ⟨.raw, 0, true, 0⟩ (.op ⟨.raw, 0, true, 0⟩ .nil)))))))))))))) (.op ⟨.raw, 0, true, 0⟩ (.op ⟨.raw, 0, true, 0⟩ .nil)))))))))))))) (args := []) hF (by simp [oks, SV.ok]) (Eq.mp (α := D13 M  h P) (by kernel_rfl) hd)
/-- lockless/lib.Takes -/
def D14 (M : Model) (name1 : List UInt8) (op1 : List UInt8) (h : Heap) (P : AV → Heap → Prop) : Prop :=
CallE M 19 [(.str name1)] (h ++ [AObj.arr [(.str op1)] 1 false]) fun rv1 t1 =>
∃ (r1 : List UInt8) (r2 : List UInt8) (r3 : Int) (r4 : Slc) (r5 : Int) (r6 : Int) (r7 : Bool) (r8 : Bool) (r9 : Bool) (r10 : Bool), rv1 = (.tuple [(.agg [(.str r1), (.str r2), (.int .i64 r3), r4.av, (.int .i64 r5), (.int .i64 r6), (.bool r7), (.bool r8), (.bool r9)]), (.bool r10)]) ∧
((!r10) = true → P (.tuple [(.int .i64 0), (.int .i64 5)]) (AObj.arr [(.str op1)] 1 false :: (t1 ++ [AObj.arr [(.str r1), (.str r2), (.int .i64 r3), r4.av, (.int .i64 r5), (.int .i64 r6), (.bool r7), (.bool r8), (.bool r9)] 9 false]))) ∧
((!r10) = false →
CallE M 20 [r4.av, (.fn 21 [(.ptr h.length 0)])] (h ++ (AObj.arr [(.str op1)] 1 false :: (t1 ++ [AObj.arr [(.str r1), (.str r2), (.int .i64 r3), r4.av, (.int .i64 r5), (.int .i64 r6), (.bool r7), (.bool r8), (.bool r9)] 9 false]))) fun rv2 t2 =>
∃ (n1 : Int), rv2 = (.int .i64 n1) ∧
((decide (n1 < 0)) = true → P (.tuple [(.int .i64 0), (.int .i64 1)]) (AObj.arr [(.str op1)] 1 false :: (t1 ++ (AObj.arr [(.str r1), (.str r2), (.int .i64 r3), r4.av, (.int .i64 r5), (.int .i64 r6), (.bool r7), (.bool r8), (.bool r9)] 9 false :: t2)))) ∧
((decide (n1 < 0)) = false → (0 ≤ n1 ∧
n1 < (r4.len : Int)) ∧
∃ (n2 : Int), rdVar (h ++ (AObj.arr [(.str op1)] 1 false :: (t1 ++ (AObj.arr [(.str r1), (.str r2), (.int .i64 r3), r4.av, (.int .i64 r5), (.int .i64 r6), (.bool r7), (.bool r8), (.bool r9)] 9 false :: t2)))) none r4.b ((r4.o + (n1 : Int).toNat * 2) + 1) = some (.int .i64 n2) ∧
P (.tuple [(.int .i64 n2), (.int .i64 0)]) (AObj.arr [(.str op1)] 1 false :: (t1 ++ (AObj.arr [(.str r1), (.str r2), (.int .i64 r3), r4.av, (.int .i64 r5), (.int .i64 r6), (.bool r7), (.bool r8), (.bool r9)] 9 false :: t2)))))
theorem d14 {M : Model} {name1 : List UInt8} {op1 : List UInt8} {h : Heap} {P : AV → Heap → Prop} (hF : M.fn 14 = some F14) (hd : D14 M name1 op1 h P) : CallE M 14 [(.str name1), (.str op1)] h P :=
  callE_of_wp (hi := (.op ⟨.raw, 0, true, 0⟩ (.op ⟨.raw, 0, true, 0⟩ (.op ⟨.raw, 0, true, 0⟩ (.op ⟨.raw, 0, true, 0⟩ (.op ⟨(.tup [(.agg [.str, .str, (.int .i64), .slc, (.int .i64), (.int .i64), .bool, .bool, .bool]), .bool]), 0, true, 0⟩ (.op ⟨.raw, 0, true, 0⟩ (.op ⟨.raw, 0, true, 0⟩ (.op ⟨.raw, 0, true, 0⟩ (.op ⟨.raw, 0, true, 0⟩ (.op ⟨.raw, 0, true, 0⟩ (.op ⟨.raw, 0, true, 0⟩ (.op ⟨.raw, 0, true, 0⟩ (.op ⟨.raw, 0, true, 0⟩ (.condS (.op ⟨.raw, 0, true, 0⟩ (.op ⟨.raw, 0, true, 0⟩ .nil)) (.op ⟨.raw, 0, true, 0⟩ (.op ⟨.raw, 0, true, 0⟩ (.op ⟨.raw, 0, true, 0⟩ (.op ⟨(.int .i64), 0, true, 0⟩ (.op ⟨.raw, 0, true, 0⟩ (.op ⟨.raw, 0, true, 0⟩ (.op ⟨.raw, 0, true, 0⟩ (.condS (.op ⟨.raw, 0, true, 0⟩ (.op ⟨.raw, 0, true, 0⟩ .nil)) (.op ⟨.raw, 0, true, 0⟩ (.op ⟨.raw, 0, true, 0⟩ (.op ⟨.raw, 0, true, 0⟩ (.op ⟨.raw, 0, true, 0⟩ (.op ⟨.raw, 0, true, 0⟩ (.op ⟨(.int .i64), 5, true, 0⟩ (.op ⟨.raw, 0, true, 0⟩ (.op ⟨.raw, 0, true, 0⟩ .nil))))))))))))))))))))))))))))))) (args := [(.av (.str name1)), (.av (.str op1))]) hF (by simp [oks, SV.ok]) (Eq.mp (α := D14 M name1 op1 h P) (by kernel_rfl) hd)
/-- lockless/progress.free -/
def D15 (M : Model) (name1 : List UInt8) (op1 : List UInt8) (h : Heap) (P : AV → Heap → Prop) : Prop :=
∃ (J1 : Bool → Heap → Prop), (((name1 == [110, 101, 116]) = true → J1 (name1 == [110, 101, 116]) ([] : Heap)) ∧
((name1 == [110, 101, 116]) = false → J1 (name1 == [117, 110, 105]) ([] : Heap))) ∧
(∀ (x1 : Bool) (t1 : Heap), J1 x1 t1 → (x1 = true → P (.bool true) t1) ∧
(x1 = false → ((name1 == [100, 101, 113, 117, 101]) = true → P (.bool (!(op1 == [115, 116, 101, 97, 108]))) t1) ∧
((name1 == [100, 101, 113, 117, 101]) = false → ((name1 == [115, 110, 97, 112]) = true → ((op1 == [117, 112, 100, 97, 116, 101]) = false → ((name1 == [116, 97, 108, 108, 121]) = true → P (.bool (op1 == [103, 101, 116])) t1) ∧
((name1 == [116, 97, 108, 108, 121]) = false → P (.bool false) t1)) ∧
((op1 == [117, 112, 100, 97, 116, 101]) = true → P (.bool true) t1)) ∧
((name1 == [115, 110, 97, 112]) = false → ((name1 == [116, 97, 108, 108, 121]) = true → P (.bool (op1 == [103, 101, 116])) t1) ∧
((name1 == [116, 97, 108, 108, 121]) = false → P (.bool false) t1)))))
theorem d15 {M : Model} {name1 : List UInt8} {op1 : List UInt8} {h : Heap} {P : AV → Heap → Prop} (hF : M.fn 15 = some F15) (hd : D15 M name1 op1 h P) : CallE M 15 [(.str name1), (.str op1)] h P :=
  callE_of_wp (hi := (.op ⟨.raw, 0, true, 0⟩ (.op ⟨.raw, 0, true, 0⟩ (.join ⟨1, [], [(6, .bool)]⟩ (.op ⟨.raw, 0, true, 0⟩ (.op ⟨.raw, 0, true, 0⟩ (.condS .nil (.op ⟨.raw, 0, true, 0⟩ (.op ⟨.raw, 0, true, 0⟩ .nil))))) (.condS (.op ⟨.raw, 0, true, 0⟩ .nil) (.op ⟨.raw, 0, true, 0⟩ (.op ⟨.raw, 0, true, 0⟩ (.condS (.op ⟨.raw, 0, true, 0⟩ (.op ⟨.raw, 0, true, 0⟩ (.op ⟨.raw, 0, true, 0⟩ .nil))) (.op ⟨.raw, 0, true, 0⟩ (.op ⟨.raw, 0, true, 0⟩ (.op ⟨.raw, 0, true, 0⟩ (.split ⟨.raw, 0, true, 0⟩ (.op ⟨.raw, 0, true, 0⟩ (.op ⟨.raw, 0, true, 0⟩ (.op ⟨.raw, 0, true, 0⟩ (.split ⟨.raw, 0, true, 0⟩ (.op ⟨.raw, 0, true, 0⟩ (.op ⟨.raw, 0, true, 0⟩ (.split ⟨.raw, 0, true, 0⟩ (.op ⟨.raw, 0, true, 0⟩ (.op ⟨.raw, 0, true, 0⟩ (.op ⟨.raw, 0, true, 0⟩ (.op ⟨.raw, 0, true, 0⟩ .nil)))) (.op ⟨.raw, 0, true, 0⟩ (.op ⟨.raw, 0, true, 0⟩ (.op ⟨.raw, 0, true, 0⟩ (.op ⟨.raw, 0, true, 0⟩ .nil))))))) (.op ⟨.raw, 0, true, 0⟩ (.op ⟨.raw, 0, true, 0⟩ (.op ⟨.raw, 0, true, 0⟩ (.op ⟨.raw, 0, true, 0⟩ (.op ⟨.raw, 0, true, 0⟩ (.op ⟨.raw, 0, true, 0⟩ (.op ⟨.raw, 0, true, 0⟩ .nil))))))))))) (.op ⟨.raw, 0, true, 0⟩ (.op ⟨.raw, 0, true, 0⟩ (.op ⟨.raw, 0, true, 0⟩ (.op ⟨.raw, 0, true, 0⟩ (.op ⟨.raw, 0, true, 0⟩ (.op ⟨.raw, 0, true, 0⟩ (.split ⟨.raw, 0, true, 0⟩ (.op ⟨.raw, 0, true, 0⟩ (.op ⟨.raw, 0, true, 0⟩ (.op ⟨.raw, 0, true, 0⟩ (.op ⟨.raw, 0, true, 0⟩ .nil)))) (.op ⟨.raw, 0, true, 0⟩ (.op ⟨.raw, 0, true, 0⟩ (.op ⟨.raw, 0, true, 0⟩ (.op ⟨.raw, 0, true, 0⟩ .nil))))))))))))))))))))))) (args := [(.av (.str name1)), (.av (.str op1))]) hF (by simp [oks, SV.ok]) (Eq.mp (α := D15 M name1 op1 h P) (by kernel_rfl) hd)
/-- lockless/lib.Names -/
def D17 (M : Model)  (h : Heap) (P : AV → Heap → Prop) : Prop :=
CallE M 22 [] h fun rv1 t1 =>
∃ (l1 : Slc), rv1 = l1.av ∧
∃ (I1 : Nat → Slc → Int → Heap → Prop), (∃ n1, I1 n1 (Slc.mk 0 0 0 true) (0 : Int) ([] : Heap)) ∧
∀ (n2 : Nat) (l2 : Slc) (x1 : Int) (t2 : Heap), I1 n2 l2 x1 t2 → ((decide (x1 < ((l1.len : Nat) : Int))) = true → (0 ≤ x1 ∧
x1 < (l1.len : Int)) ∧
∃ (x2 : List UInt8) (x3 : List UInt8) (x4 : Int) (x5 : Slc) (x6 : Int) (x7 : Int) (x8 : Bool) (x9 : Bool) (x10 : Bool), rdVar (h ++ (t1 ++ t2)) (some 9) l1.b (l1.o + (x1 : Int).toNat * 9) = some (.agg [(.str x2), (.str x3), (.int .i64 x4), x5.av, (.int .i64 x6), (.int .i64 x7), (.bool x8), (.bool x9), (.bool x10)]) ∧
∃ (old1 : List AV) (g1 : Heap), ((l2.nil = true ∧
old1 = [] ∧
g1 = t2) ∨ (l2.nil = false ∧
∃ (k1 : Nat) (c1 : List AV), l2.b = (h.length + t1.length) + k1 ∧
(t2)[k1]? = some (.arr c1 1 false) ∧
l2.o + l2.n * 1 ≤ c1.length ∧
old1 = (c1.drop l2.o).take (l2.n * 1) ∧
g1 = t2.set k1 .dead)) ∧
(l2.len + 1) * 16 ≤ 140737488355328 ∧
∃ n3, n3 < n2 ∧
I1 n3 (Slc.mk (h.length + (t1.length + (g1.length + (1 + 1)))) 0 (l2.len + 1) false) (IntKind.wrap .i64 (x1 + 1)) (g1 ++ (AObj.arr [(.str x2), (.str x3), (.int .i64 x4), x5.av, (.int .i64 x6), (.int .i64 x7), (.bool x8), (.bool x9), (.bool x10)] 9 false :: (AObj.arr [(.str x2)] 1 false :: [AObj.arr (old1 ++ [(.str x2)]) 1 false])))) ∧
((decide (x1 < ((l1.len : Nat) : Int))) = false → P l2.av (t1 ++ t2))
theorem d17 {M : Model}  {h : Heap} {P : AV → Heap → Prop} (hF : M.fn 17 = some F17) (hd : D17 M  h P) : CallE M 17 [] h P :=
  callE_of_wp (hi := (.op ⟨.raw, 0, true, 0⟩ (.op ⟨.raw, 0, true, 0⟩ (.op ⟨.slc, 0, true, 0⟩ (.op ⟨.raw, 0, true, 0⟩ (.op ⟨.raw, 0, true, 0⟩ (.loop ⟨2, [], [(1, .slc), (6, (.int .i64))]⟩ (.op ⟨.raw, 0, true, 0⟩ (.condS (.op ⟨.raw, 0, true, 0⟩ (.op ⟨(.agg [.str, .str, (.int .i64), .slc, (.int .i64), (.int .i64), .bool, .bool, .bool]), 3, true, 0⟩ (.op ⟨.raw, 0, true, 0⟩ (.op ⟨.raw, 0, true, 0⟩ (.op ⟨.raw, 0, true, 0⟩ (.op ⟨.raw, 0, true, 0⟩ (.op ⟨.raw, 0, true, 0⟩ (.op ⟨.raw, 0, true, 0⟩ (.op ⟨.raw, 2, true, 0⟩ (.op ⟨.raw, 0, true, 0⟩ (.op ⟨.raw, 0, true, 0⟩ (.op ⟨.raw, 0, true, 0⟩ .nil)))))))))))) (.op ⟨.raw, 0, true, 0⟩ (.op ⟨.raw, 0, true, 0⟩ .nil))))))))))) (args := []) hF (by simp [oks, SV.ok]) (Eq.mp (α := D17 M  h P) (by kernel_rfl) hd)
/-- lockless/lib.Calls -/
def D18 (M : Model) (name1 : List UInt8) (h : Heap) (P : AV → Heap → Prop) : Prop :=
CallE M 19 [(.str name1)] h fun rv1 t1 =>
∃ (r1 : List UInt8) (r2 : List UInt8) (r3 : Int) (r4 : Slc) (r5 : Int) (r6 : Int) (r7 : Bool) (r8 : Bool) (r9 : Bool) (r10 : Bool), rv1 = (.tuple [(.agg [(.str r1), (.str r2), (.int .i64 r3), r4.av, (.int .i64 r5), (.int .i64 r6), (.bool r7), (.bool r8), (.bool r9)]), (.bool r10)]) ∧
((!r10) = true → P (.tuple [.nilslice, (.int .i64 5)]) (t1 ++ [AObj.arr [(.str r1), (.str r2), (.int .i64 r3), r4.av, (.int .i64 r5), (.int .i64 r6), (.bool r7), (.bool r8), (.bool r9)] 9 false])) ∧
((!r10) = false → ∃ (I1 : Nat → Slc → Int → Heap → Prop), (∃ n1, I1 n1 (Slc.mk 0 0 0 true) (0 : Int) ([] : Heap)) ∧
∀ (n2 : Nat) (l1 : Slc) (x1 : Int) (t2 : Heap), I1 n2 l1 x1 t2 → ((decide (x1 < ((r4.len : Nat) : Int))) = true → (0 ≤ x1 ∧
x1 < (r4.len : Int)) ∧
∃ (x2 : List UInt8) (x3 : Int), rdVar (h ++ (t1 ++ (AObj.arr [(.str r1), (.str r2), (.int .i64 r3), r4.av, (.int .i64 r5), (.int .i64 r6), (.bool r7), (.bool r8), (.bool r9)] 9 false :: t2))) (some 2) r4.b (r4.o + (x1 : Int).toNat * 2) = some (.agg [(.str x2), (.int .i64 x3)]) ∧
∃ (old1 : List AV) (g1 : Heap), ((l1.nil = true ∧
old1 = [] ∧
g1 = t2) ∨ (l1.nil = false ∧
∃ (k1 : Nat) (c1 : List AV), l1.b = (h.length + (t1.length + 1)) + k1 ∧
(t2)[k1]? = some (.arr c1 1 false) ∧
l1.o + l1.n * 1 ≤ c1.length ∧
old1 = (c1.drop l1.o).take (l1.n * 1) ∧
g1 = t2.set k1 .dead)) ∧
(l1.len + 1) * 16 ≤ 140737488355328 ∧
∃ n3, n3 < n2 ∧
I1 n3 (Slc.mk (h.length + (t1.length + (1 + (g1.length + (1 + 1))))) 0 (l1.len + 1) false) (IntKind.wrap .i64 (x1 + 1)) (g1 ++ (AObj.arr [(.str x2), (.int .i64 x3)] 2 false :: (AObj.arr [(.str x2)] 1 false :: [AObj.arr (old1 ++ [(.str x2)]) 1 false])))) ∧
((decide (x1 < ((r4.len : Nat) : Int))) = false → P (.tuple [l1.av, (.int .i64 0)]) (t1 ++ (AObj.arr [(.str r1), (.str r2), (.int .i64 r3), r4.av, (.int .i64 r5), (.int .i64 r6), (.bool r7), (.bool r8), (.bool r9)] 9 false :: t2))))
theorem d18 {M : Model} {name1 : List UInt8} {h : Heap} {P : AV → Heap → Prop} (hF : M.fn 18 = some F18) (hd : D18 M name1 h P) : CallE M 18 [(.str name1)] h P :=
  callE_of_wp (hi := (.op ⟨.raw, 0, true, 0⟩ (.op ⟨.raw, 0, true, 0⟩ (.op ⟨.raw, 0, true, 0⟩ (.op ⟨(.tup [(.agg [.str, .str, (.int .i64), .slc, (.int .i64), (.int .i64), .bool, .bool, .bool]), .bool]), 0, true, 0⟩ (.op ⟨.raw, 0, true, 0⟩ (.op ⟨.raw, 0, true, 0⟩ (.op ⟨.raw, 0, true, 0⟩ (.op ⟨.raw, 0, true, 0⟩ (.op ⟨.raw, 0, true, 0⟩ (.op ⟨.raw, 0, true, 0⟩ (.op ⟨.raw, 0, true, 0⟩ (.op ⟨.raw, 0, true, 0⟩ (.condS (.op ⟨.raw, 0, true, 0⟩ (.op ⟨.raw, 0, true, 0⟩ .nil)) (.op ⟨.raw, 0, true, 0⟩ (.op ⟨.raw, 0, true, 0⟩ (.op ⟨.raw, 0, true, 0⟩ (.op ⟨.raw, 0, true, 0⟩ (.op ⟨.raw, 0, true, 0⟩ (.loop ⟨3, [], [(6, .slc), (19, (.int .i64))]⟩ (.op ⟨.raw, 0, true, 0⟩ (.condS (.op ⟨.raw, 0, true, 0⟩ (.op ⟨(.agg [.str, (.int .i64)]), 4, true, 0⟩ (.op ⟨.raw, 0, true, 0⟩ (.op ⟨.raw, 0, true, 0⟩ (.op ⟨.raw, 0, true, 0⟩ (.op ⟨.raw, 0, true, 0⟩ (.op ⟨.raw, 0, true, 0⟩ (.op ⟨.raw, 0, true, 0⟩ (.op ⟨.raw, 3, true, 0⟩ (.op ⟨.raw, 0, true, 0⟩ (.op ⟨.raw, 0, true, 0⟩ (.op ⟨.raw, 0, true, 0⟩ .nil)))))))))))) (.op ⟨.raw, 0, true, 0⟩ (.op ⟨.raw, 0, true, 0⟩ (.op ⟨.raw, 0, true, 0⟩ .nil))))))))))))))))))))))))) (args := [(.av (.str name1))]) hF (by simp [oks, SV.ok]) (Eq.mp (α := D18 M name1 h P) (by kernel_rfl) hd)
/-- lockless/lib.find -/
def D19 (M : Model) (name1 : List UInt8) (h : Heap) (P : AV → Heap → Prop) : Prop :=
CallE M 22 [] (h ++ (AObj.arr [(.str name1)] 1 false :: [AObj.arr [(.str []), (.str []), (.int .i64 0), .nilslice, (.int .i64 0), (.int .i64 0), (.bool false), (.bool false), (.bool false)] 9 false])) fun rv1 t1 =>
∃ (l1 : Slc), rv1 = l1.av ∧
CallE M 23 [l1.av, (.fn 24 [(.ptr h.length 0)])] (h ++ (AObj.arr [(.str name1)] 1 false :: (AObj.arr [(.str []), (.str []), (.int .i64 0), .nilslice, (.int .i64 0), (.int .i64 0), (.bool false), (.bool false), (.bool false)] 9 false :: t1))) fun rv2 t2 =>
∃ (n1 : Int), rv2 = (.int .i64 n1) ∧
((decide (n1 < 0)) = true → P (.tuple [(.agg [(.str []), (.str []), (.int .i64 0), .nilslice, (.int .i64 0), (.int .i64 0), (.bool false), (.bool false), (.bool false)]), (.bool false)]) (AObj.arr [(.str name1)] 1 false :: (AObj.arr [(.str []), (.str []), (.int .i64 0), .nilslice, (.int .i64 0), (.int .i64 0), (.bool false), (.bool false), (.bool false)] 9 false :: (t1 ++ t2)))) ∧
((decide (n1 < 0)) = false → (0 ≤ n1 ∧
n1 < (l1.len : Int)) ∧
∃ (x1 : List UInt8) (x2 : List UInt8) (x3 : Int) (x4 : Slc) (x5 : Int) (x6 : Int) (x7 : Bool) (x8 : Bool) (x9 : Bool), rdVar (h ++ (AObj.arr [(.str name1)] 1 false :: (AObj.arr [(.str []), (.str []), (.int .i64 0), .nilslice, (.int .i64 0), (.int .i64 0), (.bool false), (.bool false), (.bool false)] 9 false :: (t1 ++ t2)))) (some 9) l1.b (l1.o + (n1 : Int).toNat * 9) = some (.agg [(.str x1), (.str x2), (.int .i64 x3), x4.av, (.int .i64 x5), (.int .i64 x6), (.bool x7), (.bool x8), (.bool x9)]) ∧
P (.tuple [(.agg [(.str x1), (.str x2), (.int .i64 x3), x4.av, (.int .i64 x5), (.int .i64 x6), (.bool x7), (.bool x8), (.bool x9)]), (.bool true)]) (AObj.arr [(.str name1)] 1 false :: (AObj.arr [(.str x1), (.str x2), (.int .i64 x3), x4.av, (.int .i64 x5), (.int .i64 x6), (.bool x7), (.bool x8), (.bool x9)] 9 false :: (t1 ++ t2))))
theorem d19 {M : Model} {name1 : List UInt8} {h : Heap} {P : AV → Heap → Prop} (hF : M.fn 19 = some F19) (hd : D19 M name1 h P) : CallE M 19 [(.str name1)] h P :=
  callE_of_wp (hi := (.op ⟨.raw, 0, true, 0⟩ (.op ⟨.raw, 0, true, 0⟩ (.op ⟨.raw, 0, true, 0⟩ (.op ⟨.slc, 0, true, 0⟩ (.op ⟨.raw, 0, true, 0⟩ (.op ⟨.raw, 0, true, 0⟩ (.op ⟨.raw, 0, true, 0⟩ (.op ⟨(.int .i64), 0, true, 0⟩ (.op ⟨.raw, 0, true, 0⟩ (.op ⟨.raw, 0, true, 0⟩ (.op ⟨.raw, 0, true, 0⟩ (.condS (.op ⟨.raw, 0, true, 0⟩ (.op ⟨.raw, 0, true, 0⟩ (.op ⟨.raw, 0, true, 0⟩ .nil))) (.op ⟨.raw, 0, true, 0⟩ (.op ⟨.raw, 0, true, 0⟩ (.op ⟨.raw, 0, true, 0⟩ (.op ⟨(.agg [.str, .str, (.int .i64), .slc, (.int .i64), (.int .i64), .bool, .bool, .bool]), 5, true, 0⟩ (.op ⟨.raw, 0, true, 0⟩ (.op ⟨.raw, 0, true, 0⟩ .nil))))))))))))))))))) (args := [(.av (.str name1))]) hF (by simp [oks, SV.ok]) (Eq.mp (α := D19 M name1 h P) (by kernel_rfl) hd)
/-- slices.IndexFunc[[]lockless/lib.call,lockless/lib.call] -/
def D20 (M : Model) (s_1 : Slc) (f1 : Nat) (f1c : List AV) (h : Heap) (P : AV → Heap → Prop) : Prop :=
∃ (I1 : Nat → Int → Heap → Prop), (∃ n1, I1 n1 (0 : Int) ([] : Heap)) ∧
∀ (n2 : Nat) (x1 : Int) (t1 : Heap), I1 n2 x1 t1 → ((decide (x1 < ((s_1.len : Nat) : Int))) = true → (0 ≤ x1 ∧
x1 < (s_1.len : Int)) ∧
∃ (x2 : List UInt8) (x3 : Int), rdVar h (some 2) s_1.b (s_1.o + (x1 : Int).toNat * 2) = some (.agg [(.str x2), (.int .i64 x3)]) ∧
CallE M f1 ([(.agg [(.str x2), (.int .i64 x3)])] ++ f1c) (h ++ t1) fun rv1 t2 =>
∃ (b1 : Bool), rv1 = (.bool b1) ∧
(b1 = true → P (.int .i64 x1) (t1 ++ t2)) ∧
(b1 = false → ∃ n3, n3 < n2 ∧
I1 n3 (IntKind.wrap .i64 (x1 + 1)) (t1 ++ t2))) ∧
((decide (x1 < ((s_1.len : Nat) : Int))) = false → P (.int .i64 (-1)) t1)
theorem d20 {M : Model} {s_1 : Slc} {f1 : Nat} {f1c : List AV} {h : Heap} {P : AV → Heap → Prop} (hF : M.fn 20 = some F20) (hd : D20 M s_1 f1 f1c h P) : CallE M 20 [s_1.av, (.fn f1 f1c)] h P :=
  callE_of_wp (hi := (.op ⟨.raw, 0, true, 0⟩ (.op ⟨.raw, 0, true, 0⟩ (.op ⟨.raw, 0, true, 0⟩ (.op ⟨.raw, 0, true, 0⟩ (.loop ⟨1, [], [(8, (.int .i64))]⟩ (.op ⟨.raw, 0, true, 0⟩ (.condS (.op ⟨.raw, 0, true, 0⟩ (.op ⟨.raw, 0, true, 0⟩ (.op ⟨.raw, 0, true, 0⟩ (.op ⟨.raw, 0, true, 0⟩ (.op ⟨.raw, 0, true, 0⟩ (.op ⟨.raw, 0, true, 0⟩ (.op ⟨(.agg [.str, (.int .i64)]), 1, true, 0⟩ (.op ⟨.bool, 0, true, 0⟩ (.condS (.op ⟨.raw, 0, true, 0⟩ (.op ⟨.raw, 0, true, 0⟩ .nil)) (.op ⟨.raw, 0, true, 0⟩ (.op ⟨.raw, 0, true, 0⟩ .nil))))))))))) (.op ⟨.raw, 0, true, 0⟩ .nil))))))))) (args := [(.slc s_1), (.av (.fn f1 f1c))]) hF (by simp [oks, SV.ok]) (Eq.mp (α := D20 M s_1 f1 f1c h P) (by kernel_rfl) hd)
/-- lockless/lib.Takes$1 -/
def D21 (M : Model) (c1 : List UInt8) (c2 : Int) (a11 : Nat) (a11o : Nat) (h : Heap) (P : AV → Heap → Prop) : Prop :=
∃ (w1 : List UInt8), rdVar h none a11 a11o = some (.str w1) ∧
P (.bool (c1 == w1)) [AObj.arr [(.str c1), (.int .i64 c2)] 2 false]
theorem d21 {M : Model} {c1 : List UInt8} {c2 : Int} {a11 : Nat} {a11o : Nat} {h : Heap} {P : AV → Heap → Prop} (hF : M.fn 21 = some F21) (hd : D21 M c1 c2 a11 a11o h P) : CallE M 21 [(.agg [(.str c1), (.int .i64 c2)]), (.ptr a11 a11o)] h P :=
  callE_of_wp (hi := (.op ⟨.raw, 0, true, 0⟩ (.op ⟨.raw, 0, true, 0⟩ (.op ⟨.raw, 0, true, 0⟩ (.op ⟨.raw, 0, true, 0⟩ (.op ⟨.str, 1, true, 0⟩ (.op ⟨.raw, 0, true, 0⟩ (.op ⟨.raw, 0, true, 0⟩ .nil)))))))) (args := [(.agg [(.av (.str c1)), (.av (.int .i64 c2))]), (.av (.ptr a11 a11o))]) hF (by simp [oks, SV.ok]) (Eq.mp (α := D21 M c1 c2 a11 a11o h P) (by kernel_rfl) hd)
/-- slices.IndexFunc[[]lockless/lib.entry,lockless/lib.entry] -/
def D23 (M : Model) (s_1 : Slc) (f1 : Nat) (f1c : List AV) (h : Heap) (P : AV → Heap → Prop) : Prop :=
∃ (I1 : Nat → Int → Heap → Prop), (∃ n1, I1 n1 (0 : Int) ([] : Heap)) ∧
∀ (n2 : Nat) (x1 : Int) (t1 : Heap), I1 n2 x1 t1 → ((decide (x1 < ((s_1.len : Nat) : Int))) = true → (0 ≤ x1 ∧
x1 < (s_1.len : Int)) ∧
∃ (x2 : List UInt8) (x3 : List UInt8) (x4 : Int) (x5 : Slc) (x6 : Int) (x7 : Int) (x8 : Bool) (x9 : Bool) (x10 : Bool), rdVar h (some 9) s_1.b (s_1.o + (x1 : Int).toNat * 9) = some (.agg [(.str x2), (.str x3), (.int .i64 x4), x5.av, (.int .i64 x6), (.int .i64 x7), (.bool x8), (.bool x9), (.bool x10)]) ∧
CallE M f1 ([(.agg [(.str x2), (.str x3), (.int .i64 x4), x5.av, (.int .i64 x6), (.int .i64 x7), (.bool x8), (.bool x9), (.bool x10)])] ++ f1c) (h ++ t1) fun rv1 t2 =>
∃ (b1 : Bool), rv1 = (.bool b1) ∧
(b1 = true → P (.int .i64 x1) (t1 ++ t2)) ∧
(b1 = false → ∃ n3, n3 < n2 ∧
I1 n3 (IntKind.wrap .i64 (x1 + 1)) (t1 ++ t2))) ∧
((decide (x1 < ((s_1.len : Nat) : Int))) = false → P (.int .i64 (-1)) t1)
theorem d23 {M : Model} {s_1 : Slc} {f1 : Nat} {f1c : List AV} {h : Heap} {P : AV → Heap → Prop} (hF : M.fn 23 = some F23) (hd : D23 M s_1 f1 f1c h P) : CallE M 23 [s_1.av, (.fn f1 f1c)] h P :=
  callE_of_wp (hi := (.op ⟨.raw, 0, true, 0⟩ (.op ⟨.raw, 0, true, 0⟩ (.op ⟨.raw, 0, true, 0⟩ (.op ⟨.raw, 0, true, 0⟩ (.loop ⟨1, [], [(8, (.int .i64))]⟩ (.op ⟨.raw, 0, true, 0⟩ (.condS (.op ⟨.raw, 0, true, 0⟩ (.op ⟨.raw, 0, true, 0⟩ (.op ⟨.raw, 0, true, 0⟩ (.op ⟨.raw, 0, true, 0⟩ (.op ⟨.raw, 0, true, 0⟩ (.op ⟨.raw, 0, true, 0⟩ (.op ⟨(.agg [.str, .str, (.int .i64), .slc, (.int .i64), (.int .i64), .bool, .bool, .bool]), 1, true, 0⟩ (.op ⟨.bool, 0, true, 0⟩ (.condS (.op ⟨.raw, 0, true, 0⟩ (.op ⟨.raw, 0, true, 0⟩ .nil)) (.op ⟨.raw, 0, true, 0⟩ (.op ⟨.raw, 0, true, 0⟩ .nil))))))))))) (.op ⟨.raw, 0, true, 0⟩ .nil))))))))) (args := [(.slc s_1), (.av (.fn f1 f1c))]) hF (by simp [oks, SV.ok]) (Eq.mp (α := D23 M s_1 f1 f1c h P) (by kernel_rfl) hd)
/-- lockless/lib.find$1 -/
def D24 (M : Model) (e_1 : List UInt8) (e_2 : List UInt8) (e_3 : Int) (e_4 : Slc) (e_5 : Int) (e_6 : Int) (e_7 : Bool) (e_8 : Bool) (e_9 : Bool) (a11 : Nat) (a11o : Nat) (h : Heap) (P : AV → Heap → Prop) : Prop :=
∃ (w1 : List UInt8), rdVar h none a11 a11o = some (.str w1) ∧
P (.bool (e_1 == w1)) [AObj.arr [(.str e_1), (.str e_2), (.int .i64 e_3), e_4.av, (.int .i64 e_5), (.int .i64 e_6), (.bool e_7), (.bool e_8), (.bool e_9)] 9 false]
theorem d24 {M : Model} {e_1 : List UInt8} {e_2 : List UInt8} {e_3 : Int} {e_4 : Slc} {e_5 : Int} {e_6 : Int} {e_7 : Bool} {e_8 : Bool} {e_9 : Bool} {a11 : Nat} {a11o : Nat} {h : Heap} {P : AV → Heap → Prop} (hF : M.fn 24 = some F24) (hd : D24 M e_1 e_2 e_3 e_4 e_5 e_6 e_7 e_8 e_9 a11 a11o h P) : CallE M 24 [(.agg [(.str e_1), (.str e_2), (.int .i64 e_3), e_4.av, (.int .i64 e_5), (.int .i64 e_6), (.bool e_7), (.bool e_8), (.bool e_9)]), (.ptr a11 a11o)] h P :=
  callE_of_wp (hi := (.op ⟨.raw, 0, true, 0⟩ (.op ⟨.raw, 0, true, 0⟩ (.op ⟨.raw, 0, true, 0⟩ (.op ⟨.raw, 0, true, 0⟩ (.op ⟨.str, 1, true, 0⟩ (.op ⟨.raw, 0, true, 0⟩ (.op ⟨.raw, 0, true, 0⟩ .nil)))))))) (args := [(.agg [(.av (.str e_1)), (.av (.str e_2)), (.av (.int .i64 e_3)), (.slc e_4), (.av (.int .i64 e_5)), (.av (.int .i64 e_6)), (.av (.bool e_7)), (.av (.bool e_8)), (.av (.bool e_9))]), (.av (.ptr a11 a11o))]) hF (by simp [oks, SV.ok]) (Eq.mp (α := D24 M e_1 e_2 e_3 e_4 e_5 e_6 e_7 e_8 e_9 a11 a11o h P) (by kernel_rfl) hd)
end Go.Proofs.Ythedodaghjpdoaa.Mini
