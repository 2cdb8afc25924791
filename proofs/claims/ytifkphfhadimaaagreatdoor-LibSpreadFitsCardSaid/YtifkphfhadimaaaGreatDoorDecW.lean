/- What is left to be shown of functions of the seat: printed by this session's own program; the kernel finds each to be what the residual machine says. -/
import Derived.Test.YtifkphfhadimaaaGreatDoorMiniD
import Derived.Test.YtifkphfhadimaaaGreatDoorAbsG4
import Derived.Test.YtifkphfhadimaaaGreatDoorAbsG7
set_option linter.unusedVariables false
set_option linter.unusedSimpArgs false
set_option maxRecDepth 100000
namespace Go.Proofs.YtifkphfhadimaaaGreatDoor.Mini
open Go.Abs Mini
/-- lockless/locklesslaw16.LibSpreadFits -/
def D14 (M : Model) (which1 : Int) (numbers1 : Slc) (more1 : Int) (h : Heap) (P : AV → Heap → Prop) : Prop :=
CallE M 24 [] h fun rv1 t1 =>
∃ (b1 : Bool), rv1 = (.bool b1) ∧
((!b1) = true → P (.bool false) t1) ∧
((!b1) = false → ∃ (J1 : Slc → Heap → Prop), (∃ (I1 : Nat → Slc → Int → Heap → Prop), (∃ n1, I1 n1 (Slc.mk 0 0 0 true) (0 : Int) ([] : Heap)) ∧
∀ (n2 : Nat) (l1 : Slc) (i1 : Int) (t2 : Heap), I1 n2 l1 i1 t2 → ((decide (i1 < ((numbers1.len : Nat) : Int))) = true → ((decide (i1 < 23)) = true → (0 ≤ i1 ∧
i1 < (numbers1.len : Int)) ∧
∃ (n4 : Int), rdVar h none numbers1.b (numbers1.o + (i1 : Int).toNat * 1) = some (.int .i64 n4) ∧
∃ (old1 : List AV) (g1 : Heap), ((l1.nil = true ∧
old1 = [] ∧
g1 = t2) ∨ (l1.nil = false ∧
∃ (k1 : Nat) (c1 : List AV), l1.b = (h.length + t1.length) + k1 ∧
(t2)[k1]? = some (.arr c1 1 false) ∧
l1.o + l1.n * 1 ≤ c1.length ∧
old1 = (c1.drop l1.o).take (l1.n * 1) ∧
g1 = t2.set k1 .dead)) ∧
(l1.len + 1) * 8 ≤ 140737488355328 ∧
∃ n3, n3 < n2 ∧
I1 n3 (Slc.mk (h.length + (t1.length + (g1.length + 1))) 0 (l1.len + 1) false) (IntKind.wrap .i64 (i1 + 1)) (g1 ++ (AObj.arr [(.int .i64 n4)] 1 false :: [AObj.arr (old1 ++ [(.int .i64 n4)]) 1 false]))) ∧
((decide (i1 < 23)) = false → J1 l1 t2)) ∧
((decide (i1 < ((numbers1.len : Nat) : Int))) = false → J1 l1 t2)) ∧
(∀ (l2 : Slc) (t3 : Heap), J1 l2 t3 →
CallE M 26 [(.int .i64 which1)] (h ++ (t1 ++ t3)) fun rv2 t4 =>
∃ (w1 : List UInt8), rv2 = (.str w1) ∧
CallE M 46 [(.str w1), l2.av] (h ++ (t1 ++ (t3 ++ t4))) fun rv3 t5 =>
∃ (r1 : Slc) (r2 : Int), rv3 = (.tuple [r1.av, (.int .i64 r2)]) ∧
∃ (old2 : List AV) (g2 : Heap), ((l2.nil = true ∧
old2 = [] ∧
g2 = t3) ∨ (l2.nil = false ∧
∃ (k2 : Nat) (c2 : List AV), l2.b = (h.length + t1.length) + k2 ∧
(t3)[k2]? = some (.arr c2 1 false) ∧
l2.o + l2.n * 1 ≤ c2.length ∧
old2 = (c2.drop l2.o).take (l2.n * 1) ∧
g2 = t3.set k2 .dead)) ∧
(l2.len + 1) * 8 ≤ 140737488355328 ∧
CallE M 46 [(.str w1), (.slice (h.length + (t1.length + (g2.length + (t4.length + (t5.length + 1))))) 0 (l2.len + 1))] (h ++ (t1 ++ (g2 ++ (t4 ++ (t5 ++ (AObj.arr [(.int .i64 more1)] 1 false :: [AObj.arr (old2 ++ [(.int .i64 more1)]) 1 false])))))) fun rv4 t6 =>
∃ (r3 : Slc) (r4 : Int), rv4 = (.tuple [r3.av, (.int .i64 r4)]) ∧
((((r1.len : Nat) : Int) != 3) = false → ((((r3.len : Nat) : Int) != 3) = false → ((r2 != 0) = false → ((r4 != 0) = true → P (.bool false) (t1 ++ (g2 ++ (t4 ++ (t5 ++ (AObj.arr [(.int .i64 more1)] 1 false :: (AObj.arr (old2 ++ [(.int .i64 more1)]) 1 false :: t6))))))) ∧
((r4 != 0) = false →
CallE M 39 [(.str w1), r1.av] (h ++ (t1 ++ (g2 ++ (t4 ++ (t5 ++ (AObj.arr [(.int .i64 more1)] 1 false :: (AObj.arr (old2 ++ [(.int .i64 more1)]) 1 false :: t6))))))) fun rv5 t7 =>
∃ (r5 : Bool) (r6 : Int), rv5 = (.tuple [(.bool r5), (.int .i64 r6)]) ∧
CallE M 39 [(.str w1), r3.av] (h ++ (t1 ++ (g2 ++ (t4 ++ (t5 ++ (AObj.arr [(.int .i64 more1)] 1 false :: (AObj.arr (old2 ++ [(.int .i64 more1)]) 1 false :: (t6 ++ t7)))))))) fun rv6 t8 =>
∃ (r7 : Bool) (r8 : Int), rv6 = (.tuple [(.bool r7), (.int .i64 r8)]) ∧
∃ (I2 : Nat → Int → Int → Heap → Prop), (∃ n5, I2 n5 (0 : Int) (0 : Int) ([] : Heap)) ∧
∀ (n6 : Nat) (extra1 : Int) (t9 : Int) (t10 : Heap), I2 n6 extra1 t9 t10 → ((decide (t9 < 3)) = true → (0 ≤ t9 ∧
t9 < (r3.len : Int)) ∧
∃ (l3 : Slc), rdVar (h ++ (t1 ++ (g2 ++ (t4 ++ (t5 ++ (AObj.arr [(.int .i64 more1)] 1 false :: (AObj.arr (old2 ++ [(.int .i64 more1)]) 1 false :: (t6 ++ (t7 ++ (t8 ++ t10)))))))))) none r3.b (r3.o + (t9 : Int).toNat * 1) = some l3.av ∧
(0 ≤ t9 ∧
t9 < (r1.len : Int)) ∧
∃ (l4 : Slc), rdVar (h ++ (t1 ++ (g2 ++ (t4 ++ (t5 ++ (AObj.arr [(.int .i64 more1)] 1 false :: (AObj.arr (old2 ++ [(.int .i64 more1)]) 1 false :: (t6 ++ (t7 ++ (t8 ++ t10)))))))))) none r1.b (r1.o + (t9 : Int).toNat * 1) = some l4.av ∧
((decide (((l3.len : Nat) : Int) < ((l4.len : Nat) : Int))) = false → (0 ≤ t9 ∧
t9 < (r1.len : Int)) ∧
∃ (l5 : Slc), rdVar (h ++ (t1 ++ (g2 ++ (t4 ++ (t5 ++ (AObj.arr [(.int .i64 more1)] 1 false :: (AObj.arr (old2 ++ [(.int .i64 more1)]) 1 false :: (t6 ++ (t7 ++ (t8 ++ t10)))))))))) none r1.b (r1.o + (t9 : Int).toNat * 1) = some l5.av ∧
(0 ≤ t9 ∧
t9 < (r3.len : Int)) ∧
∃ (l6 : Slc), rdVar (h ++ (t1 ++ (g2 ++ (t4 ++ (t5 ++ (AObj.arr [(.int .i64 more1)] 1 false :: (AObj.arr (old2 ++ [(.int .i64 more1)]) 1 false :: (t6 ++ (t7 ++ (t8 ++ t10)))))))))) none r3.b (r3.o + (t9 : Int).toNat * 1) = some l6.av ∧
(0 ≤ t9 ∧
t9 < (r1.len : Int)) ∧
∃ (l7 : Slc), rdVar (h ++ (t1 ++ (g2 ++ (t4 ++ (t5 ++ (AObj.arr [(.int .i64 more1)] 1 false :: (AObj.arr (old2 ++ [(.int .i64 more1)]) 1 false :: (t6 ++ (t7 ++ (t8 ++ t10)))))))))) none r1.b (r1.o + (t9 : Int).toNat * 1) = some l7.av ∧
(l6.nil = false → ∃ (c3 : List AV) (c3r : Bool), ((h ++ (t1 ++ (g2 ++ (t4 ++ (t5 ++ (AObj.arr [(.int .i64 more1)] 1 false :: (AObj.arr (old2 ++ [(.int .i64 more1)]) 1 false :: (t6 ++ (t7 ++ (t8 ++ t10)))))))))))[l6.b]? = some (.arr c3 3 c3r)) ∧
(0 ≤ (0 : Int) ∧
(0 : Int) ≤ ((l7.len : Nat) : Int) ∧
((l7.len : Nat) : Int) ≤ ((l6.len : Nat) : Int)) ∧
CallE M 48 [l5.av, (Slc.mk l6.b (l6.o + Int.toNat (0 : Int) * 3) (Int.toNat ((l7.len : Nat) : Int) - Int.toNat (0 : Int)) l6.nil).av] (h ++ (t1 ++ (g2 ++ (t4 ++ (t5 ++ (AObj.arr [(.int .i64 more1)] 1 false :: (AObj.arr (old2 ++ [(.int .i64 more1)]) 1 false :: (t6 ++ (t7 ++ (t8 ++ t10)))))))))) fun rv7 t11 =>
∃ (b2 : Bool), rv7 = (.bool b2) ∧
((!b2) = true → P (.bool false) (t1 ++ (g2 ++ (t4 ++ (t5 ++ (AObj.arr [(.int .i64 more1)] 1 false :: (AObj.arr (old2 ++ [(.int .i64 more1)]) 1 false :: (t6 ++ (t7 ++ (t8 ++ (t10 ++ t11))))))))))) ∧
((!b2) = false → (0 ≤ t9 ∧
t9 < (r3.len : Int)) ∧
∃ (l8 : Slc), rdVar (h ++ (t1 ++ (g2 ++ (t4 ++ (t5 ++ (AObj.arr [(.int .i64 more1)] 1 false :: (AObj.arr (old2 ++ [(.int .i64 more1)]) 1 false :: (t6 ++ (t7 ++ (t8 ++ (t10 ++ t11))))))))))) none r3.b (r3.o + (t9 : Int).toNat * 1) = some l8.av ∧
(0 ≤ t9 ∧
t9 < (r1.len : Int)) ∧
∃ (l9 : Slc), rdVar (h ++ (t1 ++ (g2 ++ (t4 ++ (t5 ++ (AObj.arr [(.int .i64 more1)] 1 false :: (AObj.arr (old2 ++ [(.int .i64 more1)]) 1 false :: (t6 ++ (t7 ++ (t8 ++ (t10 ++ t11))))))))))) none r1.b (r1.o + (t9 : Int).toNat * 1) = some l9.av ∧
∃ n7, n7 < n6 ∧
I2 n7 (IntKind.wrap .i64 (extra1 + (IntKind.wrap .i64 (((l8.len : Nat) : Int) - ((l9.len : Nat) : Int))))) (IntKind.wrap .i64 (t9 + 1)) (t10 ++ t11))) ∧
((decide (((l3.len : Nat) : Int) < ((l4.len : Nat) : Int))) = true → P (.bool false) (t1 ++ (g2 ++ (t4 ++ (t5 ++ (AObj.arr [(.int .i64 more1)] 1 false :: (AObj.arr (old2 ++ [(.int .i64 more1)]) 1 false :: (t6 ++ (t7 ++ (t8 ++ t10))))))))))) ∧
((decide (t9 < 3)) = false → (r5 = true → (r7 = true → ((r6 == 0) = true → ((r8 == 0) = true → P (.bool (decide (extra1 ≤ 1))) (t1 ++ (g2 ++ (t4 ++ (t5 ++ (AObj.arr [(.int .i64 more1)] 1 false :: (AObj.arr (old2 ++ [(.int .i64 more1)]) 1 false :: (t6 ++ (t7 ++ (t8 ++ t10)))))))))) ∧
((r8 == 0) = false → P (.bool false) (t1 ++ (g2 ++ (t4 ++ (t5 ++ (AObj.arr [(.int .i64 more1)] 1 false :: (AObj.arr (old2 ++ [(.int .i64 more1)]) 1 false :: (t6 ++ (t7 ++ (t8 ++ t10))))))))))) ∧
((r6 == 0) = false → P (.bool false) (t1 ++ (g2 ++ (t4 ++ (t5 ++ (AObj.arr [(.int .i64 more1)] 1 false :: (AObj.arr (old2 ++ [(.int .i64 more1)]) 1 false :: (t6 ++ (t7 ++ (t8 ++ t10))))))))))) ∧
(r7 = false → P (.bool false) (t1 ++ (g2 ++ (t4 ++ (t5 ++ (AObj.arr [(.int .i64 more1)] 1 false :: (AObj.arr (old2 ++ [(.int .i64 more1)]) 1 false :: (t6 ++ (t7 ++ (t8 ++ t10))))))))))) ∧
(r5 = false → P (.bool false) (t1 ++ (g2 ++ (t4 ++ (t5 ++ (AObj.arr [(.int .i64 more1)] 1 false :: (AObj.arr (old2 ++ [(.int .i64 more1)]) 1 false :: (t6 ++ (t7 ++ (t8 ++ t10))))))))))))) ∧
((r2 != 0) = true → P (.bool false) (t1 ++ (g2 ++ (t4 ++ (t5 ++ (AObj.arr [(.int .i64 more1)] 1 false :: (AObj.arr (old2 ++ [(.int .i64 more1)]) 1 false :: t6)))))))) ∧
((((r3.len : Nat) : Int) != 3) = true → P (.bool false) (t1 ++ (g2 ++ (t4 ++ (t5 ++ (AObj.arr [(.int .i64 more1)] 1 false :: (AObj.arr (old2 ++ [(.int .i64 more1)]) 1 false :: t6)))))))) ∧
((((r1.len : Nat) : Int) != 3) = true → P (.bool false) (t1 ++ (g2 ++ (t4 ++ (t5 ++ (AObj.arr [(.int .i64 more1)] 1 false :: (AObj.arr (old2 ++ [(.int .i64 more1)]) 1 false :: t6)))))))))
theorem d14 {M : Model} {which1 : Int} {numbers1 : Slc} {more1 : Int} {h : Heap} {P : AV → Heap → Prop} (hF : M.fn 14 = some F14) (hd : D14 M which1 numbers1 more1 h P) : CallE M 14 [(.int .i64 which1), numbers1.av, (.int .i64 more1)] h P :=
  callE_of_wp (hi := (.op ⟨.raw, 0, true, 0⟩ (.op ⟨.bool, 0, true, 0⟩ (.op ⟨.raw, 0, true, 0⟩ (.condS (.op ⟨.raw, 0, true, 0⟩ .nil) (.op ⟨.raw, 0, true, 0⟩ (.join ⟨2, [], [(7, .slc)]⟩ (.op ⟨.raw, 0, true, 0⟩ (.loop ⟨2, [], [(7, .slc), (8, (.int .i64))]⟩ (rs 5 (.split ⟨.raw, 0, true, 0⟩ (rs 2 (.condS (rs 4 (.op ⟨(.int .i64), 1, true, 0⟩ (.op ⟨.raw, 0, true, 0⟩ (.op ⟨.raw, 2, true, 0⟩ (rs 4 .nil))))) .nil)) (rs 2 (.condL .nil)))))) (.op ⟨.raw, 0, true, 0⟩ (.op ⟨.str, 0, true, 0⟩ (rs 3 (.op ⟨(.tup [.slc, (.int .i64)]), 0, true, 0⟩ (rs 9 (.op ⟨.raw, 2, true, 0⟩ (.op ⟨(.tup [.slc, (.int .i64)]), 0, true, 0⟩ (rs 9 (.split ⟨.raw, 0, true, 0⟩ (rs 4 (.split ⟨.raw, 0, true, 0⟩ (rs 3 (.split ⟨.raw, 0, true, 0⟩ (rs 2 (.condS (.op ⟨.raw, 0, true, 0⟩ .nil) (rs 2 (.op ⟨(.tup [.bool, (.int .i64)]), 0, true, 0⟩ (rs 7 (.op ⟨(.tup [.bool, (.int .i64)]), 0, true, 0⟩ (rs 7 (.loop ⟨10, [], [(18, (.int .i64)), (19, (.int .i64))]⟩ (rs 2 (.condS (rs 3 (.op ⟨.slc, 11, true, 0⟩ (rs 4 (.op ⟨.slc, 11, true, 0⟩ (rs 3 (.split ⟨.raw, 0, true, 0⟩ (rs 2 (.op ⟨.slc, 11, true, 0⟩ (rs 3 (.op ⟨.slc, 11, true, 0⟩ (rs 3 (.op ⟨.slc, 11, true, 0⟩ (.op ⟨.raw, 0, true, 0⟩ (.op ⟨.raw, 11, true, 0⟩ (.op ⟨.bool, 0, true, 0⟩ (rs 2 (.condS (.op ⟨.raw, 0, true, 0⟩ .nil) (rs 4 (.op ⟨.slc, 12, true, 0⟩ (rs 4 (.op ⟨.slc, 12, true, 0⟩ (rs 7 .nil)))))))))))))))) (rs 16 (.condL (.op ⟨.raw, 0, true, 0⟩ .nil))))))))) (rs 2 (.split ⟨.raw, 0, true, 0⟩ (rs 2 (.split ⟨.raw, 0, true, 0⟩ (rs 3 (.split ⟨.raw, 0, true, 0⟩ (rs 3 (.split ⟨.raw, 0, true, 0⟩ (rs 3 .nil) (rs 3 .nil))) (rs 7 .nil))) (rs 11 .nil))) (rs 14 .nil))))))))))))) (rs 2 (.condL (.op ⟨.raw, 0, true, 0⟩ .nil))))) (rs 6 (.condL (.op ⟨.raw, 0, true, 0⟩ .nil))))) (rs 11 (.condL (.op ⟨.raw, 0, true, 0⟩ .nil))))))))))))))))))) (args := [(.av (.int .i64 which1)), (.slc numbers1), (.av (.int .i64 more1))]) hF (by simp [oks, SV.ok]) (Eq.mp (α := D14 M which1 numbers1 more1 h P) (by kernel_rfl) hd)
/-- lockless/lib.Spread -/
def D46 (M : Model) (name1 : List UInt8) (numbers1 : Slc) (h : Heap) (P : AV → Heap → Prop) : Prop :=
CallE M 74 [(.str name1)] h fun rv1 t1 =>
∃ (r1 : List UInt8) (r2 : List UInt8) (r3 : Int) (r4 : Slc) (r5 : Int) (r6 : Int) (r7 : Bool) (r8 : Bool) (r9 : Bool) (r10 : Bool), rv1 = (.tuple [(.agg [(.str r1), (.str r2), (.int .i64 r3), r4.av, (.int .i64 r5), (.int .i64 r6), (.bool r7), (.bool r8), (.bool r9)]), (.bool r10)]) ∧
((!r10) = true → P (.tuple [.nilslice, (.int .i64 5)]) (t1 ++ [AObj.arr [(.str r1), (.str r2), (.int .i64 r3), r4.av, (.int .i64 r5), (.int .i64 r6), (.bool r7), (.bool r8), (.bool r9)] 9 false])) ∧
((!r10) = false → ((decide (((numbers1.len : Nat) : Int) > 24)) = true → P (.tuple [.nilslice, (.int .i64 1)]) (t1 ++ [AObj.arr [(.str r1), (.str r2), (.int .i64 r3), r4.av, (.int .i64 r5), (.int .i64 r6), (.bool r7), (.bool r8), (.bool r9)] 9 false])) ∧
((decide (((numbers1.len : Nat) : Int) > 24)) = false → (0 ≤ (3 : Int) ∧
(3 : Int) = 3 ∧
(3 : Int) * ((24 : Nat) : Int) ≤ 140737488355328) ∧
∃ (I1 : Nat → Int → Int → (List AV) → Heap → Prop), (∃ n1, I1 n1 (0 : Int) (0 : Int) [.nilslice, .nilslice, .nilslice] ([] : Heap)) ∧
∀ (n3 : Nat) (n2 : Int) (x1 : Int) (c1 : List AV) (t2 : Heap), I1 n3 n2 x1 c1 t2 → ((decide (x1 < ((numbers1.len : Nat) : Int))) = true → (0 ≤ x1 ∧
x1 < (numbers1.len : Int)) ∧
∃ (n5 : Int), rdVar h none numbers1.b (numbers1.o + (x1 : Int).toNat * 1) = some (.int .i64 n5) ∧
CallE M 99 [(.int .i64 n5), (.int .i64 3)] (h ++ (t1 ++ (AObj.arr [(.str r1), (.str r2), (.int .i64 r3), r4.av, (.int .i64 r5), (.int .i64 r6), (.bool r7), (.bool r8), (.bool r9)] 9 false :: (AObj.arr c1 1 false :: (t2 ++ [AObj.arr [(.int .i64 n5)] 1 false]))))) fun rv2 t3 =>
∃ (r11 : Int) (r12 : Int), rv2 = (.tuple [(.int .i64 r11), (.int .i64 r12)]) ∧
CallE M 99 [(.int .i64 r11), (.int .i64 ((r4.len : Nat) : Int))] (h ++ (t1 ++ (AObj.arr [(.str r1), (.str r2), (.int .i64 r3), r4.av, (.int .i64 r5), (.int .i64 r6), (.bool r7), (.bool r8), (.bool r9)] 9 false :: (AObj.arr c1 1 false :: (t2 ++ (AObj.arr [(.int .i64 n5)] 1 false :: t3)))))) fun rv3 t4 =>
∃ (r13 : Int) (r14 : Int), rv3 = (.tuple [(.int .i64 r13), (.int .i64 r14)]) ∧
(0 ≤ r14 ∧
r14 < (r4.len : Int)) ∧
∃ (w1 : List UInt8), rdVar (h ++ (t1 ++ (AObj.arr [(.str r1), (.str r2), (.int .i64 r3), r4.av, (.int .i64 r5), (.int .i64 r6), (.bool r7), (.bool r8), (.bool r9)] 9 false :: (AObj.arr c1 1 false :: (t2 ++ (AObj.arr [(.int .i64 n5)] 1 false :: (t3 ++ t4))))))) none r4.b (r4.o + (r14 : Int).toNat * 2) = some (.str w1) ∧
∃ (J1 : (List UInt8) → Int → Int → Heap → Prop), ((0 ≤ r14 ∧
r14 < (r4.len : Int)) ∧
∃ (n6 : Int), rdVar (h ++ (t1 ++ (AObj.arr [(.str r1), (.str r2), (.int .i64 r3), r4.av, (.int .i64 r5), (.int .i64 r6), (.bool r7), (.bool r8), (.bool r9)] 9 false :: (AObj.arr c1 1 false :: (t2 ++ (AObj.arr [(.int .i64 n5)] 1 false :: (t3 ++ (t4 ++ [AObj.arr [(.str w1), (.int .i64 0), (.int .i64 0)] 3 false])))))))) none r4.b ((r4.o + (r14 : Int).toNat * 2) + 1) = some (.int .i64 n6) ∧
((decide (n6 > 0)) = true →
CallE M 100 [(.int .i64 60), (.ptr (h.length + (t1.length + (1 + (1 + t2.length)))) 0), (.ptr (h.length + t1.length) 0)] (h ++ (t1 ++ (AObj.arr [(.str r1), (.str r2), (.int .i64 r3), r4.av, (.int .i64 r5), (.int .i64 r6), (.bool r7), (.bool r8), (.bool r9)] 9 false :: (AObj.arr c1 1 false :: (t2 ++ (AObj.arr [(.int .i64 n5)] 1 false :: (t3 ++ (t4 ++ [AObj.arr [(.str w1), (.int .i64 0), (.int .i64 0)] 3 false])))))))) fun rv4 t5 =>
∃ (n7 : Int), rv4 = (.int .i64 n7) ∧
J1 (w1 : List UInt8) n7 (0 : Int) t5) ∧
((decide (n6 > 0)) = false → J1 (w1 : List UInt8) (0 : Int) (0 : Int) ([] : Heap))) ∧
(∀ (c2 : List UInt8) (c3 : Int) (c4 : Int) (t6 : Heap), J1 c2 c3 c4 t6 → ∃ (J2 : (List UInt8) → Int → Int → Heap → Prop), ((0 ≤ r14 ∧
r14 < (r4.len : Int)) ∧
∃ (n8 : Int), rdVar (h ++ (t1 ++ (AObj.arr [(.str r1), (.str r2), (.int .i64 r3), r4.av, (.int .i64 r5), (.int .i64 r6), (.bool r7), (.bool r8), (.bool r9)] 9 false :: (AObj.arr c1 1 false :: (t2 ++ (AObj.arr [(.int .i64 n5)] 1 false :: (t3 ++ (t4 ++ (AObj.arr [(.str c2), (.int .i64 c3), (.int .i64 c4)] 3 false :: t6))))))))) none r4.b ((r4.o + (r14 : Int).toNat * 2) + 1) = some (.int .i64 n8) ∧
((decide (n8 > 1)) = true →
CallE M 100 [(.int .i64 240), (.ptr (h.length + (t1.length + (1 + (1 + t2.length)))) 0), (.ptr (h.length + t1.length) 0)] (h ++ (t1 ++ (AObj.arr [(.str r1), (.str r2), (.int .i64 r3), r4.av, (.int .i64 r5), (.int .i64 r6), (.bool r7), (.bool r8), (.bool r9)] 9 false :: (AObj.arr c1 1 false :: (t2 ++ (AObj.arr [(.int .i64 n5)] 1 false :: (t3 ++ (t4 ++ (AObj.arr [(.str c2), (.int .i64 c3), (.int .i64 c4)] 3 false :: t6))))))))) fun rv5 t7 =>
∃ (n9 : Int), rv5 = (.int .i64 n9) ∧
J2 (c2 : List UInt8) c3 n9 t7) ∧
((decide (n8 > 1)) = false → J2 (c2 : List UInt8) c3 c4 ([] : Heap))) ∧
(∀ (c5 : List UInt8) (c6 : Int) (c7 : Int) (t8 : Heap), J2 c5 c6 c7 t8 →
CallE M 101 [(.agg [(.str r1), (.str r2), (.int .i64 r3), r4.av, (.int .i64 r5), (.int .i64 r6), (.bool r7), (.bool r8), (.bool r9)]), (.int .i64 r12), (.str c5)] (h ++ (t1 ++ (AObj.arr [(.str r1), (.str r2), (.int .i64 r3), r4.av, (.int .i64 r5), (.int .i64 r6), (.bool r7), (.bool r8), (.bool r9)] 9 false :: (AObj.arr c1 1 false :: (t2 ++ (AObj.arr [(.int .i64 n5)] 1 false :: (t3 ++ (t4 ++ (AObj.arr [(.str c5), (.int .i64 c6), (.int .i64 c7)] 3 false :: (t6 ++ t8)))))))))) fun rv6 t9 =>
∃ (b1 : Bool), rv6 = (.bool b1) ∧
(b1 = true → ((decide (n2 < 12)) = true → (0 ≤ r12 ∧
r12 < ((3 : Nat) : Int)) ∧
∃ (l1 : Slc), partOf none c1 (0 + (r12 : Int).toNat * 1) = some l1.av ∧
∃ (old1 : List AV) (g1 : Heap), ((l1.nil = true ∧
old1 = [] ∧
g1 = t2) ∨ (l1.nil = false ∧
∃ (k1 : Nat) (c8 : List AV), l1.b = (h.length + (t1.length + (1 + 1))) + k1 ∧
(t2)[k1]? = some (.arr c8 3 false) ∧
l1.o + l1.n * 3 ≤ c8.length ∧
old1 = (c8.drop l1.o).take (l1.n * 3) ∧
g1 = t2.set k1 .dead)) ∧
(l1.len + 1) * 32 ≤ 140737488355328 ∧
(0 ≤ r12 ∧
r12 < ((3 : Nat) : Int)) ∧
(0 + (r12 : Int).toNat * 1) + 1 ≤ List.length (α := AV) c1 ∧
∃ n4, n4 < n3 ∧
I1 n4 (IntKind.wrap .i64 (n2 + 1)) (IntKind.wrap .i64 (x1 + 1)) (setCells c1 (0 + (r12 : Int).toNat * 1) [(.slice (h.length + (t1.length + (1 + (1 + (g1.length + (1 + (t3.length + (t4.length + (1 + (t6.length + (t8.length + (t9.length + 1)))))))))))) 0 (l1.len + 1))]) (g1 ++ (AObj.arr [(.int .i64 n5)] 1 false :: (t3 ++ (t4 ++ (AObj.arr [(.str c5), (.int .i64 c6), (.int .i64 c7)] 3 false :: (t6 ++ (t8 ++ (t9 ++ (AObj.arr [(.str c5), (.int .i64 c6), (.int .i64 c7)] 3 false :: [AObj.arr (old1 ++ [(.str c5), (.int .i64 c6), (.int .i64 c7)]) 3 false])))))))))) ∧
((decide (n2 < 12)) = false → ∃ n4, n4 < n3 ∧
I1 n4 n2 (IntKind.wrap .i64 (x1 + 1)) c1 (t2 ++ (AObj.arr [(.int .i64 n5)] 1 false :: (t3 ++ (t4 ++ (AObj.arr [(.str c5), (.int .i64 c6), (.int .i64 c7)] 3 false :: (t6 ++ (t8 ++ t9))))))))) ∧
(b1 = false → ∃ n4, n4 < n3 ∧
I1 n4 n2 (IntKind.wrap .i64 (x1 + 1)) c1 (t2 ++ (AObj.arr [(.int .i64 n5)] 1 false :: (t3 ++ (t4 ++ (AObj.arr [(.str c5), (.int .i64 c6), (.int .i64 c7)] 3 false :: (t6 ++ (t8 ++ t9))))))))))) ∧
((decide (x1 < ((numbers1.len : Nat) : Int))) = false → P (.tuple [(.slice (h.length + (t1.length + 1)) 0 3), (.int .i64 0)]) (t1 ++ (AObj.arr [(.str r1), (.str r2), (.int .i64 r3), r4.av, (.int .i64 r5), (.int .i64 r6), (.bool r7), (.bool r8), (.bool r9)] 9 false :: (AObj.arr c1 1 false :: t2))))))
theorem d46 {M : Model} {name1 : List UInt8} {numbers1 : Slc} {h : Heap} {P : AV → Heap → Prop} (hF : M.fn 46 = some F46) (hd : D46 M name1 numbers1 h P) : CallE M 46 [(.str name1), numbers1.av] h P :=
  callE_of_wp (hi := (rs 3 (.op ⟨(.tup [(.agg [.str, .str, (.int .i64), .slc, (.int .i64), (.int .i64), .bool, .bool, .bool]), .bool]), 0, true, 0⟩ (rs 8 (.condS (rs 2 .nil) (rs 3 (.condS (rs 2 .nil) (rs 6 (.loop ⟨4, [(3, .cells, 1)], [(9, (.int .i64)), (31, (.int .i64))]⟩ (.op ⟨.raw, 0, true, 0⟩ (.condS (.op ⟨.raw, 0, true, 0⟩ (.op ⟨(.int .i64), 1, true, 0⟩ (rs 3 (.op ⟨(.tup [(.int .i64), (.int .i64)]), 0, true, 0⟩ (rs 9 (.op ⟨(.tup [(.int .i64), (.int .i64)]), 0, true, 0⟩ (rs 10 (.op ⟨.str, 8, true, 0⟩ (rs 5 (.join ⟨9, [(8, (.agg [.str, (.int .i64), (.int .i64)]), 3)], []⟩ (rs 5 (.op ⟨(.int .i64), 9, true, 0⟩ (.op ⟨.raw, 0, true, 0⟩ (.condS (.op ⟨.raw, 0, true, 0⟩ (.op ⟨(.int .i64), 0, true, 0⟩ (rs 2 .nil))) .nil)))) (.join ⟨10, [(8, (.agg [.str, (.int .i64), (.int .i64)]), 3)], []⟩ (rs 5 (.op ⟨(.int .i64), 10, true, 0⟩ (.op ⟨.raw, 0, true, 0⟩ (.condS (.op ⟨.raw, 0, true, 0⟩ (.op ⟨(.int .i64), 0, true, 0⟩ (rs 2 .nil))) .nil)))) (rs 4 (.op ⟨.bool, 0, true, 0⟩ (.op ⟨.raw, 0, true, 0⟩ (.split ⟨.raw, 0, true, 0⟩ (rs 2 (.condS (rs 4 (.op ⟨.raw, 0, true, 1⟩ (.op ⟨.slc, 0, true, 0⟩ (rs 2 (.op ⟨.raw, 4, true, 0⟩ (.op ⟨.raw, 0, true, 1⟩ (rs 6 .nil))))))) (rs 2 .nil))) (rs 2 (.condL (rs 2 .nil)))))))))))))))))) (rs 3 .nil)))))))))))) (args := [(.av (.str name1)), (.slc numbers1)]) hF (by simp [oks, SV.ok]) (Eq.mp (α := D46 M name1 numbers1 h P) (by kernel_rfl) hd)
/-- lockless/locklesslaw16.sameCalls -/
def D48 (M : Model) (a1 : Slc) (b1 : Slc) (h : Heap) (P : AV → Heap → Prop) : Prop :=
((((a1.len : Nat) : Int) != ((b1.len : Nat) : Int)) = true → P (.bool false) ([] : Heap)) ∧
((((a1.len : Nat) : Int) != ((b1.len : Nat) : Int)) = false → ∃ (I1 : Nat → Int → Heap → Prop), (∃ n1, I1 n1 (0 : Int) ([] : Heap)) ∧
∀ (n2 : Nat) (i1 : Int) (t1 : Heap), I1 n2 i1 t1 → ((decide (i1 < ((a1.len : Nat) : Int))) = true → (0 ≤ i1 ∧
i1 < (a1.len : Int)) ∧
∃ (x1 : List UInt8) (x2 : Int) (x3 : Int), rdVar h (some 3) a1.b (a1.o + (i1 : Int).toNat * 3) = some (.agg [(.str x1), (.int .i64 x2), (.int .i64 x3)]) ∧
(0 ≤ i1 ∧
i1 < (b1.len : Int)) ∧
∃ (x4 : List UInt8) (x5 : Int) (x6 : Int), rdVar h (some 3) b1.b (b1.o + (i1 : Int).toNat * 3) = some (.agg [(.str x4), (.int .i64 x5), (.int .i64 x6)]) ∧
((((x1 == x4) && ((x2 == x5) && ((x3 == x6) && true))) != true) = true → P (.bool false) t1) ∧
((((x1 == x4) && ((x2 == x5) && ((x3 == x6) && true))) != true) = false → ∃ n3, n3 < n2 ∧
I1 n3 (IntKind.wrap .i64 (i1 + 1)) t1)) ∧
((decide (i1 < ((a1.len : Nat) : Int))) = false → P (.bool true) t1))
theorem d48 {M : Model} {a1 : Slc} {b1 : Slc} {h : Heap} {P : AV → Heap → Prop} (hF : M.fn 48 = some F48) (hd : D48 M a1 b1 h P) : CallE M 48 [a1.av, b1.av] h P :=
  callE_of_wp (hi := (rs 6 (.condS (.op ⟨.raw, 0, true, 0⟩ .nil) (.op ⟨.raw, 0, true, 0⟩ (.loop ⟨1, [], [(5, (.int .i64))]⟩ (rs 4 (.condS (rs 3 (.op ⟨(.agg [.str, (.int .i64), (.int .i64)]), 1, true, 0⟩ (rs 3 (.op ⟨(.agg [.str, (.int .i64), (.int .i64)]), 1, true, 0⟩ (.op ⟨.raw, 0, true, 0⟩ (.condS (.op ⟨.raw, 0, true, 0⟩ .nil) (rs 3 .nil))))))) (.op ⟨.raw, 0, true, 0⟩ .nil)))))))) (args := [(.slc a1), (.slc b1)]) hF (by simp [oks, SV.ok]) (Eq.mp (α := D48 M a1 b1 h P) (by kernel_rfl) hd)
/-- lockless/lib.split -/
def D99 (M : Model) (k1 : Int) (by_1 : Int) (h : Heap) (P : AV → Heap → Prop) : Prop :=
by_1 ≠ 0 ∧
by_1 ≠ 0 ∧
∃ (J1 : Int → Int → Heap → Prop), (((decide ((Int.tmod k1 by_1) < 0)) = true → J1 (IntKind.wrap .i64 ((IntKind.wrap .i64 (Int.tdiv k1 by_1)) - 1)) (IntKind.wrap .i64 ((Int.tmod k1 by_1) + by_1)) ([] : Heap)) ∧
((decide ((Int.tmod k1 by_1) < 0)) = false → J1 (IntKind.wrap .i64 (Int.tdiv k1 by_1)) (Int.tmod k1 by_1) ([] : Heap))) ∧
(∀ (q1 : Int) (m1 : Int) (t1 : Heap), J1 q1 m1 t1 → P (.tuple [(.int .i64 q1), (.int .i64 m1)]) t1)
theorem d99 {M : Model} {k1 : Int} {by_1 : Int} {h : Heap} {P : AV → Heap → Prop} (hF : M.fn 99 = some F99) (hd : D99 M k1 by_1 h P) : CallE M 99 [(.int .i64 k1), (.int .i64 by_1)] h P :=
  callE_of_wp (hi := (rs 4 (.op ⟨.raw, 0, true, 1⟩ (rs 2 (.op ⟨.raw, 0, true, 1⟩ (rs 2 (.join ⟨1, [], [(6, (.int .i64)), (7, (.int .i64))]⟩ (rs 2 (.condS (rs 7 .nil) .nil)) (rs 4 .nil)))))))) (args := [(.av (.int .i64 k1)), (.av (.int .i64 by_1))]) hF (by simp [oks, SV.ok]) (Eq.mp (α := D99 M k1 by_1 h P) (by kernel_rfl) hd)
/-- lockless/lib.Spread$1 -/
def D100 (M : Model) (by_1 : Int) (a11 : Nat) (a11o : Nat) (a21 : Nat) (a21o : Nat) (h : Heap) (P : AV → Heap → Prop) : Prop :=
∃ (n1 : Int), rdVar h none a11 a11o = some (.int .i64 n1) ∧
CallE M 99 [(.int .i64 n1), (.int .i64 by_1)] h fun rv1 t1 =>
∃ (r1 : Int) (r2 : Int), rv1 = (.tuple [(.int .i64 r1), (.int .i64 r2)]) ∧
CallE M 99 [(.int .i64 r1), (.int .i64 4)] (h ++ t1) fun rv2 t2 =>
∃ (r3 : Int) (r4 : Int), rv2 = (.tuple [(.int .i64 r3), (.int .i64 r4)]) ∧
∃ (n2 : Int), rdVar h none a21 (a21o + 4) = some (.int .i64 n2) ∧
∃ (n3 : Int), rdVar h none a21 (a21o + 5) = some (.int .i64 n3) ∧
P (.int .i64 (if n3 < (IntKind.wrap .i64 (n2 + r4)) then n3 else (IntKind.wrap .i64 (n2 + r4)))) (t1 ++ t2)
theorem d100 {M : Model} {by_1 : Int} {a11 : Nat} {a11o : Nat} {a21 : Nat} {a21o : Nat} {h : Heap} {P : AV → Heap → Prop} (hF : M.fn 100 = some F100) (hd : D100 M by_1 a11 a11o a21 a21o h P) : CallE M 100 [(.int .i64 by_1), (.ptr a11 a11o), (.ptr a21 a21o)] h P :=
  callE_of_wp (hi := (.op ⟨.raw, 0, true, 0⟩ (.op ⟨(.int .i64), 1, true, 0⟩ (.op ⟨.raw, 0, true, 0⟩ (.op ⟨(.tup [(.int .i64), (.int .i64)]), 0, true, 0⟩ (rs 6 (.op ⟨(.tup [(.int .i64), (.int .i64)]), 0, true, 0⟩ (rs 6 (.op ⟨(.int .i64), 1, true, 0⟩ (rs 3 (.op ⟨(.int .i64), 1, true, 0⟩ (rs 2 .nil)))))))))))) (args := [(.av (.int .i64 by_1)), (.av (.ptr a11 a11o)), (.av (.ptr a21 a21o))]) hF (by simp [oks, SV.ok]) (Eq.mp (α := D100 M by_1 a11 a11o a21 a21o h P) (by kernel_rfl) hd)
end Go.Proofs.YtifkphfhadimaaaGreatDoor.Mini

