/- What is left to be shown of functions of the seat: printed by this session's own program; the kernel finds each to be what the residual machine says. -/
import Derived.Test.YtifkphfhadimaaaGreatDoorMiniD
import Derived.Test.YtifkphfhadimaaaGreatDoorAbsG4
import Derived.Test.YtifkphfhadimaaaGreatDoorAbsG7
set_option linter.unusedVariables false
set_option linter.unusedSimpArgs false
set_option maxRecDepth 100000
namespace Go.Proofs.YtifkphfhadimaaaGreatDoor.Mini
open Go.Abs Mini
/-- lockless/locklesslaw16.LibSpreads -/
def D12 (M : Model) (name1 : List UInt8) (numbers1 : Slc) (h : Heap) (P : AV → Heap → Prop) : Prop :=
CallE M 24 [] h fun rv1 t1 =>
∃ (b1 : Bool), rv1 = (.bool b1) ∧
((!b1) = true → P (.bool false) t1) ∧
((!b1) = false →
CallE M 31 [(.str name1)] (h ++ t1) fun rv2 t2 =>
∃ (r1 : List UInt8) (r2 : Int) (r3 : Slc) (r4 : Int) (r5 : Int) (r6 : Bool) (r7 : Bool) (r8 : Bool), rv2 = (.tuple [(.agg [(.str r1), (.int .i64 r2), r3.av, (.int .i64 r4), (.int .i64 r5), (.bool r6), (.bool r7)]), (.bool r8)]) ∧
CallE M 46 [(.str name1), numbers1.av] (h ++ (t1 ++ (t2 ++ [AObj.arr [(.str r1), (.int .i64 r2), r3.av, (.int .i64 r4), (.int .i64 r5), (.bool r6), (.bool r7)] 7 false]))) fun rv3 t3 =>
∃ (r9 : Slc) (r10 : Int), rv3 = (.tuple [r9.av, (.int .i64 r10)]) ∧
((!r8) = true → ((((r9.len : Nat) : Int) == 0) = true → P (.bool (r10 == 5)) (t1 ++ (t2 ++ (AObj.arr [(.str r1), (.int .i64 r2), r3.av, (.int .i64 r4), (.int .i64 r5), (.bool r6), (.bool r7)] 7 false :: t3)))) ∧
((((r9.len : Nat) : Int) == 0) = false → P (.bool false) (t1 ++ (t2 ++ (AObj.arr [(.str r1), (.int .i64 r2), r3.av, (.int .i64 r4), (.int .i64 r5), (.bool r6), (.bool r7)] 7 false :: t3))))) ∧
((!r8) = false → ((decide (((numbers1.len : Nat) : Int) > 24)) = true → ((((r9.len : Nat) : Int) == 0) = true → P (.bool (r10 == 1)) (t1 ++ (t2 ++ (AObj.arr [(.str r1), (.int .i64 r2), r3.av, (.int .i64 r4), (.int .i64 r5), (.bool r6), (.bool r7)] 7 false :: t3)))) ∧
((((r9.len : Nat) : Int) == 0) = false → P (.bool false) (t1 ++ (t2 ++ (AObj.arr [(.str r1), (.int .i64 r2), r3.av, (.int .i64 r4), (.int .i64 r5), (.bool r6), (.bool r7)] 7 false :: t3))))) ∧
((decide (((numbers1.len : Nat) : Int) > 24)) = false →
CallE M 47 [(.agg [(.str r1), (.int .i64 r2), r3.av, (.int .i64 r4), (.int .i64 r5), (.bool r6), (.bool r7)]), numbers1.av] (h ++ (t1 ++ (t2 ++ (AObj.arr [(.str r1), (.int .i64 r2), r3.av, (.int .i64 r4), (.int .i64 r5), (.bool r6), (.bool r7)] 7 false :: t3)))) fun rv4 t4 =>
∃ (l1 : Slc), rv4 = l1.av ∧
((((r9.len : Nat) : Int) != 3) = false → ((r10 != 0) = true → P (.bool false) (t1 ++ (t2 ++ (AObj.arr [(.str r1), (.int .i64 r2), r3.av, (.int .i64 r4), (.int .i64 r5), (.bool r6), (.bool r7)] 7 false :: (t3 ++ t4))))) ∧
((r10 != 0) = false → (0 ≤ (0 : Int) ∧
(0 : Int) < (r9.len : Int)) ∧
∃ (l2 : Slc), rdVar (h ++ (t1 ++ (t2 ++ (AObj.arr [(.str r1), (.int .i64 r2), r3.av, (.int .i64 r4), (.int .i64 r5), (.bool r6), (.bool r7)] 7 false :: (t3 ++ t4))))) none r9.b (r9.o + (0 : Int).toNat * 1) = some l2.av ∧
(0 ≤ (0 : Int) ∧
(0 : Int) < (l1.len : Int)) ∧
∃ (l3 : Slc), rdVar (h ++ (t1 ++ (t2 ++ (AObj.arr [(.str r1), (.int .i64 r2), r3.av, (.int .i64 r4), (.int .i64 r5), (.bool r6), (.bool r7)] 7 false :: (t3 ++ t4))))) none l1.b (l1.o + (0 : Int).toNat * 1) = some l3.av ∧
CallE M 48 [l2.av, l3.av] (h ++ (t1 ++ (t2 ++ (AObj.arr [(.str r1), (.int .i64 r2), r3.av, (.int .i64 r4), (.int .i64 r5), (.bool r6), (.bool r7)] 7 false :: (t3 ++ t4))))) fun rv5 t5 =>
∃ (b2 : Bool), rv5 = (.bool b2) ∧
(b2 = true → (0 ≤ (1 : Int) ∧
(1 : Int) < (r9.len : Int)) ∧
∃ (l4 : Slc), rdVar (h ++ (t1 ++ (t2 ++ (AObj.arr [(.str r1), (.int .i64 r2), r3.av, (.int .i64 r4), (.int .i64 r5), (.bool r6), (.bool r7)] 7 false :: (t3 ++ (t4 ++ t5)))))) none r9.b (r9.o + (1 : Int).toNat * 1) = some l4.av ∧
(0 ≤ (1 : Int) ∧
(1 : Int) < (l1.len : Int)) ∧
∃ (l5 : Slc), rdVar (h ++ (t1 ++ (t2 ++ (AObj.arr [(.str r1), (.int .i64 r2), r3.av, (.int .i64 r4), (.int .i64 r5), (.bool r6), (.bool r7)] 7 false :: (t3 ++ (t4 ++ t5)))))) none l1.b (l1.o + (1 : Int).toNat * 1) = some l5.av ∧
CallE M 48 [l4.av, l5.av] (h ++ (t1 ++ (t2 ++ (AObj.arr [(.str r1), (.int .i64 r2), r3.av, (.int .i64 r4), (.int .i64 r5), (.bool r6), (.bool r7)] 7 false :: (t3 ++ (t4 ++ t5)))))) fun rv6 t6 =>
∃ (b3 : Bool), rv6 = (.bool b3) ∧
(b3 = true → (0 ≤ (2 : Int) ∧
(2 : Int) < (r9.len : Int)) ∧
∃ (l6 : Slc), rdVar (h ++ (t1 ++ (t2 ++ (AObj.arr [(.str r1), (.int .i64 r2), r3.av, (.int .i64 r4), (.int .i64 r5), (.bool r6), (.bool r7)] 7 false :: (t3 ++ (t4 ++ (t5 ++ t6))))))) none r9.b (r9.o + (2 : Int).toNat * 1) = some l6.av ∧
(0 ≤ (2 : Int) ∧
(2 : Int) < (l1.len : Int)) ∧
∃ (l7 : Slc), rdVar (h ++ (t1 ++ (t2 ++ (AObj.arr [(.str r1), (.int .i64 r2), r3.av, (.int .i64 r4), (.int .i64 r5), (.bool r6), (.bool r7)] 7 false :: (t3 ++ (t4 ++ (t5 ++ t6))))))) none l1.b (l1.o + (2 : Int).toNat * 1) = some l7.av ∧
CallE M 48 [l6.av, l7.av] (h ++ (t1 ++ (t2 ++ (AObj.arr [(.str r1), (.int .i64 r2), r3.av, (.int .i64 r4), (.int .i64 r5), (.bool r6), (.bool r7)] 7 false :: (t3 ++ (t4 ++ (t5 ++ t6))))))) fun rv7 t7 =>
∃ (b4 : Bool), rv7 = (.bool b4) ∧
P (.bool b4) (t1 ++ (t2 ++ (AObj.arr [(.str r1), (.int .i64 r2), r3.av, (.int .i64 r4), (.int .i64 r5), (.bool r6), (.bool r7)] 7 false :: (t3 ++ (t4 ++ (t5 ++ (t6 ++ t7)))))))) ∧
(b3 = false → P (.bool false) (t1 ++ (t2 ++ (AObj.arr [(.str r1), (.int .i64 r2), r3.av, (.int .i64 r4), (.int .i64 r5), (.bool r6), (.bool r7)] 7 false :: (t3 ++ (t4 ++ (t5 ++ t6)))))))) ∧
(b2 = false → P (.bool false) (t1 ++ (t2 ++ (AObj.arr [(.str r1), (.int .i64 r2), r3.av, (.int .i64 r4), (.int .i64 r5), (.bool r6), (.bool r7)] 7 false :: (t3 ++ (t4 ++ t5)))))))) ∧
((((r9.len : Nat) : Int) != 3) = true → P (.bool false) (t1 ++ (t2 ++ (AObj.arr [(.str r1), (.int .i64 r2), r3.av, (.int .i64 r4), (.int .i64 r5), (.bool r6), (.bool r7)] 7 false :: (t3 ++ t4))))))))
theorem d12 {M : Model} {name1 : List UInt8} {numbers1 : Slc} {h : Heap} {P : AV → Heap → Prop} (hF : M.fn 12 = some F12) (hd : D12 M name1 numbers1 h P) : CallE M 12 [(.str name1), numbers1.av] h P :=
  callE_of_wp (hi := (.op ⟨.raw, 0, true, 0⟩ (.op ⟨.bool, 0, true, 0⟩ (.op ⟨.raw, 0, true, 0⟩ (.condS (.op ⟨.raw, 0, true, 0⟩ .nil) (.op ⟨.raw, 0, true, 0⟩ (.op ⟨(.tup [(.agg [.str, (.int .i64), .slc, (.int .i64), (.int .i64), .bool, .bool]), .bool]), 0, true, 0⟩ (rs 8 (.op ⟨(.tup [.slc, (.int .i64)]), 0, true, 0⟩ (rs 7 (.condS (rs 4 (.split ⟨.raw, 0, true, 0⟩ (rs 3 .nil) (rs 3 .nil))) (rs 3 (.condS (rs 4 (.split ⟨.raw, 0, true, 0⟩ (rs 3 .nil) (rs 3 .nil))) (rs 2 (.op ⟨.slc, 0, true, 0⟩ (rs 5 (.split ⟨.raw, 0, true, 0⟩ (rs 2 (.condS (.op ⟨.raw, 0, true, 0⟩ .nil) (rs 2 (.op ⟨.slc, 6, true, 0⟩ (rs 2 (.op ⟨.slc, 6, true, 0⟩ (.op ⟨.bool, 0, true, 0⟩ (.op ⟨.raw, 0, true, 0⟩ (.split ⟨.raw, 0, true, 0⟩ (.op ⟨.raw, 0, true, 0⟩ (.op ⟨.slc, 7, true, 0⟩ (rs 2 (.op ⟨.slc, 7, true, 0⟩ (.op ⟨.bool, 0, true, 0⟩ (rs 2 (.split ⟨.raw, 0, true, 0⟩ (.op ⟨.raw, 0, true, 0⟩ (.op ⟨.slc, 8, true, 0⟩ (rs 2 (.op ⟨.slc, 8, true, 0⟩ (.op ⟨.bool, 0, true, 0⟩ (rs 2 .nil)))))) (rs 8 .nil)))))))) (rs 17 .nil)))))))))) (rs 2 (.condL (.op ⟨.raw, 0, true, 0⟩ .nil)))))))))))))))))))) (args := [(.av (.str name1)), (.slc numbers1)]) hF (by simp [oks, SV.ok]) (Eq.mp (α := D12 M name1 numbers1 h P) (by kernel_rfl) hd)
/-- lockless/lib.Spread -/
def D46 (M : Model) (name1 : List UInt8) (numbers1 : Slc) (h : Heap) (P : AV → Heap → Prop) : Prop :=
CallE M 74 [(.str name1)] h fun rv1 t1 =>
∃ (r1 : List UInt8) (r2 : List UInt8) (r3 : Int) (r4 : Slc) (r5 : Int) (r6 : Int) (r7 : Bool) (r8 : Bool) (r9 : Bool) (r10 : Bool), rv1 = (.tuple [(.agg [(.str r1), (.str r2), (.int .i64 r3), r4.av, (.int .i64 r5), (.int .i64 r6), (.bool r7), (.bool r8), (.bool r9)]), (.bool r10)]) ∧
((!r10) = true → P (.tuple [.nilslice, (.int .i64 5)]) (t1 ++ [AObj.arr [(.str r1), (.str r2), (.int .i64 r3), r4.av, (.int .i64 r5), (.int .i64 r6), (.bool r7), (.bool r8), (.bool r9)] 9 false])) ∧
((!r10) = false → ((decide (((numbers1.len : Nat) : Int) > 24)) = true → P (.tuple [.nilslice, (.int .i64 1)]) (t1 ++ [AObj.arr [(.str r1), (.str r2), (.int .i64 r3), r4.av, (.int .i64 r5), (.int .i64 r6), (.bool r7), (.bool r8), (.bool r9)] 9 false])) ∧
((decide (((numbers1.len : Nat) : Int) > 24)) = false → (0 ≤ (3 : Int) ∧
(3 : Int) = 3 ∧
(3 : Int) * ((24 : Nat) : Int) ≤ 140737488355328) ∧
∃ (I1 : Nat → Int → Int → (List AV) → Heap → Prop), (∃ n1, I1 n1 (0 : Int) (0 : Int) [.nilslice, .nilslice, .nilslice] ([] : Heap)) ∧
∀ (n3 : Nat) (n2 : Int) (x1 : Int) (c1 : List AV) (t2 : Heap), I1 n3 n2 x1 c1 t2 → ((decide (x1 < ((numbers1.len : Nat) : Int))) = true → (0 ≤ x1 ∧
x1 < (numbers1.len : Int)) ∧
∃ (n5 : Int), rdVar h none numbers1.b (numbers1.o + (x1 : Int).toNat * 1) = some (.int .i64 n5) ∧
CallE M 99 [(.int .i64 n5), (.int .i64 3)] (h ++ (t1 ++ (AObj.arr [(.str r1), (.str r2), (.int .i64 r3), r4.av, (.int .i64 r5), (.int .i64 r6), (.bool r7), (.bool r8), (.bool r9)] 9 false :: (AObj.arr c1 1 false :: (t2 ++ [AObj.arr [(.int .i64 n5)] 1 false]))))) fun rv2 t3 =>
∃ (r11 : Int) (r12 : Int), rv2 = (.tuple [(.int .i64 r11), (.int .i64 r12)]) ∧
CallE M 99 [(.int .i64 r11), (.int .i64 ((r4.len : Nat) : Int))] (h ++ (t1 ++ (AObj.arr [(.str r1), (.str r2), (.int .i64 r3), r4.av, (.int .i64 r5), (.int .i64 r6), (.bool r7), (.bool r8), (.bool r9)] 9 false :: (AObj.arr c1 1 false :: (t2 ++ (AObj.arr [(.int .i64 n5)] 1 false :: t3)))))) fun rv3 t4 =>
∃ (r13 : Int) (r14 : Int), rv3 = (.tuple [(.int .i64 r13), (.int .i64 r14)]) ∧
(0 ≤ r14 ∧
r14 < (r4.len : Int)) ∧
∃ (w1 : List UInt8), rdVar (h ++ (t1 ++ (AObj.arr [(.str r1), (.str r2), (.int .i64 r3), r4.av, (.int .i64 r5), (.int .i64 r6), (.bool r7), (.bool r8), (.bool r9)] 9 false :: (AObj.arr c1 1 false :: (t2 ++ (AObj.arr [(.int .i64 n5)] 1 false :: (t3 ++ t4))))))) none r4.b (r4.o + (r14 : Int).toNat * 2) = some (.str w1) ∧
∃ (J1 : (List UInt8) → Int → Int → Heap → Prop), ((0 ≤ r14 ∧
r14 < (r4.len : Int)) ∧
∃ (n6 : Int), rdVar (h ++ (t1 ++ (AObj.arr [(.str r1), (.str r2), (.int .i64 r3), r4.av, (.int .i64 r5), (.int .i64 r6), (.bool r7), (.bool r8), (.bool r9)] 9 false :: (AObj.arr c1 1 false :: (t2 ++ (AObj.arr [(.int .i64 n5)] 1 false :: (t3 ++ (t4 ++ [AObj.arr [(.str w1), (.int .i64 0), (.int .i64 0)] 3 false])))))))) none r4.b ((r4.o + (r14 : Int).toNat * 2) + 1) = some (.int .i64 n6) ∧
((decide (n6 > 0)) = true →
CallE M 100 [(.int .i64 60), (.ptr (h.length + (t1.length + (1 + (1 + t2.length)))) 0), (.ptr (h.length + t1.length) 0)] (h ++ (t1 ++ (AObj.arr [(.str r1), (.str r2), (.int .i64 r3), r4.av, (.int .i64 r5), (.int .i64 r6), (.bool r7), (.bool r8), (.bool r9)] 9 false :: (AObj.arr c1 1 false :: (t2 ++ (AObj.arr [(.int .i64 n5)] 1 false :: (t3 ++ (t4 ++ [AObj.arr [(.str w1), (.int .i64 0), (.int .i64 0)] 3 false])))))))) fun rv4 t5 =>
∃ (n7 : Int), rv4 = (.int .i64 n7) ∧
J1 (w1 : List UInt8) n7 (0 : Int) t5) ∧
((decide (n6 > 0)) = false → J1 (w1 : List UInt8) (0 : Int) (0 : Int) ([] : Heap))) ∧
(∀ (c2 : List UInt8) (c3 : Int) (c4 : Int) (t6 : Heap), J1 c2 c3 c4 t6 → ∃ (J2 : (List UInt8) → Int → Int → Heap → Prop), ((0 ≤ r14 ∧
r14 < (r4.len : Int)) ∧
∃ (n8 : Int), rdVar (h ++ (t1 ++ (AObj.arr [(.str r1), (.str r2), (.int .i64 r3), r4.av, (.int .i64 r5), (.int .i64 r6), (.bool r7), (.bool r8), (.bool r9)] 9 false :: (AObj.arr c1 1 false :: (t2 ++ (AObj.arr [(.int .i64 n5)] 1 false :: (t3 ++ (t4 ++ (AObj.arr [(.str c2), (.int .i64 c3), (.int .i64 c4)] 3 false :: t6))))))))) none r4.b ((r4.o + (r14 : Int).toNat * 2) + 1) = some (.int .i64 n8) ∧
((decide (n8 > 1)) = true →
CallE M 100 [(.int .i64 240), (.ptr (h.length + (t1.length + (1 + (1 + t2.length)))) 0), (.ptr (h.length + t1.length) 0)] (h ++ (t1 ++ (AObj.arr [(.str r1), (.str r2), (.int .i64 r3), r4.av, (.int .i64 r5), (.int .i64 r6), (.bool r7), (.bool r8), (.bool r9)] 9 false :: (AObj.arr c1 1 false :: (t2 ++ (AObj.arr [(.int .i64 n5)] 1 false :: (t3 ++ (t4 ++ (AObj.arr [(.str c2), (.int .i64 c3), (.int .i64 c4)] 3 false :: t6))))))))) fun rv5 t7 =>
∃ (n9 : Int), rv5 = (.int .i64 n9) ∧
J2 (c2 : List UInt8) c3 n9 t7) ∧
((decide (n8 > 1)) = false → J2 (c2 : List UInt8) c3 c4 ([] : Heap))) ∧
(∀ (c5 : List UInt8) (c6 : Int) (c7 : Int) (t8 : Heap), J2 c5 c6 c7 t8 →
CallE M 101 [(.agg [(.str r1), (.str r2), (.int .i64 r3), r4.av, (.int .i64 r5), (.int .i64 r6), (.bool r7), (.bool r8), (.bool r9)]), (.int .i64 r12), (.str c5)] (h ++ (t1 ++ (AObj.arr [(.str r1), (.str r2), (.int .i64 r3), r4.av, (.int .i64 r5), (.int .i64 r6), (.bool r7), (.bool r8), (.bool r9)] 9 false :: (AObj.arr c1 1 false :: (t2 ++ (AObj.arr [(.int .i64 n5)] 1 false :: (t3 ++ (t4 ++ (AObj.arr [(.str c5), (.int .i64 c6), (.int .i64 c7)] 3 false :: (t6 ++ t8)))))))))) fun rv6 t9 =>
∃ (b1 : Bool), rv6 = (.bool b1) ∧
(b1 = true → ((decide (n2 < 12)) = true → (0 ≤ r12 ∧
r12 < ((3 : Nat) : Int)) ∧
∃ (l1 : Slc), partOf none c1 (0 + (r12 : Int).toNat * 1) = some l1.av ∧
∃ (old1 : List AV) (g1 : Heap), ((l1.nil = true ∧
old1 = [] ∧
g1 = t2) ∨ (l1.nil = false ∧
∃ (k1 : Nat) (c8 : List AV), l1.b = (h.length + (t1.length + (1 + 1))) + k1 ∧
(t2)[k1]? = some (.arr c8 3 false) ∧
l1.o + l1.n * 3 ≤ c8.length ∧
old1 = (c8.drop l1.o).take (l1.n * 3) ∧
g1 = t2.set k1 .dead)) ∧
(l1.len + 1) * 32 ≤ 140737488355328 ∧
(0 ≤ r12 ∧
r12 < ((3 : Nat) : Int)) ∧
(0 + (r12 : Int).toNat * 1) + 1 ≤ List.length (α := AV) c1 ∧
∃ n4, n4 < n3 ∧
I1 n4 (IntKind.wrap .i64 (n2 + 1)) (IntKind.wrap .i64 (x1 + 1)) (setCells c1 (0 + (r12 : Int).toNat * 1) [(.slice (h.length + (t1.length + (1 + (1 + (g1.length + (1 + (t3.length + (t4.length + (1 + (t6.length + (t8.length + (t9.length + 1)))))))))))) 0 (l1.len + 1))]) (g1 ++ (AObj.arr [(.int .i64 n5)] 1 false :: (t3 ++ (t4 ++ (AObj.arr [(.str c5), (.int .i64 c6), (.int .i64 c7)] 3 false :: (t6 ++ (t8 ++ (t9 ++ (AObj.arr [(.str c5), (.int .i64 c6), (.int .i64 c7)] 3 false :: [AObj.arr (old1 ++ [(.str c5), (.int .i64 c6), (.int .i64 c7)]) 3 false])))))))))) ∧
((decide (n2 < 12)) = false → ∃ n4, n4 < n3 ∧
I1 n4 n2 (IntKind.wrap .i64 (x1 + 1)) c1 (t2 ++ (AObj.arr [(.int .i64 n5)] 1 false :: (t3 ++ (t4 ++ (AObj.arr [(.str c5), (.int .i64 c6), (.int .i64 c7)] 3 false :: (t6 ++ (t8 ++ t9))))))))) ∧
(b1 = false → ∃ n4, n4 < n3 ∧
I1 n4 n2 (IntKind.wrap .i64 (x1 + 1)) c1 (t2 ++ (AObj.arr [(.int .i64 n5)] 1 false :: (t3 ++ (t4 ++ (AObj.arr [(.str c5), (.int .i64 c6), (.int .i64 c7)] 3 false :: (t6 ++ (t8 ++ t9))))))))))) ∧
((decide (x1 < ((numbers1.len : Nat) : Int))) = false → P (.tuple [(.slice (h.length + (t1.length + 1)) 0 3), (.int .i64 0)]) (t1 ++ (AObj.arr [(.str r1), (.str r2), (.int .i64 r3), r4.av, (.int .i64 r5), (.int .i64 r6), (.bool r7), (.bool r8), (.bool r9)] 9 false :: (AObj.arr c1 1 false :: t2))))))
theorem d46 {M : Model} {name1 : List UInt8} {numbers1 : Slc} {h : Heap} {P : AV → Heap → Prop} (hF : M.fn 46 = some F46) (hd : D46 M name1 numbers1 h P) : CallE M 46 [(.str name1), numbers1.av] h P :=
  callE_of_wp (hi := (rs 3 (.op ⟨(.tup [(.agg [.str, .str, (.int .i64), .slc, (.int .i64), (.int .i64), .bool, .bool, .bool]), .bool]), 0, true, 0⟩ (rs 8 (.condS (rs 2 .nil) (rs 3 (.condS (rs 2 .nil) (rs 6 (.loop ⟨4, [(3, .cells, 1)], [(9, (.int .i64)), (31, (.int .i64))]⟩ (.op ⟨.raw, 0, true, 0⟩ (.condS (.op ⟨.raw, 0, true, 0⟩ (.op ⟨(.int .i64), 1, true, 0⟩ (rs 3 (.op ⟨(.tup [(.int .i64), (.int .i64)]), 0, true, 0⟩ (rs 9 (.op ⟨(.tup [(.int .i64), (.int .i64)]), 0, true, 0⟩ (rs 10 (.op ⟨.str, 8, true, 0⟩ (rs 5 (.join ⟨9, [(8, (.agg [.str, (.int .i64), (.int .i64)]), 3)], []⟩ (rs 5 (.op ⟨(.int .i64), 9, true, 0⟩ (.op ⟨.raw, 0, true, 0⟩ (.condS (.op ⟨.raw, 0, true, 0⟩ (.op ⟨(.int .i64), 0, true, 0⟩ (rs 2 .nil))) .nil)))) (.join ⟨10, [(8, (.agg [.str, (.int .i64), (.int .i64)]), 3)], []⟩ (rs 5 (.op ⟨(.int .i64), 10, true, 0⟩ (.op ⟨.raw, 0, true, 0⟩ (.condS (.op ⟨.raw, 0, true, 0⟩ (.op ⟨(.int .i64), 0, true, 0⟩ (rs 2 .nil))) .nil)))) (rs 4 (.op ⟨.bool, 0, true, 0⟩ (.op ⟨.raw, 0, true, 0⟩ (.split ⟨.raw, 0, true, 0⟩ (rs 2 (.condS (rs 4 (.op ⟨.raw, 0, true, 1⟩ (.op ⟨.slc, 0, true, 0⟩ (rs 2 (.op ⟨.raw, 4, true, 0⟩ (.op ⟨.raw, 0, true, 1⟩ (rs 6 .nil))))))) (rs 2 .nil))) (rs 2 (.condL (rs 2 .nil)))))))))))))))))) (rs 3 .nil)))))))))))) (args := [(.av (.str name1)), (.slc numbers1)]) hF (by simp [oks, SV.ok]) (Eq.mp (α := D46 M name1 numbers1 h P) (by kernel_rfl) hd)
/-- lockless/locklesslaw16.sameCalls -/
def D48 (M : Model) (a1 : Slc) (b1 : Slc) (h : Heap) (P : AV → Heap → Prop) : Prop :=
((((a1.len : Nat) : Int) != ((b1.len : Nat) : Int)) = true → P (.bool false) ([] : Heap)) ∧
((((a1.len : Nat) : Int) != ((b1.len : Nat) : Int)) = false → ∃ (I1 : Nat → Int → Heap → Prop), (∃ n1, I1 n1 (0 : Int) ([] : Heap)) ∧
∀ (n2 : Nat) (i1 : Int) (t1 : Heap), I1 n2 i1 t1 → ((decide (i1 < ((a1.len : Nat) : Int))) = true → (0 ≤ i1 ∧
i1 < (a1.len : Int)) ∧
∃ (x1 : List UInt8) (x2 : Int) (x3 : Int), rdVar h (some 3) a1.b (a1.o + (i1 : Int).toNat * 3) = some (.agg [(.str x1), (.int .i64 x2), (.int .i64 x3)]) ∧
(0 ≤ i1 ∧
i1 < (b1.len : Int)) ∧
∃ (x4 : List UInt8) (x5 : Int) (x6 : Int), rdVar h (some 3) b1.b (b1.o + (i1 : Int).toNat * 3) = some (.agg [(.str x4), (.int .i64 x5), (.int .i64 x6)]) ∧
((((x1 == x4) && ((x2 == x5) && ((x3 == x6) && true))) != true) = true → P (.bool false) t1) ∧
((((x1 == x4) && ((x2 == x5) && ((x3 == x6) && true))) != true) = false → ∃ n3, n3 < n2 ∧
I1 n3 (IntKind.wrap .i64 (i1 + 1)) t1)) ∧
((decide (i1 < ((a1.len : Nat) : Int))) = false → P (.bool true) t1))
theorem d48 {M : Model} {a1 : Slc} {b1 : Slc} {h : Heap} {P : AV → Heap → Prop} (hF : M.fn 48 = some F48) (hd : D48 M a1 b1 h P) : CallE M 48 [a1.av, b1.av] h P :=
  callE_of_wp (hi := (rs 6 (.condS (.op ⟨.raw, 0, true, 0⟩ .nil) (.op ⟨.raw, 0, true, 0⟩ (.loop ⟨1, [], [(5, (.int .i64))]⟩ (rs 4 (.condS (rs 3 (.op ⟨(.agg [.str, (.int .i64), (.int .i64)]), 1, true, 0⟩ (rs 3 (.op ⟨(.agg [.str, (.int .i64), (.int .i64)]), 1, true, 0⟩ (.op ⟨.raw, 0, true, 0⟩ (.condS (.op ⟨.raw, 0, true, 0⟩ .nil) (rs 3 .nil))))))) (.op ⟨.raw, 0, true, 0⟩ .nil)))))))) (args := [(.slc a1), (.slc b1)]) hF (by simp [oks, SV.ok]) (Eq.mp (α := D48 M a1 b1 h P) (by kernel_rfl) hd)
/-- lockless/lib.split -/
def D99 (M : Model) (k1 : Int) (by_1 : Int) (h : Heap) (P : AV → Heap → Prop) : Prop :=
by_1 ≠ 0 ∧
by_1 ≠ 0 ∧
∃ (J1 : Int → Int → Heap → Prop), (((decide ((Int.tmod k1 by_1) < 0)) = true → J1 (IntKind.wrap .i64 ((IntKind.wrap .i64 (Int.tdiv k1 by_1)) - 1)) (IntKind.wrap .i64 ((Int.tmod k1 by_1) + by_1)) ([] : Heap)) ∧
((decide ((Int.tmod k1 by_1) < 0)) = false → J1 (IntKind.wrap .i64 (Int.tdiv k1 by_1)) (Int.tmod k1 by_1) ([] : Heap))) ∧
(∀ (q1 : Int) (m1 : Int) (t1 : Heap), J1 q1 m1 t1 → P (.tuple [(.int .i64 q1), (.int .i64 m1)]) t1)
theorem d99 {M : Model} {k1 : Int} {by_1 : Int} {h : Heap} {P : AV → Heap → Prop} (hF : M.fn 99 = some F99) (hd : D99 M k1 by_1 h P) : CallE M 99 [(.int .i64 k1), (.int .i64 by_1)] h P :=
  callE_of_wp (hi := (rs 4 (.op ⟨.raw, 0, true, 1⟩ (rs 2 (.op ⟨.raw, 0, true, 1⟩ (rs 2 (.join ⟨1, [], [(6, (.int .i64)), (7, (.int .i64))]⟩ (rs 2 (.condS (rs 7 .nil) .nil)) (rs 4 .nil)))))))) (args := [(.av (.int .i64 k1)), (.av (.int .i64 by_1))]) hF (by simp [oks, SV.ok]) (Eq.mp (α := D99 M k1 by_1 h P) (by kernel_rfl) hd)
/-- lockless/lib.Spread$1 -/
def D100 (M : Model) (by_1 : Int) (a11 : Nat) (a11o : Nat) (a21 : Nat) (a21o : Nat) (h : Heap) (P : AV → Heap → Prop) : Prop :=
∃ (n1 : Int), rdVar h none a11 a11o = some (.int .i64 n1) ∧
CallE M 99 [(.int .i64 n1), (.int .i64 by_1)] h fun rv1 t1 =>
∃ (r1 : Int) (r2 : Int), rv1 = (.tuple [(.int .i64 r1), (.int .i64 r2)]) ∧
CallE M 99 [(.int .i64 r1), (.int .i64 4)] (h ++ t1) fun rv2 t2 =>
∃ (r3 : Int) (r4 : Int), rv2 = (.tuple [(.int .i64 r3), (.int .i64 r4)]) ∧
∃ (n2 : Int), rdVar h none a21 (a21o + 4) = some (.int .i64 n2) ∧
∃ (n3 : Int), rdVar h none a21 (a21o + 5) = some (.int .i64 n3) ∧
P (.int .i64 (if n3 < (IntKind.wrap .i64 (n2 + r4)) then n3 else (IntKind.wrap .i64 (n2 + r4)))) (t1 ++ t2)
theorem d100 {M : Model} {by_1 : Int} {a11 : Nat} {a11o : Nat} {a21 : Nat} {a21o : Nat} {h : Heap} {P : AV → Heap → Prop} (hF : M.fn 100 = some F100) (hd : D100 M by_1 a11 a11o a21 a21o h P) : CallE M 100 [(.int .i64 by_1), (.ptr a11 a11o), (.ptr a21 a21o)] h P :=
  callE_of_wp (hi := (.op ⟨.raw, 0, true, 0⟩ (.op ⟨(.int .i64), 1, true, 0⟩ (.op ⟨.raw, 0, true, 0⟩ (.op ⟨(.tup [(.int .i64), (.int .i64)]), 0, true, 0⟩ (rs 6 (.op ⟨(.tup [(.int .i64), (.int .i64)]), 0, true, 0⟩ (rs 6 (.op ⟨(.int .i64), 1, true, 0⟩ (rs 3 (.op ⟨(.int .i64), 1, true, 0⟩ (rs 2 .nil)))))))))))) (args := [(.av (.int .i64 by_1)), (.av (.ptr a11 a11o)), (.av (.ptr a21 a21o))]) hF (by simp [oks, SV.ok]) (Eq.mp (α := D100 M by_1 a11 a11o a21 a21o h P) (by kernel_rfl) hd)
/-- lockless/locklessref16.mod -/
def D102 (M : Model) (a1 : Int) (n1 : Int) (h : Heap) (P : AV → Heap → Prop) : Prop :=
n1 ≠ 0 ∧
n1 ≠ 0 ∧
P (.int .i64 (Int.tmod (IntKind.wrap .i64 ((Int.tmod a1 n1) + n1)) n1)) ([] : Heap)
theorem d102 {M : Model} {a1 : Int} {n1 : Int} {h : Heap} {P : AV → Heap → Prop} (hF : M.fn 102 = some F102) (hd : D102 M a1 n1 h P) : CallE M 102 [(.int .i64 a1), (.int .i64 n1)] h P :=
  callE_of_wp (hi := (rs 3 (.op ⟨.raw, 0, true, 1⟩ (rs 3 (.op ⟨.raw, 0, true, 1⟩ (.op ⟨.raw, 0, true, 0⟩ .nil)))))) (args := [(.av (.int .i64 a1)), (.av (.int .i64 n1))]) hF (by simp [oks, SV.ok]) (Eq.mp (α := D102 M a1 n1 h P) (by kernel_rfl) hd)
/-- lockless/locklessref16.down -/
def D103 (M : Model) (a1 : Int) (n1 : Int) (h : Heap) (P : AV → Heap → Prop) : Prop :=
n1 ≠ 0 ∧
((decide ((Int.tmod a1 n1) < 0)) = true → n1 ≠ 0 ∧
P (.int .i64 (IntKind.wrap .i64 ((IntKind.wrap .i64 (Int.tdiv a1 n1)) - 1))) ([] : Heap)) ∧
((decide ((Int.tmod a1 n1) < 0)) = false → n1 ≠ 0 ∧
P (.int .i64 (IntKind.wrap .i64 (Int.tdiv a1 n1))) ([] : Heap))
theorem d103 {M : Model} {a1 : Int} {n1 : Int} {h : Heap} {P : AV → Heap → Prop} (hF : M.fn 103 = some F103) (hd : D103 M a1 n1 h P) : CallE M 103 [(.int .i64 a1), (.int .i64 n1)] h P :=
  callE_of_wp (hi := (rs 3 (.op ⟨.raw, 0, true, 1⟩ (.op ⟨.raw, 0, true, 0⟩ (.condS (rs 2 (.op ⟨.raw, 0, true, 1⟩ (rs 2 .nil))) (rs 2 (.op ⟨.raw, 0, true, 1⟩ (.op ⟨.raw, 0, true, 0⟩ .nil)))))))) (args := [(.av (.int .i64 a1)), (.av (.int .i64 n1))]) hF (by simp [oks, SV.ok]) (Eq.mp (α := D103 M a1 n1 h P) (by kernel_rfl) hd)
end Go.Proofs.YtifkphfhadimaaaGreatDoor.Mini

