/- What is left to be shown of functions of the seat: printed by this session's own program; the kernel finds each to be what the residual machine says. -/
import Derived.Test.YtifkphfhadimaaaGreatDoorMiniD
import Derived.Test.YtifkphfhadimaaaGreatDoorAbsG4
import Derived.Test.YtifkphfhadimaaaGreatDoorAbsG7
set_option linter.unusedVariables false
set_option linter.unusedSimpArgs false
set_option maxRecDepth 100000
namespace Go.Proofs.YtifkphfhadimaaaGreatDoor.Mini
open Go.Abs Mini
/-- lockless/locklessref16.Spread -/
def D47 (M : Model) (r1 : List UInt8) (r2 : Int) (r3 : Slc) (r4 : Int) (r5 : Int) (r6 : Bool) (r7 : Bool) (numbers1 : Slc) (h : Heap) (P : AV → Heap → Prop) : Prop :=
(0 ≤ (3 : Int) ∧
(3 : Int) = 3 ∧
(3 : Int) * ((24 : Nat) : Int) ≤ 140737488355328) ∧
∃ (I1 : Nat → Int → Int → (List AV) → Heap → Prop), (∃ n1, I1 n1 (0 : Int) (0 : Int) [.nilslice, .nilslice, .nilslice] ([] : Heap)) ∧
∀ (n3 : Nat) (n2 : Int) (i1 : Int) (c1 : List AV) (t1 : Heap), I1 n3 n2 i1 c1 t1 → ((decide (i1 < ((numbers1.len : Nat) : Int))) = true → (0 ≤ i1 ∧
i1 < (numbers1.len : Int)) ∧
∃ (n5 : Int), rdVar h none numbers1.b (numbers1.o + (i1 : Int).toNat * 1) = some (.int .i64 n5) ∧
CallE M 102 [(.int .i64 n5), (.int .i64 3)] (h ++ (AObj.arr [(.str r1), (.int .i64 r2), r3.av, (.int .i64 r4), (.int .i64 r5), (.bool r6), (.bool r7)] 7 false :: (AObj.arr c1 1 false :: t1))) fun rv1 t2 =>
∃ (n6 : Int), rv1 = (.int .i64 n6) ∧
CallE M 103 [(.int .i64 n5), (.int .i64 3)] (h ++ (AObj.arr [(.str r1), (.int .i64 r2), r3.av, (.int .i64 r4), (.int .i64 r5), (.bool r6), (.bool r7)] 7 false :: (AObj.arr c1 1 false :: (t1 ++ t2)))) fun rv2 t3 =>
∃ (n7 : Int), rv2 = (.int .i64 n7) ∧
CallE M 102 [(.int .i64 n7), (.int .i64 ((r3.len : Nat) : Int))] (h ++ (AObj.arr [(.str r1), (.int .i64 r2), r3.av, (.int .i64 r4), (.int .i64 r5), (.bool r6), (.bool r7)] 7 false :: (AObj.arr c1 1 false :: (t1 ++ (t2 ++ t3))))) fun rv3 t4 =>
∃ (n8 : Int), rv3 = (.int .i64 n8) ∧
(0 ≤ n8 ∧
n8 < (r3.len : Int)) ∧
∃ (x1 : List UInt8) (x2 : Int) (x3 : Int), rdVar h (some 3) r3.b (r3.o + (n8 : Int).toNat * 3) = some (.agg [(.str x1), (.int .i64 x2), (.int .i64 x3)]) ∧
∃ (J1 : (List UInt8) → Int → Int → Heap → Prop), (((decide (x2 > 0)) = true →
CallE M 103 [(.int .i64 n5), (.int .i64 60)] (h ++ (AObj.arr [(.str r1), (.int .i64 r2), r3.av, (.int .i64 r4), (.int .i64 r5), (.bool r6), (.bool r7)] 7 false :: (AObj.arr c1 1 false :: (t1 ++ (t2 ++ (t3 ++ (t4 ++ (AObj.arr [(.str x1), (.int .i64 x2), (.int .i64 x3)] 3 false :: [AObj.arr [(.str x1), (.int .i64 0), (.int .i64 0)] 3 false])))))))) fun rv4 t5 =>
∃ (n9 : Int), rv4 = (.int .i64 n9) ∧
CallE M 102 [(.int .i64 n9), (.int .i64 4)] (h ++ (AObj.arr [(.str r1), (.int .i64 r2), r3.av, (.int .i64 r4), (.int .i64 r5), (.bool r6), (.bool r7)] 7 false :: (AObj.arr c1 1 false :: (t1 ++ (t2 ++ (t3 ++ (t4 ++ (AObj.arr [(.str x1), (.int .i64 x2), (.int .i64 x3)] 3 false :: (AObj.arr [(.str x1), (.int .i64 0), (.int .i64 0)] 3 false :: t5))))))))) fun rv5 t6 =>
∃ (n10 : Int), rv5 = (.int .i64 n10) ∧
J1 (x1 : List UInt8) (if r5 < (IntKind.wrap .i64 (r4 + n10)) then r5 else (IntKind.wrap .i64 (r4 + n10))) (0 : Int) (t5 ++ t6)) ∧
((decide (x2 > 0)) = false → J1 (x1 : List UInt8) (0 : Int) (0 : Int) ([] : Heap))) ∧
(∀ (c2 : List UInt8) (c3 : Int) (c4 : Int) (t7 : Heap), J1 c2 c3 c4 t7 → ∃ (J2 : (List UInt8) → Int → Int → Heap → Prop), (((decide (x2 > 1)) = true →
CallE M 103 [(.int .i64 n5), (.int .i64 240)] (h ++ (AObj.arr [(.str r1), (.int .i64 r2), r3.av, (.int .i64 r4), (.int .i64 r5), (.bool r6), (.bool r7)] 7 false :: (AObj.arr c1 1 false :: (t1 ++ (t2 ++ (t3 ++ (t4 ++ (AObj.arr [(.str x1), (.int .i64 x2), (.int .i64 x3)] 3 false :: (AObj.arr [(.str c2), (.int .i64 c3), (.int .i64 c4)] 3 false :: t7))))))))) fun rv6 t8 =>
∃ (n11 : Int), rv6 = (.int .i64 n11) ∧
CallE M 102 [(.int .i64 n11), (.int .i64 4)] (h ++ (AObj.arr [(.str r1), (.int .i64 r2), r3.av, (.int .i64 r4), (.int .i64 r5), (.bool r6), (.bool r7)] 7 false :: (AObj.arr c1 1 false :: (t1 ++ (t2 ++ (t3 ++ (t4 ++ (AObj.arr [(.str x1), (.int .i64 x2), (.int .i64 x3)] 3 false :: (AObj.arr [(.str c2), (.int .i64 c3), (.int .i64 c4)] 3 false :: (t7 ++ t8)))))))))) fun rv7 t9 =>
∃ (n12 : Int), rv7 = (.int .i64 n12) ∧
J2 (c2 : List UInt8) c3 (if r5 < (IntKind.wrap .i64 (r4 + n12)) then r5 else (IntKind.wrap .i64 (r4 + n12))) (t8 ++ t9)) ∧
((decide (x2 > 1)) = false → J2 (c2 : List UInt8) c3 c4 ([] : Heap))) ∧
(∀ (c5 : List UInt8) (c6 : Int) (c7 : Int) (t10 : Heap), J2 c5 c6 c7 t10 → ((decide (n6 < x3)) = true → ((decide (n2 < 12)) = true → (0 ≤ n6 ∧
n6 < ((3 : Nat) : Int)) ∧
∃ (l1 : Slc), partOf none c1 (0 + (n6 : Int).toNat * 1) = some l1.av ∧
∃ (old1 : List AV) (g1 : Heap), ((l1.nil = true ∧
old1 = [] ∧
g1 = t1) ∨ (l1.nil = false ∧
∃ (k1 : Nat) (c8 : List AV), l1.b = (h.length + (1 + 1)) + k1 ∧
(t1)[k1]? = some (.arr c8 3 false) ∧
l1.o + l1.n * 3 ≤ c8.length ∧
old1 = (c8.drop l1.o).take (l1.n * 3) ∧
g1 = t1.set k1 .dead)) ∧
(l1.len + 1) * 32 ≤ 140737488355328 ∧
(0 ≤ n6 ∧
n6 < ((3 : Nat) : Int)) ∧
(0 + (n6 : Int).toNat * 1) + 1 ≤ List.length (α := AV) c1 ∧
∃ n4, n4 < n3 ∧
I1 n4 (IntKind.wrap .i64 (n2 + 1)) (IntKind.wrap .i64 (i1 + 1)) (setCells c1 (0 + (n6 : Int).toNat * 1) [(.slice (h.length + (1 + (1 + (g1.length + (t2.length + (t3.length + (t4.length + (1 + (1 + (t7.length + (t10.length + 1))))))))))) 0 (l1.len + 1))]) (g1 ++ (t2 ++ (t3 ++ (t4 ++ (AObj.arr [(.str x1), (.int .i64 x2), (.int .i64 x3)] 3 false :: (AObj.arr [(.str c5), (.int .i64 c6), (.int .i64 c7)] 3 false :: (t7 ++ (t10 ++ (AObj.arr [(.str c5), (.int .i64 c6), (.int .i64 c7)] 3 false :: [AObj.arr (old1 ++ [(.str c5), (.int .i64 c6), (.int .i64 c7)]) 3 false])))))))))) ∧
((decide (n2 < 12)) = false → ∃ n4, n4 < n3 ∧
I1 n4 n2 (IntKind.wrap .i64 (i1 + 1)) c1 (t1 ++ (t2 ++ (t3 ++ (t4 ++ (AObj.arr [(.str x1), (.int .i64 x2), (.int .i64 x3)] 3 false :: (AObj.arr [(.str c5), (.int .i64 c6), (.int .i64 c7)] 3 false :: (t7 ++ t10))))))))) ∧
((decide (n6 < x3)) = false → ∃ n4, n4 < n3 ∧
I1 n4 n2 (IntKind.wrap .i64 (i1 + 1)) c1 (t1 ++ (t2 ++ (t3 ++ (t4 ++ (AObj.arr [(.str x1), (.int .i64 x2), (.int .i64 x3)] 3 false :: (AObj.arr [(.str c5), (.int .i64 c6), (.int .i64 c7)] 3 false :: (t7 ++ t10))))))))))) ∧
((decide (i1 < ((numbers1.len : Nat) : Int))) = false → P (.slice (h.length + 1) 0 3) (AObj.arr [(.str r1), (.int .i64 r2), r3.av, (.int .i64 r4), (.int .i64 r5), (.bool r6), (.bool r7)] 7 false :: (AObj.arr c1 1 false :: t1)))
theorem d47 {M : Model} (hM : QuietOps M (isQ [102,103])) {r1 : List UInt8} {r2 : Int} {r3 : Slc} {r4 : Int} {r5 : Int} {r6 : Bool} {r7 : Bool} {numbers1 : Slc} {h : Heap} {P : AV → Heap → Prop} (hF : M.fn 47 = some F47) (hd : D47 M r1 r2 r3 r4 r5 r6 r7 numbers1 h P) : CallE M 47 [(.agg [(.str r1), (.int .i64 r2), r3.av, (.int .i64 r4), (.int .i64 r5), (.bool r6), (.bool r7)]), numbers1.av] h P :=
  callE_of_wpQ hM (hi := (rs 6 (.loop ⟨3, [(2, .cells, 1)], [(6, (.int .i64)), (7, (.int .i64))]⟩ (rs 4 (.condS (rs 3 (.op ⟨(.int .i64), 1, true, 0⟩ (rs 2 (.op ⟨(.int .i64), 0, true, 0⟩ (rs 4 (.op ⟨(.int .i64), 0, true, 0⟩ (rs 3 (.op ⟨(.int .i64), 0, true, 0⟩ (.op ⟨.raw, 0, true, 0⟩ (.op ⟨(.agg [.str, (.int .i64), (.int .i64)]), 1, true, 0⟩ (rs 7 (.join ⟨9, [(8, (.agg [.str, (.int .i64), (.int .i64)]), 3)], []⟩ (rs 3 (.condS (rs 3 (.op ⟨(.int .i64), 0, true, 0⟩ (.op ⟨(.int .i64), 0, true, 0⟩ (rs 6 .nil)))) .nil)) (.join ⟨10, [(8, (.agg [.str, (.int .i64), (.int .i64)]), 3)], []⟩ (rs 3 (.condS (rs 3 (.op ⟨(.int .i64), 0, true, 0⟩ (.op ⟨(.int .i64), 0, true, 0⟩ (rs 6 .nil)))) .nil)) (rs 5 (.split ⟨.raw, 0, true, 0⟩ (rs 2 (.condS (rs 4 (.op ⟨.raw, 0, true, 1⟩ (.op ⟨.slc, 0, true, 0⟩ (rs 2 (.op ⟨.raw, 3, true, 0⟩ (.op ⟨.raw, 0, true, 1⟩ (rs 7 .nil))))))) (rs 3 .nil))) (rs 2 (.condL (rs 3 .nil)))))))))))))))))) (rs 2 .nil)))))) (args := [(.agg [(.av (.str r1)), (.av (.int .i64 r2)), (.slc r3), (.av (.int .i64 r4)), (.av (.int .i64 r5)), (.av (.bool r6)), (.av (.bool r7))]), (.slc numbers1)]) hF (by simp [oks, SV.ok]) (Eq.mp (α := D47 M r1 r2 r3 r4 r5 r6 r7 numbers1 h P) (by kernel_rfl) hd)
end Go.Proofs.YtifkphfhadimaaaGreatDoor.Mini

