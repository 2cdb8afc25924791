import Derived.Test.YtifkphfhadimaaaGreatDoorMiniZ
import Derived.Test.YtifkphfhadimaaaGreatDoorAbsG4
import Derived.Test.YtifkphfhadimaaaGreatDoorAbsG7
set_option linter.unusedVariables false
set_option linter.unusedSimpArgs false
set_option maxRecDepth 100000
namespace Go.Proofs.YtifkphfhadimaaaGreatDoor.Mini
open Go.Abs Mini
def D67 (M : Model) (p1 : List UInt8) (p2 : Int) (p3 : Slc) (routine1 : Int) (h : Heap) (P : AV → Heap → Prop) : Prop :=
CallE M 38 [(.agg [(.str p1), (.int .i64 p2), p3.av])] (h ++ [AObj.arr [(.str p1), (.int .i64 p2), p3.av] 3 false]) fun rv1 t1 =>
∃ (n1 : Int), rv1 = (.int .i64 n1) ∧
((n1 != 0) = true → P (.tuple [.nilslice, (.int .i64 n1)]) (AObj.arr [(.str p1), (.int .i64 p2), p3.av] 3 false :: t1)) ∧
((n1 != 0) = false → ((decide (routine1 < 0)) = false → ((decide (routine1 ≥ ((p3.len : Nat) : Int))) = true → P (.tuple [.nilslice, (.int .i64 1)]) (AObj.arr [(.str p1), (.int .i64 p2), p3.av] 3 false :: t1)) ∧
((decide (routine1 ≥ ((p3.len : Nat) : Int))) = false → (0 ≤ routine1 ∧
routine1 < (p3.len : Int)) ∧
∃ (l1 : Slc), rdVar h none p3.b ((p3.o + (routine1 : Int).toNat * 2) + 1) = some l1.av ∧
(0 ≤ ((l1.len : Nat) : Int) ∧
((l1.len : Nat) : Int) = ((l1.len : Nat) : Int) ∧
((l1.len : Nat) : Int) * ((1 : Nat) : Int) ≤ 140737488355328) ∧
∃ (I1 : Nat → Slc → (List AV) → Heap → Prop), (∃ n2, I1 n2 (Slc.mk (h.length + (1 + (t1.length + 1))) 0 1 false) (List.flatten (List.replicate (Int.toNat ((l1.len : Nat) : Int)) [(.bool false)])) [AObj.arr [(.int .i64 0)] 1 false]) ∧
∀ (n3 : Nat) (todo1 : Slc) (c1 : List AV) (t2 : Heap), I1 n3 todo1 c1 t2 → ((decide (((todo1.len : Nat) : Int) > 0)) = true → (0 ≤ (IntKind.wrap .i64 (((todo1.len : Nat) : Int) - 1)) ∧
(IntKind.wrap .i64 (((todo1.len : Nat) : Int) - 1)) < (todo1.len : Int)) ∧
∃ (n5 : Int), rdVar (h ++ (AObj.arr [(.str p1), (.int .i64 p2), p3.av] 3 false :: (t1 ++ (AObj.arr c1 1 false :: t2)))) none todo1.b (todo1.o + ((IntKind.wrap .i64 (((todo1.len : Nat) : Int) - 1)) : Int).toNat * 1) = some (.int .i64 n5) ∧
(todo1.nil = false → ∃ (c2 : List AV) (c2r : Bool), ((h ++ (AObj.arr [(.str p1), (.int .i64 p2), p3.av] 3 false :: (t1 ++ (AObj.arr c1 1 false :: t2)))))[todo1.b]? = some (.arr c2 1 c2r)) ∧
(0 ≤ (0 : Int) ∧
(0 : Int) ≤ (IntKind.wrap .i64 (((todo1.len : Nat) : Int) - 1)) ∧
(IntKind.wrap .i64 (((todo1.len : Nat) : Int) - 1)) ≤ ((todo1.len : Nat) : Int)) ∧
((decide (n5 ≥ ((l1.len : Nat) : Int))) = false → (0 ≤ n5 ∧
n5 < (((Int.toNat ((l1.len : Nat) : Int)) : Nat) : Int)) ∧
∃ (b1 : Bool), partOf none c1 (0 + (n5 : Int).toNat * 1) = some (.bool b1) ∧
(b1 = true → ∃ n4, n4 < n3 ∧
I1 n4 (Slc.mk todo1.b (todo1.o + Int.toNat (0 : Int) * 1) (Int.toNat (IntKind.wrap .i64 (((todo1.len : Nat) : Int) - 1)) - Int.toNat (0 : Int)) todo1.nil) c1 t2) ∧
(b1 = false → (0 ≤ n5 ∧
n5 < (((Int.toNat ((l1.len : Nat) : Int)) : Nat) : Int)) ∧
(0 + (n5 : Int).toNat * 1) + 1 ≤ List.length (α := AV) c1 ∧
∃ (J1 : Slc → Heap → Prop), ((0 ≤ n5 ∧
n5 < (l1.len : Int)) ∧
∃ (n6 : Int), rdVar h none l1.b (l1.o + (n5 : Int).toNat * 11) = some (.int .i64 n6) ∧
CallE M 121 [(.int .i64 n6)] (h ++ (AObj.arr [(.str p1), (.int .i64 p2), p3.av] 3 false :: (t1 ++ (AObj.arr (setCells c1 (0 + (n5 : Int).toNat * 1) [(.bool true)]) 1 false :: t2)))) fun rv2 t3 =>
∃ (b2 : Bool), rv2 = (.bool b2) ∧
(b2 = true → (0 ≤ n5 ∧
n5 < (l1.len : Int)) ∧
∃ (n7 : Int), rdVar h none l1.b ((l1.o + (n5 : Int).toNat * 11) + 10) = some (.int .i64 n7) ∧
∃ (old1 : List AV) (g1 : Heap), (((Slc.mk todo1.b (todo1.o + Int.toNat (0 : Int) * 1) (Int.toNat (IntKind.wrap .i64 (((todo1.len : Nat) : Int) - 1)) - Int.toNat (0 : Int)) todo1.nil).nil = true ∧
old1 = [] ∧
g1 = t2) ∨ ((Slc.mk todo1.b (todo1.o + Int.toNat (0 : Int) * 1) (Int.toNat (IntKind.wrap .i64 (((todo1.len : Nat) : Int) - 1)) - Int.toNat (0 : Int)) todo1.nil).nil = false ∧
∃ (k1 : Nat) (c3 : List AV), (Slc.mk todo1.b (todo1.o + Int.toNat (0 : Int) * 1) (Int.toNat (IntKind.wrap .i64 (((todo1.len : Nat) : Int) - 1)) - Int.toNat (0 : Int)) todo1.nil).b = (h.length + (1 + (t1.length + 1))) + k1 ∧
(t2)[k1]? = some (.arr c3 1 false) ∧
(Slc.mk todo1.b (todo1.o + Int.toNat (0 : Int) * 1) (Int.toNat (IntKind.wrap .i64 (((todo1.len : Nat) : Int) - 1)) - Int.toNat (0 : Int)) todo1.nil).o + (Slc.mk todo1.b (todo1.o + Int.toNat (0 : Int) * 1) (Int.toNat (IntKind.wrap .i64 (((todo1.len : Nat) : Int) - 1)) - Int.toNat (0 : Int)) todo1.nil).n * 1 ≤ c3.length ∧
old1 = (c3.drop (Slc.mk todo1.b (todo1.o + Int.toNat (0 : Int) * 1) (Int.toNat (IntKind.wrap .i64 (((todo1.len : Nat) : Int) - 1)) - Int.toNat (0 : Int)) todo1.nil).o).take ((Slc.mk todo1.b (todo1.o + Int.toNat (0 : Int) * 1) (Int.toNat (IntKind.wrap .i64 (((todo1.len : Nat) : Int) - 1)) - Int.toNat (0 : Int)) todo1.nil).n * 1) ∧
g1 = t2.set k1 .dead)) ∧
((Slc.mk todo1.b (todo1.o + Int.toNat (0 : Int) * 1) (Int.toNat (IntKind.wrap .i64 (((todo1.len : Nat) : Int) - 1)) - Int.toNat (0 : Int)) todo1.nil).len + 1) * 8 ≤ 140737488355328 ∧
J1 (Slc.mk (h.length + (1 + (t1.length + (1 + (g1.length + (t3.length + 1)))))) 0 ((Slc.mk todo1.b (todo1.o + Int.toNat (0 : Int) * 1) (Int.toNat (IntKind.wrap .i64 (((todo1.len : Nat) : Int) - 1)) - Int.toNat (0 : Int)) todo1.nil).len + 1) false) (g1 ++ (t3 ++ (AObj.arr [(.int .i64 n7)] 1 false :: [AObj.arr (old1 ++ [(.int .i64 n7)]) 1 false])))) ∧
(b2 = false → J1 (Slc.mk todo1.b (todo1.o + Int.toNat (0 : Int) * 1) (Int.toNat (IntKind.wrap .i64 (((todo1.len : Nat) : Int) - 1)) - Int.toNat (0 : Int)) todo1.nil) (t2 ++ t3))) ∧
(∀ (todo2 : Slc) (t4 : Heap), J1 todo2 t4 → (0 ≤ n5 ∧
n5 < (l1.len : Int)) ∧
∃ (n8 : Int), rdVar h none l1.b (l1.o + (n5 : Int).toNat * 11) = some (.int .i64 n8) ∧
((n8 != 10) = true → ((n8 != 12) = true → ((n8 != 25) = true → ∃ (old2 : List AV) (g2 : Heap), ((todo2.nil = true ∧
old2 = [] ∧
g2 = t4) ∨ (todo2.nil = false ∧
∃ (k2 : Nat) (c4 : List AV), todo2.b = (h.length + (1 + (t1.length + 1))) + k2 ∧
(t4)[k2]? = some (.arr c4 1 false) ∧
todo2.o + todo2.n * 1 ≤ c4.length ∧
old2 = (c4.drop todo2.o).take (todo2.n * 1) ∧
g2 = t4.set k2 .dead)) ∧
(todo2.len + 1) * 8 ≤ 140737488355328 ∧
∃ n4, n4 < n3 ∧
I1 n4 (Slc.mk (h.length + (1 + (t1.length + (1 + (g2.length + 1))))) 0 (todo2.len + 1) false) (setCells c1 (0 + (n5 : Int).toNat * 1) [(.bool true)]) (g2 ++ (AObj.arr [(.int .i64 (IntKind.wrap .i64 (n5 + 1)))] 1 false :: [AObj.arr (old2 ++ [(.int .i64 (IntKind.wrap .i64 (n5 + 1)))]) 1 false]))) ∧
((n8 != 25) = false → ∃ n4, n4 < n3 ∧
I1 n4 todo2 (setCells c1 (0 + (n5 : Int).toNat * 1) [(.bool true)]) t4)) ∧
((n8 != 12) = false → ∃ n4, n4 < n3 ∧
I1 n4 todo2 (setCells c1 (0 + (n5 : Int).toNat * 1) [(.bool true)]) t4)) ∧
((n8 != 10) = false → ∃ n4, n4 < n3 ∧
I1 n4 todo2 (setCells c1 (0 + (n5 : Int).toNat * 1) [(.bool true)]) t4)))) ∧
((decide (n5 ≥ ((l1.len : Nat) : Int))) = true → ∃ n4, n4 < n3 ∧
I1 n4 (Slc.mk todo1.b (todo1.o + Int.toNat (0 : Int) * 1) (Int.toNat (IntKind.wrap .i64 (((todo1.len : Nat) : Int) - 1)) - Int.toNat (0 : Int)) todo1.nil) c1 t2)) ∧
((decide (((todo1.len : Nat) : Int) > 0)) = false → P (.tuple [(.slice (h.length + (1 + t1.length)) 0 (Int.toNat ((l1.len : Nat) : Int))), (.int .i64 0)]) (AObj.arr [(.str p1), (.int .i64 p2), p3.av] 3 false :: (t1 ++ (AObj.arr c1 1 false :: t2)))))) ∧
((decide (routine1 < 0)) = true → P (.tuple [.nilslice, (.int .i64 1)]) (AObj.arr [(.str p1), (.int .i64 p2), p3.av] 3 false :: t1)))
theorem d67 {M : Model} {p1 : List UInt8} {p2 : Int} {p3 : Slc} {routine1 : Int} {h : Heap} {P : AV → Heap → Prop} (hF : M.fn 67 = some F67) (hd : D67 M p1 p2 p3 routine1 h P) : CallE M 67 [(.agg [(.str p1), (.int .i64 p2), p3.av]), (.int .i64 routine1)] h P :=
  callE_of_wp (hi := (rs 4 (.op ⟨(.int .i64), 0, true, 0⟩ (rs 3 (.condS (rs 3 .nil) (rs 3 (.split ⟨.raw, 0, true, 0⟩ (rs 5 (.condS (rs 2 .nil) (rs 5 (.op ⟨.slc, 1, true, 0⟩ (rs 3 (.op ⟨.raw, 0, true, 1⟩ (rs 3 (.loop ⟨4, [(3, .cells, 1)], [(9, .slc)]⟩ (rs 3 (.condS (rs 5 (.op ⟨(.int .i64), 5, true, 0⟩ (rs 5 (.op ⟨.raw, 5, true, 0⟩ (rs 6 (.split ⟨.raw, 0, true, 0⟩ (.op ⟨.raw, 0, true, 0⟩ (.op ⟨.raw, 0, true, 1⟩ (.op ⟨.bool, 0, true, 0⟩ (.op ⟨.raw, 0, true, 0⟩ (.condS .nil (rs 2 (.op ⟨.raw, 0, true, 1⟩ (.op ⟨.raw, 0, true, 0⟩ (.join ⟨4, [], [(9, .slc)]⟩ (rs 4 (.op ⟨(.int .i64), 1, true, 0⟩ (.op ⟨.bool, 0, true, 0⟩ (.condS (rs 5 (.op ⟨(.int .i64), 1, true, 0⟩ (.op ⟨.raw, 0, true, 0⟩ (.op ⟨.raw, 4, true, 0⟩ (.op ⟨.raw, 0, true, 0⟩ .nil))))) .nil)))) (rs 4 (.op ⟨(.int .i64), 1, true, 0⟩ (rs 4 (.split ⟨.raw, 0, true, 0⟩ (rs 3 (.split ⟨.raw, 0, true, 0⟩ (rs 2 (.condS (rs 4 (.op ⟨.raw, 4, true, 0⟩ (.op ⟨.raw, 0, true, 0⟩ .nil))) .nil)) (rs 2 (.condL .nil)))) (rs 6 (.condL .nil))))))))))))))) (rs 4 (.condL .nil)))))))) (rs 3 .nil))))))))))) (rs 5 (.condL (rs 2 .nil)))))))))) (args := [(.agg [(.av (.str p1)), (.av (.int .i64 p2)), (.slc p3)]), (.av (.int .i64 routine1))]) hF (by simp [oks, SV.ok]) (Eq.mp (α := D67 M p1 p2 p3 routine1 h P) (by kernel_rfl) hd)
end Go.Proofs.YtifkphfhadimaaaGreatDoor.Mini

