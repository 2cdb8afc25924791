import Derived.Test.YtifkphfhadimaaaGreatDoorMiniW
import Derived.Test.YtifkphfhadimaaaGreatDoorAbsG4
import Derived.Test.YtifkphfhadimaaaGreatDoorAbsG7
set_option linter.unusedVariables false
set_option linter.unusedSimpArgs false
set_option maxRecDepth 100000
namespace Go.Proofs.YtifkphfhadimaaaGreatDoor.Mini
open Go.Abs Mini
def D23 (M : Model) (p1 : List UInt8) (p2 : Int) (p3 : Slc) (routine1 : Int) (name1 : List UInt8) (h : Heap) (P : AV → Heap → Prop) : Prop :=
CallE M 50 [(.agg [(.str p1), (.int .i64 p2), p3.av])] (h ++ [AObj.arr [(.str p1), (.int .i64 p2), p3.av] 3 false]) fun rv1 t1 =>
∃ (b1 : Bool), rv1 = (.bool b1) ∧
(b1 = false → ((decide (((name1.length : Nat) : Int) > 100)) = true →
CallE M 51 [] (h ++ (AObj.arr [(.str p1), (.int .i64 p2), p3.av] 3 false :: t1)) fun rv2 t2 =>
∃ (b2 : Bool), rv2 = (.bool b2) ∧
P (.bool b2) (AObj.arr [(.str p1), (.int .i64 p2), p3.av] 3 false :: (t1 ++ t2))) ∧
((decide (((name1.length : Nat) : Int) > 100)) = false →
CallE M 35 [(.agg [(.str p1), (.int .i64 p2), p3.av]), (.str name1)] (h ++ (AObj.arr [(.str p1), (.int .i64 p2), p3.av] 3 false :: t1)) fun rv3 t3 =>
∃ (r1 : Int) (r2 : Int), rv3 = (.tuple [(.int .i64 r1), (.int .i64 r2)]) ∧
CallE M 68 [(.agg [(.str p1), (.int .i64 p2), p3.av]), (.str name1)] (h ++ (AObj.arr [(.str p1), (.int .i64 p2), p3.av] 3 false :: (t1 ++ t3))) fun rv4 t4 =>
∃ (r3 : Int) (r4 : Int), rv4 = (.tuple [(.int .i64 r3), (.int .i64 r4)]) ∧
CallE M 69 [(.agg [(.str p1), (.int .i64 p2), p3.av]), (.int .i64 routine1)] (h ++ (AObj.arr [(.str p1), (.int .i64 p2), p3.av] 3 false :: (t1 ++ (t3 ++ t4)))) fun rv5 t5 =>
∃ (r5 : Slc) (r6 : Int), rv5 = (.tuple [r5.av, (.int .i64 r6)]) ∧
CallE M 70 [(.agg [(.str p1), (.int .i64 p2), p3.av]), (.int .i64 routine1)] (h ++ (AObj.arr [(.str p1), (.int .i64 p2), p3.av] 3 false :: (t1 ++ (t3 ++ (t4 ++ t5))))) fun rv6 t6 =>
∃ (r7 : Slc) (r8 : Int), rv6 = (.tuple [r7.av, (.int .i64 r8)]) ∧
CallE M 67 [(.agg [(.str p1), (.int .i64 p2), p3.av]), (.int .i64 routine1)] (h ++ (AObj.arr [(.str p1), (.int .i64 p2), p3.av] 3 false :: (t1 ++ (t3 ++ (t4 ++ (t5 ++ t6)))))) fun rv7 t7 =>
∃ (r9 : Slc) (r10 : Int), rv7 = (.tuple [r9.av, (.int .i64 r10)]) ∧
CallE M 71 [(.agg [(.str p1), (.int .i64 p2), p3.av]), (.int .i64 routine1)] (h ++ (AObj.arr [(.str p1), (.int .i64 p2), p3.av] 3 false :: (t1 ++ (t3 ++ (t4 ++ (t5 ++ (t6 ++ t7))))))) fun rv8 t8 =>
∃ (r11 : Slc) (r12 : Int), rv8 = (.tuple [r11.av, (.int .i64 r12)]) ∧
((r1 == r3) = true → ((r2 == r4) = true → ((r6 == r8) = true → ((r10 == r12) = true →
CallE M 72 [r5.av, r7.av] (h ++ (AObj.arr [(.str p1), (.int .i64 p2), p3.av] 3 false :: (t1 ++ (t3 ++ (t4 ++ (t5 ++ (t6 ++ (t7 ++ t8)))))))) fun rv9 t9 =>
∃ (b3 : Bool), rv9 = (.bool b3) ∧
(b3 = true →
CallE M 73 [r9.av, r11.av] (h ++ (AObj.arr [(.str p1), (.int .i64 p2), p3.av] 3 false :: (t1 ++ (t3 ++ (t4 ++ (t5 ++ (t6 ++ (t7 ++ (t8 ++ t9))))))))) fun rv10 t10 =>
∃ (b4 : Bool), rv10 = (.bool b4) ∧
(b4 = true →
CallE M 51 [] (h ++ (AObj.arr [(.str p1), (.int .i64 p2), p3.av] 3 false :: (t1 ++ (t3 ++ (t4 ++ (t5 ++ (t6 ++ (t7 ++ (t8 ++ (t9 ++ t10)))))))))) fun rv11 t11 =>
∃ (b5 : Bool), rv11 = (.bool b5) ∧
P (.bool b5) (AObj.arr [(.str p1), (.int .i64 p2), p3.av] 3 false :: (t1 ++ (t3 ++ (t4 ++ (t5 ++ (t6 ++ (t7 ++ (t8 ++ (t9 ++ (t10 ++ t11))))))))))) ∧
(b4 = false → P (.bool false) (AObj.arr [(.str p1), (.int .i64 p2), p3.av] 3 false :: (t1 ++ (t3 ++ (t4 ++ (t5 ++ (t6 ++ (t7 ++ (t8 ++ (t9 ++ t10))))))))))) ∧
(b3 = false → P (.bool false) (AObj.arr [(.str p1), (.int .i64 p2), p3.av] 3 false :: (t1 ++ (t3 ++ (t4 ++ (t5 ++ (t6 ++ (t7 ++ (t8 ++ t9)))))))))) ∧
((r10 == r12) = false → P (.bool false) (AObj.arr [(.str p1), (.int .i64 p2), p3.av] 3 false :: (t1 ++ (t3 ++ (t4 ++ (t5 ++ (t6 ++ (t7 ++ t8))))))))) ∧
((r6 == r8) = false → P (.bool false) (AObj.arr [(.str p1), (.int .i64 p2), p3.av] 3 false :: (t1 ++ (t3 ++ (t4 ++ (t5 ++ (t6 ++ (t7 ++ t8))))))))) ∧
((r2 == r4) = false → P (.bool false) (AObj.arr [(.str p1), (.int .i64 p2), p3.av] 3 false :: (t1 ++ (t3 ++ (t4 ++ (t5 ++ (t6 ++ (t7 ++ t8))))))))) ∧
((r1 == r3) = false → P (.bool false) (AObj.arr [(.str p1), (.int .i64 p2), p3.av] 3 false :: (t1 ++ (t3 ++ (t4 ++ (t5 ++ (t6 ++ (t7 ++ t8)))))))))) ∧
(b1 = true →
CallE M 51 [] (h ++ (AObj.arr [(.str p1), (.int .i64 p2), p3.av] 3 false :: t1)) fun rv12 t12 =>
∃ (b6 : Bool), rv12 = (.bool b6) ∧
P (.bool b6) (AObj.arr [(.str p1), (.int .i64 p2), p3.av] 3 false :: (t1 ++ t12)))
theorem d23 {M : Model} {p1 : List UInt8} {p2 : Int} {p3 : Slc} {routine1 : Int} {name1 : List UInt8} {h : Heap} {P : AV → Heap → Prop} (hF : M.fn 23 = some F23) (hd : D23 M p1 p2 p3 routine1 name1 h P) : CallE M 23 [(.agg [(.str p1), (.int .i64 p2), p3.av]), (.int .i64 routine1), (.str name1)] h P :=
  callE_of_wp (hi := (rs 3 (.op ⟨.bool, 0, true, 0⟩ (.op ⟨.raw, 0, true, 0⟩ (.split ⟨.raw, 0, true, 0⟩ (rs 3 (.condS (.op ⟨.bool, 0, true, 0⟩ (.op ⟨.raw, 0, true, 0⟩ .nil)) (rs 2 (.op ⟨(.tup [(.int .i64), (.int .i64)]), 0, true, 0⟩ (rs 7 (.op ⟨(.tup [(.int .i64), (.int .i64)]), 0, true, 0⟩ (rs 7 (.op ⟨(.tup [.slc, (.int .i64)]), 0, true, 0⟩ (rs 7 (.op ⟨(.tup [.slc, (.int .i64)]), 0, true, 0⟩ (rs 7 (.op ⟨(.tup [.slc, (.int .i64)]), 0, true, 0⟩ (rs 7 (.op ⟨(.tup [.slc, (.int .i64)]), 0, true, 0⟩ (rs 9 (.split ⟨.raw, 0, true, 0⟩ (rs 4 (.split ⟨.raw, 0, true, 0⟩ (rs 4 (.split ⟨.raw, 0, true, 0⟩ (rs 4 (.split ⟨.raw, 0, true, 0⟩ (.op ⟨.raw, 0, true, 0⟩ (.op ⟨.bool, 0, true, 0⟩ (rs 2 (.split ⟨.raw, 0, true, 0⟩ (.op ⟨.raw, 0, true, 0⟩ (.op ⟨.bool, 0, true, 0⟩ (rs 2 (.split ⟨.bool, 0, true, 0⟩ (rs 2 .nil) (rs 2 .nil))))) (rs 7 .nil))))) (rs 12 .nil))) (rs 17 .nil))) (rs 22 .nil))) (rs 27 .nil))))))))))))))))) (rs 3 (.condL (.op ⟨.bool, 0, true, 0⟩ (.op ⟨.raw, 0, true, 0⟩ .nil))))))))) (args := [(.agg [(.av (.str p1)), (.av (.int .i64 p2)), (.slc p3)]), (.av (.int .i64 routine1)), (.av (.str name1))]) hF (by simp [oks, SV.ok]) (Eq.mp (α := D23 M p1 p2 p3 routine1 name1 h P) (by kernel_rfl) hd)
def D35 (M : Model) (p1 : List UInt8) (p2 : Int) (p3 : Slc) (name1 : List UInt8) (h : Heap) (P : AV → Heap → Prop) : Prop :=
CallE M 38 [(.agg [(.str p1), (.int .i64 p2), p3.av])] (h ++ (AObj.arr [(.str p1), (.int .i64 p2), p3.av] 3 false :: [AObj.arr [(.str name1)] 1 false])) fun rv1 t1 =>
∃ (n1 : Int), rv1 = (.int .i64 n1) ∧
((n1 != 0) = true → P (.tuple [(.int .i64 0), (.int .i64 n1)]) (AObj.arr [(.str p1), (.int .i64 p2), p3.av] 3 false :: (AObj.arr [(.str name1)] 1 false :: t1))) ∧
((n1 != 0) = false →
CallE M 78 [p3.av, (.fn 79 [(.ptr (h.length + 1) 0)])] (h ++ (AObj.arr [(.str p1), (.int .i64 p2), p3.av] 3 false :: (AObj.arr [(.str name1)] 1 false :: t1))) fun rv2 t2 =>
∃ (n2 : Int), rv2 = (.int .i64 n2) ∧
((decide (n2 < 0)) = true → P (.tuple [(.int .i64 0), (.int .i64 5)]) (AObj.arr [(.str p1), (.int .i64 p2), p3.av] 3 false :: (AObj.arr [(.str name1)] 1 false :: (t1 ++ t2)))) ∧
((decide (n2 < 0)) = false → P (.tuple [(.int .i64 n2), (.int .i64 0)]) (AObj.arr [(.str p1), (.int .i64 p2), p3.av] 3 false :: (AObj.arr [(.str name1)] 1 false :: (t1 ++ t2)))))
theorem d35 {M : Model} {p1 : List UInt8} {p2 : Int} {p3 : Slc} {name1 : List UInt8} {h : Heap} {P : AV → Heap → Prop} (hF : M.fn 35 = some F35) (hd : D35 M p1 p2 p3 name1 h P) : CallE M 35 [(.agg [(.str p1), (.int .i64 p2), p3.av]), (.str name1)] h P :=
  callE_of_wp (hi := (rs 5 (.op ⟨(.int .i64), 0, true, 0⟩ (rs 3 (.condS (rs 3 .nil) (rs 3 (.op ⟨(.int .i64), 0, true, 0⟩ (rs 3 (.condS (rs 2 .nil) (rs 3 .nil)))))))))) (args := [(.agg [(.av (.str p1)), (.av (.int .i64 p2)), (.slc p3)]), (.av (.str name1))]) hF (by simp [oks, SV.ok]) (Eq.mp (α := D35 M p1 p2 p3 name1 h P) (by kernel_rfl) hd)
def D68 (M : Model) (p1 : List UInt8) (p2 : Int) (p3 : Slc) (name1 : List UInt8) (h : Heap) (P : AV → Heap → Prop) : Prop :=
CallE M 66 [(.agg [(.str p1), (.int .i64 p2), p3.av])] (h ++ [AObj.arr [(.str p1), (.int .i64 p2), p3.av] 3 false]) fun rv1 t1 =>
∃ (n1 : Int), rv1 = (.int .i64 n1) ∧
((n1 != 0) = true → P (.tuple [(.int .i64 0), (.int .i64 n1)]) (AObj.arr [(.str p1), (.int .i64 p2), p3.av] 3 false :: t1)) ∧
((n1 != 0) = false → ∃ (I1 : Nat → Int → Heap → Prop), (∃ n2, I1 n2 (0 : Int) ([] : Heap)) ∧
∀ (n3 : Nat) (k1 : Int) (t2 : Heap), I1 n3 k1 t2 → ((decide (k1 < ((p3.len : Nat) : Int))) = true → (0 ≤ k1 ∧
k1 < (p3.len : Int)) ∧
∃ (w1 : List UInt8), rdVar h none p3.b (p3.o + (k1 : Int).toNat * 2) = some (.str w1) ∧
((w1 == name1) = true → P (.tuple [(.int .i64 k1), (.int .i64 0)]) (AObj.arr [(.str p1), (.int .i64 p2), p3.av] 3 false :: (t1 ++ t2))) ∧
((w1 == name1) = false → ∃ n4, n4 < n3 ∧
I1 n4 (IntKind.wrap .i64 (k1 + 1)) t2)) ∧
((decide (k1 < ((p3.len : Nat) : Int))) = false → P (.tuple [(.int .i64 0), (.int .i64 5)]) (AObj.arr [(.str p1), (.int .i64 p2), p3.av] 3 false :: (t1 ++ t2))))
theorem d68 {M : Model} {p1 : List UInt8} {p2 : Int} {p3 : Slc} {name1 : List UInt8} {h : Heap} {P : AV → Heap → Prop} (hF : M.fn 68 = some F68) (hd : D68 M p1 p2 p3 name1 h P) : CallE M 68 [(.agg [(.str p1), (.int .i64 p2), p3.av]), (.str name1)] h P :=
  callE_of_wp (hi := (rs 4 (.op ⟨(.int .i64), 0, true, 0⟩ (rs 3 (.condS (rs 3 .nil) (.op ⟨.raw, 0, true, 0⟩ (.loop ⟨3, [], [(7, (.int .i64))]⟩ (rs 5 (.condS (rs 5 (.op ⟨.str, 1, true, 0⟩ (rs 2 (.condS (rs 3 .nil) (rs 3 .nil))))) (rs 2 .nil)))))))))) (args := [(.agg [(.av (.str p1)), (.av (.int .i64 p2)), (.slc p3)]), (.av (.str name1))]) hF (by simp [oks, SV.ok]) (Eq.mp (α := D68 M p1 p2 p3 name1 h P) (by kernel_rfl) hd)
def D69 (M : Model) (p1 : List UInt8) (p2 : Int) (p3 : Slc) (routine1 : Int) (h : Heap) (P : AV → Heap → Prop) : Prop :=
CallE M 38 [(.agg [(.str p1), (.int .i64 p2), p3.av])] (h ++ [AObj.arr [(.str p1), (.int .i64 p2), p3.av] 3 false]) fun rv1 t1 =>
∃ (n1 : Int), rv1 = (.int .i64 n1) ∧
((n1 != 0) = true → P (.tuple [.nilslice, (.int .i64 n1)]) (AObj.arr [(.str p1), (.int .i64 p2), p3.av] 3 false :: t1)) ∧
((n1 != 0) = false → ((decide (routine1 < 0)) = false → ((decide (routine1 ≥ ((p3.len : Nat) : Int))) = true → P (.tuple [.nilslice, (.int .i64 1)]) (AObj.arr [(.str p1), (.int .i64 p2), p3.av] 3 false :: t1)) ∧
((decide (routine1 ≥ ((p3.len : Nat) : Int))) = false → (0 ≤ routine1 ∧
routine1 < (p3.len : Int)) ∧
∃ (l1 : Slc), rdVar h none p3.b ((p3.o + (routine1 : Int).toNat * 2) + 1) = some l1.av ∧
∃ (I1 : Nat → Slc → Int → Heap → Prop), (∃ n2, I1 n2 (Slc.mk 0 0 0 true) (0 : Int) ([] : Heap)) ∧
∀ (n3 : Nat) (l2 : Slc) (x1 : Int) (t2 : Heap), I1 n3 l2 x1 t2 → ((decide (x1 < ((l1.len : Nat) : Int))) = true → (0 ≤ x1 ∧
x1 < (l1.len : Int)) ∧
∃ (x2 : Int) (x3 : Bool) (x4 : Int) (x5 : Int) (x6 : Int) (x7 : Int) (x8 : Int) (x9 : Int) (x10 : Int) (x11 : Int) (x12 : Int), rdVar h (some 11) l1.b (l1.o + (x1 : Int).toNat * 11) = some (.agg [(.int .i64 x2), (.bool x3), (.int .i64 x4), (.int .i64 x5), (.int .i64 x6), (.int .i64 x7), (.int .i64 x8), (.int .i64 x9), (.int .i64 x10), (.int .i64 x11), (.int .i64 x12)]) ∧
CallE M 121 [(.int .i64 x2)] (h ++ (AObj.arr [(.str p1), (.int .i64 p2), p3.av] 3 false :: (t1 ++ (t2 ++ [AObj.arr [(.int .i64 x2), (.bool x3), (.int .i64 x4), (.int .i64 x5), (.int .i64 x6), (.int .i64 x7), (.int .i64 x8), (.int .i64 x9), (.int .i64 x10), (.int .i64 x11), (.int .i64 x12)] 11 false])))) fun rv2 t3 =>
∃ (b1 : Bool), rv2 = (.bool b1) ∧
(b1 = true → ∃ (old1 : List AV) (g1 : Heap), ((l2.nil = true ∧
old1 = [] ∧
g1 = t2) ∨ (l2.nil = false ∧
∃ (k1 : Nat) (c1 : List AV), l2.b = (h.length + (1 + t1.length)) + k1 ∧
(t2)[k1]? = some (.arr c1 1 false) ∧
l2.o + l2.n * 1 ≤ c1.length ∧
old1 = (c1.drop l2.o).take (l2.n * 1) ∧
g1 = t2.set k1 .dead)) ∧
(l2.len + 1) * 8 ≤ 140737488355328 ∧
∃ n4, n4 < n3 ∧
I1 n4 (Slc.mk (h.length + (1 + (t1.length + (g1.length + (1 + (t3.length + 1)))))) 0 (l2.len + 1) false) (IntKind.wrap .i64 (x1 + 1)) (g1 ++ (AObj.arr [(.int .i64 x2), (.bool x3), (.int .i64 x4), (.int .i64 x5), (.int .i64 x6), (.int .i64 x7), (.int .i64 x8), (.int .i64 x9), (.int .i64 x10), (.int .i64 x11), (.int .i64 x12)] 11 false :: (t3 ++ (AObj.arr [(.int .i64 x12)] 1 false :: [AObj.arr (old1 ++ [(.int .i64 x12)]) 1 false]))))) ∧
(b1 = false → ∃ n4, n4 < n3 ∧
I1 n4 l2 (IntKind.wrap .i64 (x1 + 1)) (t2 ++ (AObj.arr [(.int .i64 x2), (.bool x3), (.int .i64 x4), (.int .i64 x5), (.int .i64 x6), (.int .i64 x7), (.int .i64 x8), (.int .i64 x9), (.int .i64 x10), (.int .i64 x11), (.int .i64 x12)] 11 false :: t3)))) ∧
((decide (x1 < ((l1.len : Nat) : Int))) = false → CallP M 122 [l2.av] (h ++ (AObj.arr [(.str p1), (.int .i64 p2), p3.av] 3 false :: t1)) t2 fun rv3 t4 =>
rv3 = (.tuple []) ∧
CallP M 123 [l2.av] (h ++ (AObj.arr [(.str p1), (.int .i64 p2), p3.av] 3 false :: t1)) t4 fun rv4 t5 =>
∃ (l3 : Slc), rv4 = l3.av ∧
P (.tuple [l3.av, (.int .i64 0)]) (AObj.arr [(.str p1), (.int .i64 p2), p3.av] 3 false :: (t1 ++ t5))))) ∧
((decide (routine1 < 0)) = true → P (.tuple [.nilslice, (.int .i64 1)]) (AObj.arr [(.str p1), (.int .i64 p2), p3.av] 3 false :: t1)))
theorem d69 {M : Model} {p1 : List UInt8} {p2 : Int} {p3 : Slc} {routine1 : Int} {h : Heap} {P : AV → Heap → Prop} (hF : M.fn 69 = some F69) (hd : D69 M p1 p2 p3 routine1 h P) : CallE M 69 [(.agg [(.str p1), (.int .i64 p2), p3.av]), (.int .i64 routine1)] h P :=
  callE_of_wp (hi := (rs 4 (.op ⟨(.int .i64), 0, true, 0⟩ (rs 3 (.condS (rs 3 .nil) (rs 3 (.split ⟨.raw, 0, true, 0⟩ (rs 5 (.condS (rs 2 .nil) (rs 6 (.op ⟨.slc, 1, true, 0⟩ (rs 2 (.loop ⟨3, [], [(7, .slc), (31, (.int .i64))]⟩ (.op ⟨.raw, 0, true, 0⟩ (.condS (.op ⟨.raw, 0, true, 0⟩ (.op ⟨(.agg [(.int .i64), .bool, (.int .i64), (.int .i64), (.int .i64), (.int .i64), (.int .i64), (.int .i64), (.int .i64), (.int .i64), (.int .i64)]), 1, true, 0⟩ (rs 4 (.op ⟨.bool, 0, true, 0⟩ (.condS (rs 4 (.op ⟨.raw, 3, true, 0⟩ (rs 3 .nil))) (rs 2 .nil)))))) (.op ⟨.raw, 0, true, 0⟩ (.op ⟨(.tup []), 3, true, 1⟩ (.op ⟨.raw, 0, true, 0⟩ (.op ⟨.slc, 3, true, 1⟩ (rs 2 .nil))))))))))))) (rs 5 (.condL (rs 2 .nil)))))))))) (args := [(.agg [(.av (.str p1)), (.av (.int .i64 p2)), (.slc p3)]), (.av (.int .i64 routine1))]) hF (by simp [oks, SV.ok]) (Eq.mp (α := D69 M p1 p2 p3 routine1 h P) (by kernel_rfl) hd)
def D70 (M : Model) (p1 : List UInt8) (p2 : Int) (p3 : Slc) (routine1 : Int) (h : Heap) (P : AV → Heap → Prop) : Prop :=
CallE M 66 [(.agg [(.str p1), (.int .i64 p2), p3.av])] (h ++ [AObj.arr [(.str p1), (.int .i64 p2), p3.av] 3 false]) fun rv1 t1 =>
∃ (n1 : Int), rv1 = (.int .i64 n1) ∧
((n1 != 0) = true → P (.tuple [.nilslice, (.int .i64 n1)]) (AObj.arr [(.str p1), (.int .i64 p2), p3.av] 3 false :: t1)) ∧
((n1 != 0) = false → ((decide (routine1 < 0)) = false → ((decide (routine1 ≥ ((p3.len : Nat) : Int))) = true → P (.tuple [.nilslice, (.int .i64 1)]) (AObj.arr [(.str p1), (.int .i64 p2), p3.av] 3 false :: t1)) ∧
((decide (routine1 ≥ ((p3.len : Nat) : Int))) = false → (0 ≤ routine1 ∧
routine1 < (p3.len : Int)) ∧
∃ (l1 : Slc), rdVar h none p3.b ((p3.o + (routine1 : Int).toNat * 2) + 1) = some l1.av ∧
∃ (I1 : Nat → Slc → Int → Heap → Prop), (∃ n2, I1 n2 (Slc.mk 0 0 0 true) (0 : Int) ([] : Heap)) ∧
∀ (n3 : Nat) (out1 : Slc) (at_1 : Int) (t2 : Heap), I1 n3 out1 at_1 t2 → ((decide (at_1 < ((l1.len : Nat) : Int))) = true → ∃ (I2 : Nat → Bool → Int → Heap → Prop), (∃ n5, I2 n5 false (0 : Int) ([] : Heap)) ∧
∀ (n6 : Nat) (is1 : Bool) (i1 : Int) (t3 : Heap), I2 n6 is1 i1 t3 → ((decide (i1 < ((l1.len : Nat) : Int))) = true → (is1 = false → (0 ≤ i1 ∧
i1 < (l1.len : Int)) ∧
∃ (n8 : Int), rdVar h none l1.b (l1.o + (i1 : Int).toNat * 11) = some (.int .i64 n8) ∧
CallE M 118 [(.int .i64 n8), (.int .u8 76)] (h ++ (AObj.arr [(.str p1), (.int .i64 p2), p3.av] 3 false :: (t1 ++ (t2 ++ t3)))) fun rv2 t4 =>
∃ (b1 : Bool), rv2 = (.bool b1) ∧
(b1 = true → (0 ≤ i1 ∧
i1 < (l1.len : Int)) ∧
∃ (n9 : Int), rdVar h none l1.b ((l1.o + (i1 : Int).toNat * 11) + 10) = some (.int .i64 n9) ∧
∃ n7, n7 < n6 ∧
I2 n7 (n9 == at_1) (IntKind.wrap .i64 (i1 + 1)) (t3 ++ t4)) ∧
(b1 = false → ∃ n7, n7 < n6 ∧
I2 n7 false (IntKind.wrap .i64 (i1 + 1)) (t3 ++ t4))) ∧
(is1 = true → ∃ n7, n7 < n6 ∧
I2 n7 true (IntKind.wrap .i64 (i1 + 1)) t3)) ∧
((decide (i1 < ((l1.len : Nat) : Int))) = false → (is1 = true → ∃ (old1 : List AV) (g1 : Heap), ((out1.nil = true ∧
old1 = [] ∧
g1 = t2) ∨ (out1.nil = false ∧
∃ (k1 : Nat) (c1 : List AV), out1.b = (h.length + (1 + t1.length)) + k1 ∧
(t2)[k1]? = some (.arr c1 1 false) ∧
out1.o + out1.n * 1 ≤ c1.length ∧
old1 = (c1.drop out1.o).take (out1.n * 1) ∧
g1 = t2.set k1 .dead)) ∧
(out1.len + 1) * 8 ≤ 140737488355328 ∧
∃ n4, n4 < n3 ∧
I1 n4 (Slc.mk (h.length + (1 + (t1.length + (g1.length + (t3.length + 1))))) 0 (out1.len + 1) false) (IntKind.wrap .i64 (at_1 + 1)) (g1 ++ (t3 ++ (AObj.arr [(.int .i64 at_1)] 1 false :: [AObj.arr (old1 ++ [(.int .i64 at_1)]) 1 false])))) ∧
(is1 = false → ∃ n4, n4 < n3 ∧
I1 n4 out1 (IntKind.wrap .i64 (at_1 + 1)) (t2 ++ t3)))) ∧
((decide (at_1 < ((l1.len : Nat) : Int))) = false → P (.tuple [out1.av, (.int .i64 0)]) (AObj.arr [(.str p1), (.int .i64 p2), p3.av] 3 false :: (t1 ++ t2))))) ∧
((decide (routine1 < 0)) = true → P (.tuple [.nilslice, (.int .i64 1)]) (AObj.arr [(.str p1), (.int .i64 p2), p3.av] 3 false :: t1)))
theorem d70 {M : Model} {p1 : List UInt8} {p2 : Int} {p3 : Slc} {routine1 : Int} {h : Heap} {P : AV → Heap → Prop} (hF : M.fn 70 = some F70) (hd : D70 M p1 p2 p3 routine1 h P) : CallE M 70 [(.agg [(.str p1), (.int .i64 p2), p3.av]), (.int .i64 routine1)] h P :=
  callE_of_wp (hi := (rs 4 (.op ⟨(.int .i64), 0, true, 0⟩ (rs 3 (.condS (rs 3 .nil) (rs 3 (.split ⟨.raw, 0, true, 0⟩ (rs 5 (.condS (rs 2 .nil) (rs 5 (.op ⟨.slc, 1, true, 0⟩ (rs 3 (.loop ⟨3, [], [(8, .slc), (9, (.int .i64))]⟩ (rs 4 (.condS (rs 2 (.loop ⟨4, [], [(10, .bool), (11, (.int .i64))]⟩ (rs 4 (.condS (rs 2 (.split ⟨.raw, 0, true, 0⟩ (rs 3 (.op ⟨(.int .i64), 1, true, 0⟩ (.op ⟨.bool, 0, true, 0⟩ (.op ⟨.raw, 0, true, 0⟩ (.split ⟨.raw, 0, true, 0⟩ (rs 3 (.op ⟨(.int .i64), 1, true, 0⟩ (rs 8 .nil))) (rs 12 .nil)))))) (rs 19 .nil))) (.op ⟨.raw, 0, true, 0⟩ (.condS (rs 3 (.op ⟨.raw, 3, true, 0⟩ (rs 4 .nil))) (rs 3 .nil))))))) (rs 3 .nil))))))))) (rs 5 (.condL (rs 2 .nil)))))))))) (args := [(.agg [(.av (.str p1)), (.av (.int .i64 p2)), (.slc p3)]), (.av (.int .i64 routine1))]) hF (by simp [oks, SV.ok]) (Eq.mp (α := D70 M p1 p2 p3 routine1 h P) (by kernel_rfl) hd)
def D71 (M : Model) (p1 : List UInt8) (p2 : Int) (p3 : Slc) (routine1 : Int) (h : Heap) (P : AV → Heap → Prop) : Prop :=
CallE M 66 [(.agg [(.str p1), (.int .i64 p2), p3.av])] (h ++ [AObj.arr [(.str p1), (.int .i64 p2), p3.av] 3 false]) fun rv1 t1 =>
∃ (n1 : Int), rv1 = (.int .i64 n1) ∧
((n1 != 0) = true → P (.tuple [.nilslice, (.int .i64 n1)]) (AObj.arr [(.str p1), (.int .i64 p2), p3.av] 3 false :: t1)) ∧
((n1 != 0) = false → ((decide (routine1 < 0)) = false → ((decide (routine1 ≥ ((p3.len : Nat) : Int))) = true → P (.tuple [.nilslice, (.int .i64 1)]) (AObj.arr [(.str p1), (.int .i64 p2), p3.av] 3 false :: t1)) ∧
((decide (routine1 ≥ ((p3.len : Nat) : Int))) = false → (0 ≤ routine1 ∧
routine1 < (p3.len : Int)) ∧
∃ (l1 : Slc), rdVar h none p3.b ((p3.o + (routine1 : Int).toNat * 2) + 1) = some l1.av ∧
(0 ≤ ((l1.len : Nat) : Int) ∧
((l1.len : Nat) : Int) = ((l1.len : Nat) : Int) ∧
((l1.len : Nat) : Int) * ((1 : Nat) : Int) ≤ 140737488355328) ∧
(0 ≤ (0 : Int) ∧
(0 : Int) < (((Int.toNat ((l1.len : Nat) : Int)) : Nat) : Int)) ∧
(0 + (0 : Int).toNat * 1) + 1 ≤ List.length (α := AV) (List.flatten (List.replicate (Int.toNat ((l1.len : Nat) : Int)) [(.bool false)])) ∧
∃ (I1 : Nat → Int → (List AV) → Heap → Prop), (∃ n2, I1 n2 (0 : Int) (setCells (List.flatten (List.replicate (Int.toNat ((l1.len : Nat) : Int)) [(.bool false)])) (0 + (0 : Int).toNat * 1) [(.bool true)]) ([] : Heap)) ∧
∀ (n3 : Nat) (round1 : Int) (c1 : List AV) (t2 : Heap), I1 n3 round1 c1 t2 → ((decide (round1 < ((l1.len : Nat) : Int))) = true → ∃ (I2 : Nat → Int → (List AV) → Heap → Prop), (∃ n5, I2 n5 (0 : Int) c1 ([] : Heap)) ∧
∀ (n6 : Nat) (i1 : Int) (c2 : List AV) (t3 : Heap), I2 n6 i1 c2 t3 → ((decide (i1 < ((l1.len : Nat) : Int))) = true → (0 ≤ i1 ∧
i1 < (((Int.toNat ((l1.len : Nat) : Int)) : Nat) : Int)) ∧
∃ (b1 : Bool), partOf none c2 (0 + (i1 : Int).toNat * 1) = some (.bool b1) ∧
((!b1) = true → ∃ n7, n7 < n6 ∧
I2 n7 (IntKind.wrap .i64 (i1 + 1)) c2 t3) ∧
((!b1) = false → ∃ (J1 : (List AV) → Heap → Prop), ((0 ≤ i1 ∧
i1 < (l1.len : Int)) ∧
∃ (n8 : Int), rdVar h none l1.b (l1.o + (i1 : Int).toNat * 11) = some (.int .i64 n8) ∧
CallE M 118 [(.int .i64 n8), (.int .u8 76)] (h ++ (AObj.arr [(.str p1), (.int .i64 p2), p3.av] 3 false :: (t1 ++ (AObj.arr c2 1 false :: (t2 ++ t3))))) fun rv2 t4 =>
∃ (b2 : Bool), rv2 = (.bool b2) ∧
(b2 = true → (0 ≤ i1 ∧
i1 < (l1.len : Int)) ∧
∃ (n9 : Int), rdVar h none l1.b ((l1.o + (i1 : Int).toNat * 11) + 10) = some (.int .i64 n9) ∧
(0 ≤ n9 ∧
n9 < (((Int.toNat ((l1.len : Nat) : Int)) : Nat) : Int)) ∧
(0 + (n9 : Int).toNat * 1) + 1 ≤ List.length (α := AV) c2 ∧
J1 (setCells c2 (0 + (n9 : Int).toNat * 1) [(.bool true)]) t4) ∧
(b2 = false → J1 c2 t4)) ∧
(∀ (c3 : List AV) (t5 : Heap), J1 c3 t5 → ((decide ((IntKind.wrap .i64 (i1 + 1)) < ((l1.len : Nat) : Int))) = true → (0 ≤ i1 ∧
i1 < (l1.len : Int)) ∧
∃ (n10 : Int), rdVar h none l1.b (l1.o + (i1 : Int).toNat * 11) = some (.int .i64 n10) ∧
((n10 != 10) = true → (0 ≤ i1 ∧
i1 < (l1.len : Int)) ∧
∃ (n11 : Int), rdVar h none l1.b (l1.o + (i1 : Int).toNat * 11) = some (.int .i64 n11) ∧
((n11 != 12) = true → (0 ≤ i1 ∧
i1 < (l1.len : Int)) ∧
∃ (n12 : Int), rdVar h none l1.b (l1.o + (i1 : Int).toNat * 11) = some (.int .i64 n12) ∧
((n12 != 25) = true → (0 ≤ (IntKind.wrap .i64 (i1 + 1)) ∧
(IntKind.wrap .i64 (i1 + 1)) < (((Int.toNat ((l1.len : Nat) : Int)) : Nat) : Int)) ∧
(0 + ((IntKind.wrap .i64 (i1 + 1)) : Int).toNat * 1) + 1 ≤ List.length (α := AV) c3 ∧
∃ n7, n7 < n6 ∧
I2 n7 (IntKind.wrap .i64 (i1 + 1)) (setCells c3 (0 + ((IntKind.wrap .i64 (i1 + 1)) : Int).toNat * 1) [(.bool true)]) (t3 ++ t5)) ∧
((n12 != 25) = false → ∃ n7, n7 < n6 ∧
I2 n7 (IntKind.wrap .i64 (i1 + 1)) c3 (t3 ++ t5))) ∧
((n11 != 12) = false → ∃ n7, n7 < n6 ∧
I2 n7 (IntKind.wrap .i64 (i1 + 1)) c3 (t3 ++ t5))) ∧
((n10 != 10) = false → ∃ n7, n7 < n6 ∧
I2 n7 (IntKind.wrap .i64 (i1 + 1)) c3 (t3 ++ t5))) ∧
((decide ((IntKind.wrap .i64 (i1 + 1)) < ((l1.len : Nat) : Int))) = false → ∃ n7, n7 < n6 ∧
I2 n7 (IntKind.wrap .i64 (i1 + 1)) c3 (t3 ++ t5))))) ∧
((decide (i1 < ((l1.len : Nat) : Int))) = false → ∃ n4, n4 < n3 ∧
I1 n4 (IntKind.wrap .i64 (round1 + 1)) c2 (t2 ++ t3))) ∧
((decide (round1 < ((l1.len : Nat) : Int))) = false → P (.tuple [(.slice (h.length + (1 + t1.length)) 0 (Int.toNat ((l1.len : Nat) : Int))), (.int .i64 0)]) (AObj.arr [(.str p1), (.int .i64 p2), p3.av] 3 false :: (t1 ++ (AObj.arr c1 1 false :: t2)))))) ∧
((decide (routine1 < 0)) = true → P (.tuple [.nilslice, (.int .i64 1)]) (AObj.arr [(.str p1), (.int .i64 p2), p3.av] 3 false :: t1)))
theorem d71 {M : Model} {p1 : List UInt8} {p2 : Int} {p3 : Slc} {routine1 : Int} {h : Heap} {P : AV → Heap → Prop} (hF : M.fn 71 = some F71) (hd : D71 M p1 p2 p3 routine1 h P) : CallE M 71 [(.agg [(.str p1), (.int .i64 p2), p3.av]), (.int .i64 routine1)] h P :=
  callE_of_wp (hi := (rs 4 (.op ⟨(.int .i64), 0, true, 0⟩ (rs 3 (.condS (rs 3 .nil) (rs 3 (.split ⟨.raw, 0, true, 0⟩ (rs 5 (.condS (rs 2 .nil) (rs 5 (.op ⟨.slc, 1, true, 0⟩ (rs 3 (.op ⟨.raw, 0, true, 1⟩ (rs 2 (.op ⟨.raw, 0, true, 1⟩ (rs 2 (.loop ⟨4, [(3, .cells, 1)], [(9, (.int .i64))]⟩ (rs 4 (.condS (.op ⟨.raw, 0, true, 0⟩ (.loop ⟨5, [(3, .cells, 1)], [(10, (.int .i64))]⟩ (rs 4 (.condS (rs 2 (.op ⟨.raw, 0, true, 1⟩ (.op ⟨.bool, 0, true, 0⟩ (.op ⟨.raw, 0, true, 0⟩ (.condS (rs 3 .nil) (.join ⟨6, [(3, .cells, 1)], []⟩ (rs 4 (.op ⟨(.int .i64), 1, true, 0⟩ (.op ⟨.bool, 0, true, 0⟩ (.condS (rs 5 (.op ⟨(.int .i64), 1, true, 0⟩ (.op ⟨.raw, 0, true, 1⟩ (.op ⟨.raw, 0, true, 0⟩ .nil)))) .nil)))) (rs 6 (.split ⟨.raw, 0, true, 0⟩ (rs 3 (.op ⟨(.int .i64), 1, true, 0⟩ (rs 3 (.split ⟨.raw, 0, true, 0⟩ (rs 3 (.op ⟨(.int .i64), 1, true, 0⟩ (rs 3 (.split ⟨.raw, 0, true, 0⟩ (rs 3 (.op ⟨(.int .i64), 1, true, 0⟩ (rs 2 (.condS (rs 3 (.op ⟨.raw, 0, true, 1⟩ (rs 4 .nil))) (rs 3 .nil))))) (rs 6 (.condL (rs 3 .nil))))))) (rs 14 (.condL (rs 3 .nil))))))) (rs 22 (.condL (rs 3 .nil))))))))))) (rs 3 .nil))))) (rs 3 .nil))))))))))))) (rs 5 (.condL (rs 2 .nil)))))))))) (args := [(.agg [(.av (.str p1)), (.av (.int .i64 p2)), (.slc p3)]), (.av (.int .i64 routine1))]) hF (by simp [oks, SV.ok]) (Eq.mp (α := D71 M p1 p2 p3 routine1 h P) (by kernel_rfl) hd)
def D72 (M : Model) (a1 : Slc) (b1 : Slc) (h : Heap) (P : AV → Heap → Prop) : Prop :=
((((a1.len : Nat) : Int) != ((b1.len : Nat) : Int)) = true → P (.bool false) ([] : Heap)) ∧
((((a1.len : Nat) : Int) != ((b1.len : Nat) : Int)) = false → ∃ (I1 : Nat → Int → Heap → Prop), (∃ n1, I1 n1 (0 : Int) ([] : Heap)) ∧
∀ (n2 : Nat) (i1 : Int) (t1 : Heap), I1 n2 i1 t1 → ((decide (i1 < ((a1.len : Nat) : Int))) = true → (0 ≤ i1 ∧
i1 < (a1.len : Int)) ∧
∃ (n4 : Int), rdVar h none a1.b (a1.o + (i1 : Int).toNat * 1) = some (.int .i64 n4) ∧
(0 ≤ i1 ∧
i1 < (b1.len : Int)) ∧
∃ (n5 : Int), rdVar h none b1.b (b1.o + (i1 : Int).toNat * 1) = some (.int .i64 n5) ∧
((n4 != n5) = true → P (.bool false) t1) ∧
((n4 != n5) = false → ∃ n3, n3 < n2 ∧
I1 n3 (IntKind.wrap .i64 (i1 + 1)) t1)) ∧
((decide (i1 < ((a1.len : Nat) : Int))) = false → P (.bool true) t1))
theorem d72 {M : Model} {a1 : Slc} {b1 : Slc} {h : Heap} {P : AV → Heap → Prop} (hF : M.fn 72 = some F72) (hd : D72 M a1 b1 h P) : CallE M 72 [a1.av, b1.av] h P :=
  callE_of_wp (hi := (rs 6 (.condS (.op ⟨.raw, 0, true, 0⟩ .nil) (.op ⟨.raw, 0, true, 0⟩ (.loop ⟨1, [], [(5, (.int .i64))]⟩ (rs 4 (.condS (rs 3 (.op ⟨(.int .i64), 1, true, 0⟩ (rs 3 (.op ⟨(.int .i64), 1, true, 0⟩ (.op ⟨.raw, 0, true, 0⟩ (.condS (.op ⟨.raw, 0, true, 0⟩ .nil) (rs 3 .nil))))))) (.op ⟨.raw, 0, true, 0⟩ .nil)))))))) (args := [(.slc a1), (.slc b1)]) hF (by simp [oks, SV.ok]) (Eq.mp (α := D72 M a1 b1 h P) (by kernel_rfl) hd)
def D73 (M : Model) (a1 : Slc) (b1 : Slc) (h : Heap) (P : AV → Heap → Prop) : Prop :=
((((a1.len : Nat) : Int) != ((b1.len : Nat) : Int)) = true → P (.bool false) ([] : Heap)) ∧
((((a1.len : Nat) : Int) != ((b1.len : Nat) : Int)) = false → ∃ (I1 : Nat → Int → Heap → Prop), (∃ n1, I1 n1 (0 : Int) ([] : Heap)) ∧
∀ (n2 : Nat) (i1 : Int) (t1 : Heap), I1 n2 i1 t1 → ((decide (i1 < ((a1.len : Nat) : Int))) = true → (0 ≤ i1 ∧
i1 < (a1.len : Int)) ∧
∃ (b2 : Bool), rdVar h none a1.b (a1.o + (i1 : Int).toNat * 1) = some (.bool b2) ∧
(0 ≤ i1 ∧
i1 < (b1.len : Int)) ∧
∃ (b3 : Bool), rdVar h none b1.b (b1.o + (i1 : Int).toNat * 1) = some (.bool b3) ∧
(((b2 == b3) != true) = true → P (.bool false) t1) ∧
(((b2 == b3) != true) = false → ∃ n3, n3 < n2 ∧
I1 n3 (IntKind.wrap .i64 (i1 + 1)) t1)) ∧
((decide (i1 < ((a1.len : Nat) : Int))) = false → P (.bool true) t1))
theorem d73 {M : Model} {a1 : Slc} {b1 : Slc} {h : Heap} {P : AV → Heap → Prop} (hF : M.fn 73 = some F73) (hd : D73 M a1 b1 h P) : CallE M 73 [a1.av, b1.av] h P :=
  callE_of_wp (hi := (rs 6 (.condS (.op ⟨.raw, 0, true, 0⟩ .nil) (.op ⟨.raw, 0, true, 0⟩ (.loop ⟨1, [], [(5, (.int .i64))]⟩ (rs 4 (.condS (rs 3 (.op ⟨.bool, 1, true, 0⟩ (rs 3 (.op ⟨.bool, 1, true, 0⟩ (.op ⟨.raw, 0, true, 0⟩ (.condS (.op ⟨.raw, 0, true, 0⟩ .nil) (rs 3 .nil))))))) (.op ⟨.raw, 0, true, 0⟩ .nil)))))))) (args := [(.slc a1), (.slc b1)]) hF (by simp [oks, SV.ok]) (Eq.mp (α := D73 M a1 b1 h P) (by kernel_rfl) hd)
def D79 (M : Model) (r1 : List UInt8) (r2 : Slc) (a11 : Nat) (a11o : Nat) (h : Heap) (P : AV → Heap → Prop) : Prop :=
∃ (w1 : List UInt8), rdVar h none a11 a11o = some (.str w1) ∧
P (.bool (r1 == w1)) [AObj.arr [(.str r1), r2.av] 2 false]
theorem d79 {M : Model} {r1 : List UInt8} {r2 : Slc} {a11 : Nat} {a11o : Nat} {h : Heap} {P : AV → Heap → Prop} (hF : M.fn 79 = some F79) (hd : D79 M r1 r2 a11 a11o h P) : CallE M 79 [(.agg [(.str r1), r2.av]), (.ptr a11 a11o)] h P :=
  callE_of_wp (hi := (rs 4 (.op ⟨.str, 1, true, 0⟩ (rs 2 .nil)))) (args := [(.agg [(.av (.str r1)), (.slc r2)]), (.av (.ptr a11 a11o))]) hF (by simp [oks, SV.ok]) (Eq.mp (α := D79 M r1 r2 a11 a11o h P) (by kernel_rfl) hd)
end Go.Proofs.YtifkphfhadimaaaGreatDoor.Mini

