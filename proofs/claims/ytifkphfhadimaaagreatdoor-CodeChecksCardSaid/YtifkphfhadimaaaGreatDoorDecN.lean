import Derived.Test.YtifkphfhadimaaaGreatDoorMiniY
import Derived.Test.YtifkphfhadimaaaGreatDoorAbsG4
import Derived.Test.YtifkphfhadimaaaGreatDoorAbsG7
set_option linter.unusedVariables false
set_option linter.unusedSimpArgs false
set_option maxRecDepth 100000
namespace Go.Proofs.YtifkphfhadimaaaGreatDoor.Mini
open Go.Abs Mini
def D50 (M : Model) (p1 : List UInt8) (p2 : Int) (p3 : Slc) (h : Heap) (P : AV → Heap → Prop) : Prop :=
∃ (I1 : Nat → Int → Int → Heap → Prop), (∃ n1, I1 n1 (IntKind.wrap .i64 (((p3.len : Nat) : Int) + ((p1.length : Nat) : Int))) (0 : Int) ([] : Heap)) ∧
∀ (n3 : Nat) (n2 : Int) (k1 : Int) (t1 : Heap), I1 n3 n2 k1 t1 → ((decide (k1 < ((p3.len : Nat) : Int))) = true → ((decide (n2 < 800)) = true → (0 ≤ k1 ∧
k1 < (p3.len : Int)) ∧
∃ (l1 : Slc), rdVar h none p3.b ((p3.o + (k1 : Int).toNat * 2) + 1) = some l1.av ∧
(0 ≤ k1 ∧
k1 < (p3.len : Int)) ∧
∃ (w1 : List UInt8), rdVar h none p3.b (p3.o + (k1 : Int).toNat * 2) = some (.str w1) ∧
∃ n4, n4 < n3 ∧
I1 n4 (IntKind.wrap .i64 ((IntKind.wrap .i64 (n2 + ((l1.len : Nat) : Int))) + ((w1.length : Nat) : Int))) (IntKind.wrap .i64 (k1 + 1)) t1) ∧
((decide (n2 < 800)) = false → P (.bool (decide (n2 ≥ 800))) (AObj.arr [(.str p1), (.int .i64 p2), p3.av] 3 false :: t1))) ∧
((decide (k1 < ((p3.len : Nat) : Int))) = false → P (.bool (decide (n2 ≥ 800))) (AObj.arr [(.str p1), (.int .i64 p2), p3.av] 3 false :: t1))
theorem d50 {M : Model} {p1 : List UInt8} {p2 : Int} {p3 : Slc} {h : Heap} {P : AV → Heap → Prop} (hF : M.fn 50 = some F50) (hd : D50 M p1 p2 p3 h P) : CallE M 50 [(.agg [(.str p1), (.int .i64 p2), p3.av])] h P :=
  callE_of_wp (hi := (rs 11 (.loop ⟨2, [], [(3, (.int .i64)), (4, (.int .i64))]⟩ (rs 6 (.split ⟨.raw, 0, true, 0⟩ (rs 2 (.condS (rs 6 (.op ⟨.slc, 1, true, 0⟩ (rs 7 (.op ⟨.str, 1, true, 0⟩ (rs 6 .nil))))) (rs 3 .nil))) (rs 2 (.condL (rs 3 .nil)))))))) (args := [(.agg [(.av (.str p1)), (.av (.int .i64 p2)), (.slc p3)])]) hF (by simp [oks, SV.ok]) (Eq.mp (α := D50 M p1 p2 p3 h P) (by kernel_rfl) hd)
def D53 (M : Model) (p1 : List UInt8) (p2 : Int) (p3 : Slc) (q1 : List UInt8) (q2 : Int) (q3 : Slc) (h : Heap) (P : AV → Heap → Prop) : Prop :=
((!(p1 == q1)) = false → ((p2 != q2) = false → ((((p3.len : Nat) : Int) != ((q3.len : Nat) : Int)) = true → P (.bool false) (AObj.arr [(.str p1), (.int .i64 p2), p3.av] 3 false :: [AObj.arr [(.str q1), (.int .i64 q2), q3.av] 3 false])) ∧
((((p3.len : Nat) : Int) != ((q3.len : Nat) : Int)) = false → ∃ (I1 : Nat → Int → Heap → Prop), (∃ n1, I1 n1 (0 : Int) ([] : Heap)) ∧
∀ (n2 : Nat) (k1 : Int) (t1 : Heap), I1 n2 k1 t1 → ((decide (k1 < ((p3.len : Nat) : Int))) = true → (0 ≤ k1 ∧
k1 < (p3.len : Int)) ∧
∃ (x1 : List UInt8) (x2 : Slc), rdVar h (some 2) p3.b (p3.o + (k1 : Int).toNat * 2) = some (.agg [(.str x1), x2.av]) ∧
(0 ≤ k1 ∧
k1 < (q3.len : Int)) ∧
∃ (x3 : List UInt8) (x4 : Slc), rdVar h (some 2) q3.b (q3.o + (k1 : Int).toNat * 2) = some (.agg [(.str x3), x4.av]) ∧
((!(x1 == x3)) = false → ((((x2.len : Nat) : Int) != ((x4.len : Nat) : Int)) = true → P (.bool false) (AObj.arr [(.str p1), (.int .i64 p2), p3.av] 3 false :: (AObj.arr [(.str q1), (.int .i64 q2), q3.av] 3 false :: (t1 ++ (AObj.arr [(.str x1), x2.av] 2 false :: [AObj.arr [(.str x3), x4.av] 2 false]))))) ∧
((((x2.len : Nat) : Int) != ((x4.len : Nat) : Int)) = false → ∃ (I2 : Nat → Int → Heap → Prop), (∃ n4, I2 n4 (0 : Int) ([] : Heap)) ∧
∀ (n5 : Nat) (i1 : Int) (t2 : Heap), I2 n5 i1 t2 → ((decide (i1 < ((x2.len : Nat) : Int))) = true → (0 ≤ i1 ∧
i1 < (x2.len : Int)) ∧
∃ (x5 : Int) (x6 : Bool) (x7 : Int) (x8 : Int) (x9 : Int) (x10 : Int) (x11 : Int) (x12 : Int) (x13 : Int) (x14 : Int) (x15 : Int), rdVar h (some 11) x2.b (x2.o + (i1 : Int).toNat * 11) = some (.agg [(.int .i64 x5), (.bool x6), (.int .i64 x7), (.int .i64 x8), (.int .i64 x9), (.int .i64 x10), (.int .i64 x11), (.int .i64 x12), (.int .i64 x13), (.int .i64 x14), (.int .i64 x15)]) ∧
(0 ≤ i1 ∧
i1 < (x4.len : Int)) ∧
∃ (x16 : Int) (x17 : Bool) (x18 : Int) (x19 : Int) (x20 : Int) (x21 : Int) (x22 : Int) (x23 : Int) (x24 : Int) (x25 : Int) (x26 : Int), rdVar h (some 11) x4.b (x4.o + (i1 : Int).toNat * 11) = some (.agg [(.int .i64 x16), (.bool x17), (.int .i64 x18), (.int .i64 x19), (.int .i64 x20), (.int .i64 x21), (.int .i64 x22), (.int .i64 x23), (.int .i64 x24), (.int .i64 x25), (.int .i64 x26)]) ∧
((((x5 == x16) && ((x6 == x17) && ((x7 == x18) && ((x8 == x19) && ((x9 == x20) && ((x10 == x21) && ((x11 == x22) && ((x12 == x23) && ((x13 == x24) && ((x14 == x25) && ((x15 == x26) && true))))))))))) != true) = true → P (.bool false) (AObj.arr [(.str p1), (.int .i64 p2), p3.av] 3 false :: (AObj.arr [(.str q1), (.int .i64 q2), q3.av] 3 false :: (t1 ++ (AObj.arr [(.str x1), x2.av] 2 false :: (AObj.arr [(.str x3), x4.av] 2 false :: t2)))))) ∧
((((x5 == x16) && ((x6 == x17) && ((x7 == x18) && ((x8 == x19) && ((x9 == x20) && ((x10 == x21) && ((x11 == x22) && ((x12 == x23) && ((x13 == x24) && ((x14 == x25) && ((x15 == x26) && true))))))))))) != true) = false → ∃ n6, n6 < n5 ∧
I2 n6 (IntKind.wrap .i64 (i1 + 1)) t2)) ∧
((decide (i1 < ((x2.len : Nat) : Int))) = false → ∃ n3, n3 < n2 ∧
I1 n3 (IntKind.wrap .i64 (k1 + 1)) (t1 ++ (AObj.arr [(.str x1), x2.av] 2 false :: (AObj.arr [(.str x3), x4.av] 2 false :: t2)))))) ∧
((!(x1 == x3)) = true → P (.bool false) (AObj.arr [(.str p1), (.int .i64 p2), p3.av] 3 false :: (AObj.arr [(.str q1), (.int .i64 q2), q3.av] 3 false :: (t1 ++ (AObj.arr [(.str x1), x2.av] 2 false :: [AObj.arr [(.str x3), x4.av] 2 false])))))) ∧
((decide (k1 < ((p3.len : Nat) : Int))) = false → P (.bool true) (AObj.arr [(.str p1), (.int .i64 p2), p3.av] 3 false :: (AObj.arr [(.str q1), (.int .i64 q2), q3.av] 3 false :: t1))))) ∧
((p2 != q2) = true → P (.bool false) (AObj.arr [(.str p1), (.int .i64 p2), p3.av] 3 false :: [AObj.arr [(.str q1), (.int .i64 q2), q3.av] 3 false]))) ∧
((!(p1 == q1)) = true → P (.bool false) (AObj.arr [(.str p1), (.int .i64 p2), p3.av] 3 false :: [AObj.arr [(.str q1), (.int .i64 q2), q3.av] 3 false]))
theorem d53 {M : Model} {p1 : List UInt8} {p2 : Int} {p3 : Slc} {q1 : List UInt8} {q2 : Int} {q3 : Slc} {h : Heap} {P : AV → Heap → Prop} (hF : M.fn 53 = some F53) (hd : D53 M p1 p2 p3 q1 q2 q3 h P) : CallE M 53 [(.agg [(.str p1), (.int .i64 p2), p3.av]), (.agg [(.str q1), (.int .i64 q2), q3.av])] h P :=
  callE_of_wp (hi := (rs 9 (.split ⟨.raw, 0, true, 0⟩ (rs 6 (.split ⟨.raw, 0, true, 0⟩ (rs 7 (.condS (.op ⟨.raw, 0, true, 0⟩ .nil) (.op ⟨.raw, 0, true, 0⟩ (.loop ⟨3, [], [(5, (.int .i64))]⟩ (rs 5 (.condS (rs 4 (.op ⟨(.agg [.str, .slc]), 1, true, 0⟩ (rs 6 (.op ⟨(.agg [.str, .slc]), 1, true, 0⟩ (rs 8 (.split ⟨.raw, 0, true, 0⟩ (rs 7 (.condS (.op ⟨.raw, 0, true, 0⟩ .nil) (.op ⟨.raw, 0, true, 0⟩ (.loop ⟨6, [], [(8, (.int .i64))]⟩ (rs 5 (.condS (rs 4 (.op ⟨(.agg [(.int .i64), .bool, (.int .i64), (.int .i64), (.int .i64), (.int .i64), (.int .i64), (.int .i64), (.int .i64), (.int .i64), (.int .i64)]), 1, true, 0⟩ (rs 4 (.op ⟨(.agg [(.int .i64), .bool, (.int .i64), (.int .i64), (.int .i64), (.int .i64), (.int .i64), (.int .i64), (.int .i64), (.int .i64), (.int .i64)]), 1, true, 0⟩ (.op ⟨.raw, 0, true, 0⟩ (.condS (.op ⟨.raw, 0, true, 0⟩ .nil) (rs 3 .nil))))))) (rs 3 .nil))))))) (rs 7 (.condL (.op ⟨.raw, 0, true, 0⟩ .nil))))))))) (.op ⟨.raw, 0, true, 0⟩ .nil))))))) (rs 7 (.condL (.op ⟨.raw, 0, true, 0⟩ .nil))))) (rs 14 (.condL (.op ⟨.raw, 0, true, 0⟩ .nil)))))) (args := [(.agg [(.av (.str p1)), (.av (.int .i64 p2)), (.slc p3)]), (.agg [(.av (.str q1)), (.av (.int .i64 q2)), (.slc q3)])]) hF (by simp [oks, SV.ok]) (Eq.mp (α := D53 M p1 p2 p3 q1 q2 q3 h P) (by kernel_rfl) hd)
def D63 (M : Model) (p1 : List UInt8) (p2 : Int) (p3 : Slc) (h : Heap) (P : AV → Heap → Prop) : Prop :=
∃ (I1 : Nat → Int → (List UInt8) → Int → Slc → Heap → Prop), (∃ n1, I1 n1 (0 : Int) (p1 : List UInt8) p2 (Slc.mk 0 0 0 true) ([] : Heap)) ∧
∀ (n2 : Nat) (k1 : Int) (c1 : List UInt8) (c2 : Int) (c3 : Slc) (t1 : Heap), I1 n2 k1 c1 c2 c3 t1 → ((decide (k1 < ((p3.len : Nat) : Int))) = true → (0 ≤ k1 ∧
k1 < (p3.len : Int)) ∧
∃ (w1 : List UInt8), rdVar h none p3.b (p3.o + (k1 : Int).toNat * 2) = some (.str w1) ∧
(0 ≤ k1 ∧
k1 < (p3.len : Int)) ∧
∃ (l1 : Slc), rdVar h none p3.b ((p3.o + (k1 : Int).toNat * 2) + 1) = some l1.av ∧
CallP M 9999 [(.int .i64 11), (.int .i64 88), (.slice (h.length + (1 + (1 + (1 + t1.length)))) 0 0), l1.av] (h ++ (AObj.arr [(.str p1), (.int .i64 p2), p3.av] 3 false :: (AObj.arr [(.str []), (.int .i64 0), .nilslice] 3 false :: [AObj.arr [(.str c1), (.int .i64 c2), c3.av] 3 false]))) (t1 ++ [AObj.arr [] 11 false]) fun rv1 t2 =>
∃ (l2 : Slc), rv1 = l2.av ∧
∃ (old1 : List AV) (g1 : Heap), ((c3.nil = true ∧
old1 = [] ∧
g1 = t2) ∨ (c3.nil = false ∧
∃ (k2 : Nat) (c4 : List AV), c3.b = (h.length + (1 + (1 + 1))) + k2 ∧
(t2)[k2]? = some (.arr c4 2 false) ∧
c3.o + c3.n * 2 ≤ c4.length ∧
old1 = (c4.drop c3.o).take (c3.n * 2) ∧
g1 = t2.set k2 .dead)) ∧
(c3.len + 1) * 40 ≤ 140737488355328 ∧
∃ n3, n3 < n2 ∧
I1 n3 (IntKind.wrap .i64 (k1 + 1)) (c1 : List UInt8) c2 (Slc.mk (h.length + (1 + (1 + (1 + (g1.length + 1))))) 0 (c3.len + 1) false) (g1 ++ (AObj.arr [(.str w1), l2.av] 2 false :: [AObj.arr (old1 ++ [(.str w1), l2.av]) 2 false]))) ∧
((decide (k1 < ((p3.len : Nat) : Int))) = false → P (.agg [(.str c1), (.int .i64 c2), c3.av]) (AObj.arr [(.str p1), (.int .i64 p2), p3.av] 3 false :: (AObj.arr [(.str c1), (.int .i64 c2), c3.av] 3 false :: (AObj.arr [(.str c1), (.int .i64 c2), c3.av] 3 false :: t1))))
set_option maxHeartbeats 2000000 in
theorem d63 {M : Model} {p1 : List UInt8} {p2 : Int} {p3 : Slc} {h : Heap} {P : AV → Heap → Prop} (hF : M.fn 63 = some F63) (hd : D63 (apM 63 (apF (isS [25]) (relaxSF noS (isS [25]) ([0, 1, 2, 3, 4, 5, 6, 7, 9, 10, 11, 12, 13, 14, 8, 15, 16, 17, 18, 19, 20], [0, 1, 2, 3, 4, 5, 6, 7, 14, 8, 9, 10, 11, 12, 13, 15, 16, 17, 18, 19, 20]) F63))) p1 p2 p3 h P) : CallE M 63 [(.agg [(.str p1), (.int .i64 p2), p3.av])] h P :=
  callE_of_wpA (sf := isS [25]) (st := ([0, 1, 2, 3, 4, 5, 6, 7, 9, 10, 11, 12, 13, 14, 8, 15, 16, 17, 18, 19, 20], [0, 1, 2, 3, 4, 5, 6, 7, 14, 8, 9, 10, 11, 12, 13, 15, 16, 17, 18, 19, 20])) rfl (hi := (rs 10 (.loop ⟨4, [(3, (.agg [.str, (.int .i64), .slc]), 3)], [(4, (.int .i64))]⟩ (rs 5 (.condS (rs 7 (.op ⟨.str, 1, true, 0⟩ (rs 5 (.op ⟨.slc, 1, true, 0⟩ (.op ⟨.raw, 0, true, 0⟩ (.op ⟨.slc, 4, true, 1⟩ (rs 2 (.op ⟨.raw, 4, true, 0⟩ (rs 5 .nil))))))))) (rs 2 .nil)))))) (args := [(.agg [(.av (.str p1)), (.av (.int .i64 p2)), (.slc p3)])]) hF (by simp [oks, SV.ok]) (Eq.mp (α := D63 (apM 63 (apF (isS [25]) (relaxSF noS (isS [25]) ([0, 1, 2, 3, 4, 5, 6, 7, 9, 10, 11, 12, 13, 14, 8, 15, 16, 17, 18, 19, 20], [0, 1, 2, 3, 4, 5, 6, 7, 14, 8, 9, 10, 11, 12, 13, 15, 16, 17, 18, 19, 20]) F63))) p1 p2 p3 h P) (by kernel_rfl) hd)
def D20 (M : Model) (p1 : List UInt8) (p2 : Int) (p3 : Slc) (op1 : Int) (h : Heap) (P : AV → Heap → Prop) : Prop :=
CallE M 50 [(.agg [(.str p1), (.int .i64 p2), p3.av])] (h ++ [AObj.arr [(.str p1), (.int .i64 p2), p3.av] 3 false]) fun rv1 t1 =>
∃ (b1 : Bool), rv1 = (.bool b1) ∧
(b1 = true →
CallE M 51 [] (h ++ (AObj.arr [(.str p1), (.int .i64 p2), p3.av] 3 false :: t1)) fun rv2 t2 =>
∃ (b2 : Bool), rv2 = (.bool b2) ∧
P (.bool b2) (AObj.arr [(.str p1), (.int .i64 p2), p3.av] 3 false :: (t1 ++ t2))) ∧
(b1 = false →
CallE M 63 [(.agg [(.str p1), (.int .i64 p2), p3.av])] (h ++ (AObj.arr [(.str p1), (.int .i64 p2), p3.av] 3 false :: t1)) fun rv3 t3 =>
∃ (x1 : List UInt8) (x2 : Int) (x3 : Slc), rv3 = (.agg [(.str x1), (.int .i64 x2), x3.av]) ∧
CallE M 64 [(.agg [(.str p1), (.int .i64 p2), p3.av]), (.int .i64 op1)] (h ++ (AObj.arr [(.str p1), (.int .i64 p2), p3.av] 3 false :: (t1 ++ (t3 ++ [AObj.arr [(.str x1), (.int .i64 x2), x3.av] 3 false])))) fun rv4 t4 =>
∃ (r1 : Int) (r2 : Int), rv4 = (.tuple [(.int .i64 r1), (.int .i64 r2)]) ∧
CallE M 65 [(.agg [(.str x1), (.int .i64 x2), x3.av]), (.int .i64 op1)] (h ++ (AObj.arr [(.str p1), (.int .i64 p2), p3.av] 3 false :: (t1 ++ (t3 ++ (AObj.arr [(.str x1), (.int .i64 x2), x3.av] 3 false :: t4))))) fun rv5 t5 =>
∃ (r3 : Int) (r4 : Int), rv5 = (.tuple [(.int .i64 r3), (.int .i64 r4)]) ∧
CallE M 38 [(.agg [(.str p1), (.int .i64 p2), p3.av])] (h ++ (AObj.arr [(.str p1), (.int .i64 p2), p3.av] 3 false :: (t1 ++ (t3 ++ (AObj.arr [(.str x1), (.int .i64 x2), x3.av] 3 false :: (t4 ++ t5)))))) fun rv6 t6 =>
∃ (n1 : Int), rv6 = (.int .i64 n1) ∧
CallE M 66 [(.agg [(.str x1), (.int .i64 x2), x3.av])] (h ++ (AObj.arr [(.str p1), (.int .i64 p2), p3.av] 3 false :: (t1 ++ (t3 ++ (AObj.arr [(.str x1), (.int .i64 x2), x3.av] 3 false :: (t4 ++ (t5 ++ t6))))))) fun rv7 t7 =>
∃ (n2 : Int), rv7 = (.int .i64 n2) ∧
((n1 == n2) = true → ((r1 == r3) = true → ((r2 == r4) = true →
CallE M 53 [(.agg [(.str p1), (.int .i64 p2), p3.av]), (.agg [(.str x1), (.int .i64 x2), x3.av])] (h ++ (AObj.arr [(.str p1), (.int .i64 p2), p3.av] 3 false :: (t1 ++ (t3 ++ (AObj.arr [(.str x1), (.int .i64 x2), x3.av] 3 false :: (t4 ++ (t5 ++ (t6 ++ t7)))))))) fun rv8 t8 =>
∃ (b3 : Bool), rv8 = (.bool b3) ∧
(b3 = true →
CallE M 51 [] (h ++ (AObj.arr [(.str p1), (.int .i64 p2), p3.av] 3 false :: (t1 ++ (t3 ++ (AObj.arr [(.str x1), (.int .i64 x2), x3.av] 3 false :: (t4 ++ (t5 ++ (t6 ++ (t7 ++ t8))))))))) fun rv9 t9 =>
∃ (b4 : Bool), rv9 = (.bool b4) ∧
P (.bool b4) (AObj.arr [(.str p1), (.int .i64 p2), p3.av] 3 false :: (t1 ++ (t3 ++ (AObj.arr [(.str x1), (.int .i64 x2), x3.av] 3 false :: (t4 ++ (t5 ++ (t6 ++ (t7 ++ (t8 ++ t9)))))))))) ∧
(b3 = false → P (.bool false) (AObj.arr [(.str p1), (.int .i64 p2), p3.av] 3 false :: (t1 ++ (t3 ++ (AObj.arr [(.str x1), (.int .i64 x2), x3.av] 3 false :: (t4 ++ (t5 ++ (t6 ++ (t7 ++ t8)))))))))) ∧
((r2 == r4) = false → P (.bool false) (AObj.arr [(.str p1), (.int .i64 p2), p3.av] 3 false :: (t1 ++ (t3 ++ (AObj.arr [(.str x1), (.int .i64 x2), x3.av] 3 false :: (t4 ++ (t5 ++ (t6 ++ t7))))))))) ∧
((r1 == r3) = false → P (.bool false) (AObj.arr [(.str p1), (.int .i64 p2), p3.av] 3 false :: (t1 ++ (t3 ++ (AObj.arr [(.str x1), (.int .i64 x2), x3.av] 3 false :: (t4 ++ (t5 ++ (t6 ++ t7))))))))) ∧
((n1 == n2) = false → P (.bool false) (AObj.arr [(.str p1), (.int .i64 p2), p3.av] 3 false :: (t1 ++ (t3 ++ (AObj.arr [(.str x1), (.int .i64 x2), x3.av] 3 false :: (t4 ++ (t5 ++ (t6 ++ t7)))))))))
theorem d20 {M : Model} {p1 : List UInt8} {p2 : Int} {p3 : Slc} {op1 : Int} {h : Heap} {P : AV → Heap → Prop} (hF : M.fn 20 = some F20) (hd : D20 M p1 p2 p3 op1 h P) : CallE M 20 [(.agg [(.str p1), (.int .i64 p2), p3.av]), (.int .i64 op1)] h P :=
  callE_of_wp (hi := (rs 3 (.op ⟨.bool, 0, true, 0⟩ (.condS (.op ⟨.bool, 0, true, 0⟩ (.op ⟨.raw, 0, true, 0⟩ .nil)) (.op ⟨.raw, 0, true, 0⟩ (.op ⟨(.agg [.str, (.int .i64), .slc]), 0, true, 0⟩ (rs 4 (.op ⟨(.tup [(.int .i64), (.int .i64)]), 0, true, 0⟩ (rs 7 (.op ⟨(.tup [(.int .i64), (.int .i64)]), 0, true, 0⟩ (rs 5 (.perm [0, 2, 1, 3, 4, 5, 6, 7, 8, 9, 10, 11, 12, 13, 14, 15, 16, 17, 18, 19, 20, 21, 22, 23] [0, 2, 1, 3, 4, 5, 6, 7, 8, 9, 10, 11, 12, 13, 14, 15, 16, 17, 18, 19, 20, 21, 22, 23] (rs 2 (.op ⟨(.int .i64), 0, true, 0⟩ (.op ⟨(.int .i64), 0, true, 0⟩ (rs 2 (.split ⟨.raw, 0, true, 0⟩ (rs 4 (.split ⟨.raw, 0, true, 0⟩ (rs 4 (.split ⟨.raw, 0, true, 0⟩ (.op ⟨.raw, 0, true, 0⟩ (.op ⟨.bool, 0, true, 0⟩ (rs 2 (.split ⟨.bool, 0, true, 0⟩ (rs 2 .nil) (rs 2 .nil))))) (rs 7 .nil))) (rs 12 .nil))) (rs 17 .nil)))))))))))))))))) (args := [(.agg [(.av (.str p1)), (.av (.int .i64 p2)), (.slc p3)]), (.av (.int .i64 op1))]) hF (by simp [oks, SV.ok]) (Eq.mp (α := D20 M p1 p2 p3 op1 h P) (by kernel_rfl) hd)
def D64 (M : Model) (p1 : List UInt8) (p2 : Int) (p3 : Slc) (op1 : Int) (h : Heap) (P : AV → Heap → Prop) : Prop :=
CallE M 38 [(.agg [(.str p1), (.int .i64 p2), p3.av])] (h ++ [AObj.arr [(.str p1), (.int .i64 p2), p3.av] 3 false]) fun rv1 t1 =>
∃ (n1 : Int), rv1 = (.int .i64 n1) ∧
((n1 != 0) = true → P (.tuple [(.int .i64 0), (.int .i64 n1)]) (AObj.arr [(.str p1), (.int .i64 p2), p3.av] 3 false :: t1)) ∧
((n1 != 0) = false →
CallE M 57 [(.int .i64 op1)] (h ++ (AObj.arr [(.str p1), (.int .i64 p2), p3.av] 3 false :: t1)) fun rv2 t2 =>
∃ (r1 : List UInt8) (r2 : Int), rv2 = (.tuple [(.str r1), (.int .i64 r2)]) ∧
((r2 != 0) = true → P (.tuple [(.int .i64 0), (.int .i64 r2)]) (AObj.arr [(.str p1), (.int .i64 p2), p3.av] 3 false :: (t1 ++ t2))) ∧
((r2 != 0) = false → ∃ (I1 : Nat → Int → Int → Heap → Prop), (∃ n2, I1 n2 (0 : Int) (0 : Int) ([] : Heap)) ∧
∀ (n4 : Nat) (n3 : Int) (x1 : Int) (t3 : Heap), I1 n4 n3 x1 t3 → ((decide (x1 < ((p3.len : Nat) : Int))) = true → (0 ≤ x1 ∧
x1 < (p3.len : Int)) ∧
∃ (x2 : List UInt8) (x3 : Slc), rdVar h (some 2) p3.b (p3.o + (x1 : Int).toNat * 2) = some (.agg [(.str x2), x3.av]) ∧
∃ (I2 : Nat → Int → Int → Heap → Prop), (∃ n6, I2 n6 n3 (0 : Int) ([] : Heap)) ∧
∀ (n8 : Nat) (n7 : Int) (x4 : Int) (t4 : Heap), I2 n8 n7 x4 t4 → ((decide (x4 < ((x3.len : Nat) : Int))) = true → (0 ≤ x4 ∧
x4 < (x3.len : Int)) ∧
∃ (x5 : Int) (x6 : Bool) (x7 : Int) (x8 : Int) (x9 : Int) (x10 : Int) (x11 : Int) (x12 : Int) (x13 : Int) (x14 : Int) (x15 : Int), rdVar h (some 11) x3.b (x3.o + (x4 : Int).toNat * 11) = some (.agg [(.int .i64 x5), (.bool x6), (.int .i64 x7), (.int .i64 x8), (.int .i64 x9), (.int .i64 x10), (.int .i64 x11), (.int .i64 x12), (.int .i64 x13), (.int .i64 x14), (.int .i64 x15)]) ∧
((x5 == op1) = true → ∃ n9, n9 < n8 ∧
I2 n9 (IntKind.wrap .i64 (n7 + 1)) (IntKind.wrap .i64 (x4 + 1)) (t4 ++ [AObj.arr [(.int .i64 x5), (.bool x6), (.int .i64 x7), (.int .i64 x8), (.int .i64 x9), (.int .i64 x10), (.int .i64 x11), (.int .i64 x12), (.int .i64 x13), (.int .i64 x14), (.int .i64 x15)] 11 false])) ∧
((x5 == op1) = false → ∃ n9, n9 < n8 ∧
I2 n9 n7 (IntKind.wrap .i64 (x4 + 1)) (t4 ++ [AObj.arr [(.int .i64 x5), (.bool x6), (.int .i64 x7), (.int .i64 x8), (.int .i64 x9), (.int .i64 x10), (.int .i64 x11), (.int .i64 x12), (.int .i64 x13), (.int .i64 x14), (.int .i64 x15)] 11 false]))) ∧
((decide (x4 < ((x3.len : Nat) : Int))) = false → ∃ n5, n5 < n4 ∧
I1 n5 n7 (IntKind.wrap .i64 (x1 + 1)) (t3 ++ (AObj.arr [(.str x2), x3.av] 2 false :: t4)))) ∧
((decide (x1 < ((p3.len : Nat) : Int))) = false → P (.tuple [(.int .i64 n3), (.int .i64 0)]) (AObj.arr [(.str p1), (.int .i64 p2), p3.av] 3 false :: (t1 ++ (t2 ++ t3))))))
theorem d64 {M : Model} {p1 : List UInt8} {p2 : Int} {p3 : Slc} {op1 : Int} {h : Heap} {P : AV → Heap → Prop} (hF : M.fn 64 = some F64) (hd : D64 M p1 p2 p3 op1 h P) : CallE M 64 [(.agg [(.str p1), (.int .i64 p2), p3.av]), (.int .i64 op1)] h P :=
  callE_of_wp (hi := (rs 4 (.op ⟨(.int .i64), 0, true, 0⟩ (rs 3 (.condS (rs 3 .nil) (.op ⟨.raw, 0, true, 0⟩ (.op ⟨(.tup [.str, (.int .i64)]), 0, true, 0⟩ (rs 7 (.condS (rs 3 .nil) (rs 5 (.loop ⟨4, [], [(9, (.int .i64)), (30, (.int .i64))]⟩ (.op ⟨.raw, 0, true, 0⟩ (.condS (.op ⟨.raw, 0, true, 0⟩ (.op ⟨(.agg [.str, .slc]), 1, true, 0⟩ (rs 6 (.loop ⟨6, [], [(9, (.int .i64)), (37, (.int .i64))]⟩ (.op ⟨.raw, 0, true, 0⟩ (.condS (.op ⟨.raw, 0, true, 0⟩ (.op ⟨(.agg [(.int .i64), .bool, (.int .i64), (.int .i64), (.int .i64), (.int .i64), (.int .i64), (.int .i64), (.int .i64), (.int .i64), (.int .i64)]), 1, true, 0⟩ (rs 6 (.condS (rs 5 .nil) (rs 2 .nil))))) (rs 2 .nil))))))) (rs 3 .nil)))))))))))))) (args := [(.agg [(.av (.str p1)), (.av (.int .i64 p2)), (.slc p3)]), (.av (.int .i64 op1))]) hF (by simp [oks, SV.ok]) (Eq.mp (α := D64 M p1 p2 p3 op1 h P) (by kernel_rfl) hd)
def D65 (M : Model) (p1 : List UInt8) (p2 : Int) (p3 : Slc) (op1 : Int) (h : Heap) (P : AV → Heap → Prop) : Prop :=
CallE M 66 [(.agg [(.str p1), (.int .i64 p2), p3.av])] (h ++ [AObj.arr [(.str p1), (.int .i64 p2), p3.av] 3 false]) fun rv1 t1 =>
∃ (n1 : Int), rv1 = (.int .i64 n1) ∧
((n1 != 0) = true → P (.tuple [(.int .i64 0), (.int .i64 n1)]) (AObj.arr [(.str p1), (.int .i64 p2), p3.av] 3 false :: t1)) ∧
((n1 != 0) = false → ((decide (op1 < 0)) = false → ((decide (op1 > 25)) = true → P (.tuple [(.int .i64 0), (.int .i64 1)]) (AObj.arr [(.str p1), (.int .i64 p2), p3.av] 3 false :: t1)) ∧
((decide (op1 > 25)) = false → ∃ (I1 : Nat → Int → Int → Heap → Prop), (∃ n2, I1 n2 (0 : Int) (0 : Int) ([] : Heap)) ∧
∀ (n4 : Nat) (n3 : Int) (k1 : Int) (t2 : Heap), I1 n4 n3 k1 t2 → ((decide (k1 < ((p3.len : Nat) : Int))) = true → ∃ (I2 : Nat → Int → Int → Heap → Prop), (∃ n6, I2 n6 n3 (0 : Int) ([] : Heap)) ∧
∀ (n8 : Nat) (n7 : Int) (i1 : Int) (t3 : Heap), I2 n8 n7 i1 t3 → (0 ≤ k1 ∧
k1 < (p3.len : Int)) ∧
∃ (l1 : Slc), rdVar h none p3.b ((p3.o + (k1 : Int).toNat * 2) + 1) = some l1.av ∧
((decide (i1 < ((l1.len : Nat) : Int))) = true → (0 ≤ k1 ∧
k1 < (p3.len : Int)) ∧
∃ (l2 : Slc), rdVar h none p3.b ((p3.o + (k1 : Int).toNat * 2) + 1) = some l2.av ∧
(0 ≤ i1 ∧
i1 < (l2.len : Int)) ∧
∃ (n10 : Int), rdVar h none l2.b (l2.o + (i1 : Int).toNat * 11) = some (.int .i64 n10) ∧
((n10 == op1) = true → ∃ n9, n9 < n8 ∧
I2 n9 (IntKind.wrap .i64 (n7 + 1)) (IntKind.wrap .i64 (i1 + 1)) t3) ∧
((n10 == op1) = false → ∃ n9, n9 < n8 ∧
I2 n9 n7 (IntKind.wrap .i64 (i1 + 1)) t3)) ∧
((decide (i1 < ((l1.len : Nat) : Int))) = false → ∃ n5, n5 < n4 ∧
I1 n5 n7 (IntKind.wrap .i64 (k1 + 1)) (t2 ++ t3))) ∧
((decide (k1 < ((p3.len : Nat) : Int))) = false → P (.tuple [(.int .i64 n3), (.int .i64 0)]) (AObj.arr [(.str p1), (.int .i64 p2), p3.av] 3 false :: (t1 ++ t2))))) ∧
((decide (op1 < 0)) = true → P (.tuple [(.int .i64 0), (.int .i64 1)]) (AObj.arr [(.str p1), (.int .i64 p2), p3.av] 3 false :: t1)))
theorem d65 {M : Model} {p1 : List UInt8} {p2 : Int} {p3 : Slc} {op1 : Int} {h : Heap} {P : AV → Heap → Prop} (hF : M.fn 65 = some F65) (hd : D65 M p1 p2 p3 op1 h P) : CallE M 65 [(.agg [(.str p1), (.int .i64 p2), p3.av]), (.int .i64 op1)] h P :=
  callE_of_wp (hi := (rs 4 (.op ⟨(.int .i64), 0, true, 0⟩ (rs 3 (.condS (rs 3 .nil) (rs 3 (.split ⟨.raw, 0, true, 0⟩ (rs 2 (.condS (rs 2 .nil) (rs 2 (.loop ⟨3, [], [(7, (.int .i64)), (8, (.int .i64))]⟩ (rs 5 (.condS (.op ⟨.raw, 0, true, 0⟩ (.loop ⟨4, [], [(7, (.int .i64)), (9, (.int .i64))]⟩ (rs 6 (.op ⟨.slc, 1, true, 0⟩ (rs 2 (.condS (rs 5 (.op ⟨.slc, 1, true, 0⟩ (rs 3 (.op ⟨(.int .i64), 1, true, 0⟩ (rs 2 (.condS (rs 6 .nil) (rs 3 .nil))))))) (rs 3 .nil))))))) (rs 3 .nil))))))) (rs 2 (.condL (rs 2 .nil)))))))))) (args := [(.agg [(.av (.str p1)), (.av (.int .i64 p2)), (.slc p3)]), (.av (.int .i64 op1))]) hF (by simp [oks, SV.ok]) (Eq.mp (α := D65 M p1 p2 p3 op1 h P) (by kernel_rfl) hd)
def D66 (M : Model) (p1 : List UInt8) (p2 : Int) (p3 : Slc) (h : Heap) (P : AV → Heap → Prop) : Prop :=
((decide (p2 > 16)) = false → ((decide (((p3.len : Nat) : Int) > 6)) = true → P (.int .i64 2) [AObj.arr [(.str p1), (.int .i64 p2), p3.av] 3 false]) ∧
((decide (((p3.len : Nat) : Int) > 6)) = false → ∃ (I1 : Nat → Int → Heap → Prop), (∃ n1, I1 n1 (0 : Int) ([] : Heap)) ∧
∀ (n2 : Nat) (k1 : Int) (t1 : Heap), I1 n2 k1 t1 → ((decide (k1 < ((p3.len : Nat) : Int))) = true → (0 ≤ k1 ∧
k1 < (p3.len : Int)) ∧
∃ (l1 : Slc), rdVar h none p3.b ((p3.o + (k1 : Int).toNat * 2) + 1) = some l1.av ∧
((decide (((l1.len : Nat) : Int) > 120)) = true → P (.int .i64 2) (AObj.arr [(.str p1), (.int .i64 p2), p3.av] 3 false :: t1)) ∧
((decide (((l1.len : Nat) : Int) > 120)) = false → ∃ n3, n3 < n2 ∧
I1 n3 (IntKind.wrap .i64 (k1 + 1)) t1)) ∧
((decide (k1 < ((p3.len : Nat) : Int))) = false →
CallE M 120 [(.str p1)] (h ++ (AObj.arr [(.str p1), (.int .i64 p2), p3.av] 3 false :: t1)) fun rv1 t2 =>
∃ (b1 : Bool), rv1 = (.bool b1) ∧
((!b1) = true → P (.int .i64 5) (AObj.arr [(.str p1), (.int .i64 p2), p3.av] 3 false :: (t1 ++ t2))) ∧
((!b1) = false → ∃ (I2 : Nat → Int → Heap → Prop), (∃ n4, I2 n4 (0 : Int) ([] : Heap)) ∧
∀ (n5 : Nat) (k2 : Int) (t3 : Heap), I2 n5 k2 t3 → ((decide (k2 < ((p3.len : Nat) : Int))) = true → (0 ≤ k2 ∧
k2 < (p3.len : Int)) ∧
∃ (w1 : List UInt8), rdVar h none p3.b (p3.o + (k2 : Int).toNat * 2) = some (.str w1) ∧
CallE M 120 [(.str w1)] (h ++ (AObj.arr [(.str p1), (.int .i64 p2), p3.av] 3 false :: (t1 ++ (t2 ++ t3)))) fun rv2 t4 =>
∃ (b2 : Bool), rv2 = (.bool b2) ∧
((!b2) = true → P (.int .i64 5) (AObj.arr [(.str p1), (.int .i64 p2), p3.av] 3 false :: (t1 ++ (t2 ++ (t3 ++ t4))))) ∧
((!b2) = false → ∃ n6, n6 < n5 ∧
I2 n6 (IntKind.wrap .i64 (k2 + 1)) (t3 ++ t4))) ∧
((decide (k2 < ((p3.len : Nat) : Int))) = false → ∃ (I3 : Nat → Int → Int → Heap → Prop), (∃ n7, I3 n7 (0 : Int) (0 : Int) ([] : Heap)) ∧
∀ (n8 : Nat) (calls1 : Int) (k3 : Int) (t5 : Heap), I3 n8 calls1 k3 t5 → ((decide (k3 < ((p3.len : Nat) : Int))) = true → ∃ (I4 : Nat → Int → Heap → Prop), (∃ n10, I4 n10 (0 : Int) ([] : Heap)) ∧
∀ (n11 : Nat) (j1 : Int) (t6 : Heap), I4 n11 j1 t6 → ((decide (j1 < k3)) = true → (0 ≤ j1 ∧
j1 < (p3.len : Int)) ∧
∃ (w2 : List UInt8), rdVar h none p3.b (p3.o + (j1 : Int).toNat * 2) = some (.str w2) ∧
(0 ≤ k3 ∧
k3 < (p3.len : Int)) ∧
∃ (w3 : List UInt8), rdVar h none p3.b (p3.o + (k3 : Int).toNat * 2) = some (.str w3) ∧
((w2 == w3) = true → P (.int .i64 6) (AObj.arr [(.str p1), (.int .i64 p2), p3.av] 3 false :: (t1 ++ (t2 ++ (t3 ++ (t5 ++ t6)))))) ∧
((w2 == w3) = false → ∃ n12, n12 < n11 ∧
I4 n12 (IntKind.wrap .i64 (j1 + 1)) t6)) ∧
((decide (j1 < k3)) = false → (0 ≤ k3 ∧
k3 < (p3.len : Int)) ∧
∃ (w4 : List UInt8), rdVar h none p3.b (p3.o + (k3 : Int).toNat * 2) = some (.str w4) ∧
((!(w4 == [115, 116, 97, 114, 116])) = true → ∃ n9, n9 < n8 ∧
I3 n9 (IntKind.wrap .i64 (calls1 + 1)) (IntKind.wrap .i64 (k3 + 1)) (t5 ++ t6)) ∧
((!(w4 == [115, 116, 97, 114, 116])) = false → ∃ n9, n9 < n8 ∧
I3 n9 calls1 (IntKind.wrap .i64 (k3 + 1)) (t5 ++ t6)))) ∧
((decide (k3 < ((p3.len : Nat) : Int))) = false → ((decide (p2 < 0)) = false → ((calls1 == 0) = true → P (.int .i64 1) (AObj.arr [(.str p1), (.int .i64 p2), p3.av] 3 false :: (t1 ++ (t2 ++ (t3 ++ t5))))) ∧
((calls1 == 0) = false → ∃ (I5 : Nat → Int → Heap → Prop), (∃ n13, I5 n13 (0 : Int) ([] : Heap)) ∧
∀ (n14 : Nat) (k4 : Int) (t7 : Heap), I5 n14 k4 t7 → ((decide (k4 < ((p3.len : Nat) : Int))) = true → (0 ≤ k4 ∧
k4 < (p3.len : Int)) ∧
∃ (l2 : Slc), rdVar h none p3.b ((p3.o + (k4 : Int).toNat * 2) + 1) = some l2.av ∧
((((l2.len : Nat) : Int) == 0) = true → P (.int .i64 1) (AObj.arr [(.str p1), (.int .i64 p2), p3.av] 3 false :: (t1 ++ (t2 ++ (t3 ++ (t5 ++ t7)))))) ∧
((((l2.len : Nat) : Int) == 0) = false → ∃ (I6 : Nat → Int → Heap → Prop), (∃ n16, I6 n16 (0 : Int) ([] : Heap)) ∧
∀ (n17 : Nat) (i1 : Int) (t8 : Heap), I6 n17 i1 t8 → ((decide (i1 < ((l2.len : Nat) : Int))) = true → (0 ≤ i1 ∧
i1 < (l2.len : Int)) ∧
∃ (x1 : Int) (x2 : Bool) (x3 : Int) (x4 : Int) (x5 : Int) (x6 : Int) (x7 : Int) (x8 : Int) (x9 : Int) (x10 : Int) (x11 : Int), rdVar h (some 11) l2.b (l2.o + (i1 : Int).toNat * 11) = some (.agg [(.int .i64 x1), (.bool x2), (.int .i64 x3), (.int .i64 x4), (.int .i64 x5), (.int .i64 x6), (.int .i64 x7), (.int .i64 x8), (.int .i64 x9), (.int .i64 x10), (.int .i64 x11)]) ∧
CallE M 62 [(.agg [(.int .i64 x1), (.bool x2), (.int .i64 x3), (.int .i64 x4), (.int .i64 x5), (.int .i64 x6), (.int .i64 x7), (.int .i64 x8), (.int .i64 x9), (.int .i64 x10), (.int .i64 x11)]), (.int .i64 ((l2.len : Nat) : Int))] (h ++ (AObj.arr [(.str p1), (.int .i64 p2), p3.av] 3 false :: (t1 ++ (t2 ++ (t3 ++ (t5 ++ (t7 ++ t8))))))) fun rv3 t9 =>
∃ (b3 : Bool), rv3 = (.bool b3) ∧
((!b3) = true → P (.int .i64 1) (AObj.arr [(.str p1), (.int .i64 p2), p3.av] 3 false :: (t1 ++ (t2 ++ (t3 ++ (t5 ++ (t7 ++ (t8 ++ t9)))))))) ∧
((!b3) = false → ∃ n18, n18 < n17 ∧
I6 n18 (IntKind.wrap .i64 (i1 + 1)) (t8 ++ t9))) ∧
((decide (i1 < ((l2.len : Nat) : Int))) = false → (0 ≤ (IntKind.wrap .i64 (((l2.len : Nat) : Int) - 1)) ∧
(IntKind.wrap .i64 (((l2.len : Nat) : Int) - 1)) < (l2.len : Int)) ∧
∃ (n19 : Int), rdVar h none l2.b (l2.o + ((IntKind.wrap .i64 (((l2.len : Nat) : Int) - 1)) : Int).toNat * 11) = some (.int .i64 n19) ∧
((n19 != 10) = true → ((n19 != 12) = true → ((n19 != 25) = true → P (.int .i64 1) (AObj.arr [(.str p1), (.int .i64 p2), p3.av] 3 false :: (t1 ++ (t2 ++ (t3 ++ (t5 ++ (t7 ++ t8))))))) ∧
((n19 != 25) = false → ∃ n15, n15 < n14 ∧
I5 n15 (IntKind.wrap .i64 (k4 + 1)) (t7 ++ t8))) ∧
((n19 != 12) = false → ∃ n15, n15 < n14 ∧
I5 n15 (IntKind.wrap .i64 (k4 + 1)) (t7 ++ t8))) ∧
((n19 != 10) = false → ∃ n15, n15 < n14 ∧
I5 n15 (IntKind.wrap .i64 (k4 + 1)) (t7 ++ t8))))) ∧
((decide (k4 < ((p3.len : Nat) : Int))) = false → P (.int .i64 0) (AObj.arr [(.str p1), (.int .i64 p2), p3.av] 3 false :: (t1 ++ (t2 ++ (t3 ++ (t5 ++ t7)))))))) ∧
((decide (p2 < 0)) = true → P (.int .i64 1) (AObj.arr [(.str p1), (.int .i64 p2), p3.av] 3 false :: (t1 ++ (t2 ++ (t3 ++ t5))))))))))) ∧
((decide (p2 > 16)) = true → P (.int .i64 2) [AObj.arr [(.str p1), (.int .i64 p2), p3.av] 3 false])
theorem d66 {M : Model} {p1 : List UInt8} {p2 : Int} {p3 : Slc} {h : Heap} {P : AV → Heap → Prop} (hF : M.fn 66 = some F66) (hd : D66 M p1 p2 p3 h P) : CallE M 66 [(.agg [(.str p1), (.int .i64 p2), p3.av])] h P :=
  callE_of_wp (hi := (rs 6 (.split ⟨.raw, 0, true, 0⟩ (rs 4 (.condS (.op ⟨.raw, 0, true, 0⟩ .nil) (.op ⟨.raw, 0, true, 0⟩ (.loop ⟨2, [], [(3, (.int .i64))]⟩ (rs 5 (.condS (rs 5 (.op ⟨.slc, 1, true, 0⟩ (rs 2 (.condS (.op ⟨.raw, 0, true, 0⟩ .nil) (rs 3 .nil))))) (rs 2 (.op ⟨.bool, 0, true, 0⟩ (.op ⟨.raw, 0, true, 0⟩ (.condS (.op ⟨.raw, 0, true, 0⟩ .nil) (.op ⟨.raw, 0, true, 0⟩ (.loop ⟨4, [], [(4, (.int .i64))]⟩ (rs 5 (.condS (rs 5 (.op ⟨.str, 1, true, 0⟩ (.op ⟨.bool, 0, true, 0⟩ (.op ⟨.raw, 0, true, 0⟩ (.condS (.op ⟨.raw, 0, true, 0⟩ .nil) (rs 3 .nil)))))) (rs 2 (.loop ⟨5, [], [(5, (.int .i64)), (6, (.int .i64))]⟩ (rs 5 (.condS (.op ⟨.raw, 0, true, 0⟩ (.loop ⟨6, [], [(7, (.int .i64))]⟩ (rs 3 (.condS (rs 5 (.op ⟨.str, 1, true, 0⟩ (rs 5 (.op ⟨.str, 1, true, 0⟩ (.op ⟨.raw, 0, true, 0⟩ (.condS (.op ⟨.raw, 0, true, 0⟩ .nil) (rs 3 .nil))))))) (rs 5 (.op ⟨.str, 1, true, 0⟩ (.op ⟨.raw, 0, true, 0⟩ (.condS (rs 6 .nil) (rs 3 .nil))))))))) (rs 4 (.split ⟨.raw, 0, true, 0⟩ (rs 2 (.condS (.op ⟨.raw, 0, true, 0⟩ .nil) (.op ⟨.raw, 0, true, 0⟩ (.loop ⟨6, [], [(8, (.int .i64))]⟩ (rs 5 (.condS (rs 5 (.op ⟨.slc, 1, true, 0⟩ (rs 4 (.condS (.op ⟨.raw, 0, true, 0⟩ .nil) (.op ⟨.raw, 0, true, 0⟩ (.loop ⟨7, [], [(10, (.int .i64))]⟩ (rs 4 (.condS (rs 3 (.op ⟨(.agg [(.int .i64), .bool, (.int .i64), (.int .i64), (.int .i64), (.int .i64), (.int .i64), (.int .i64), (.int .i64), (.int .i64), (.int .i64)]), 1, true, 0⟩ (rs 2 (.op ⟨.bool, 0, true, 0⟩ (.op ⟨.raw, 0, true, 0⟩ (.condS (.op ⟨.raw, 0, true, 0⟩ .nil) (rs 3 .nil))))))) (rs 6 (.op ⟨(.int .i64), 1, true, 0⟩ (rs 4 (.split ⟨.raw, 0, true, 0⟩ (rs 3 (.split ⟨.raw, 0, true, 0⟩ (rs 2 (.condS (.op ⟨.raw, 0, true, 0⟩ .nil) (rs 3 .nil))) (rs 2 (.condL (rs 3 .nil))))) (rs 6 (.condL (rs 3 .nil))))))))))))))) (.op ⟨.raw, 0, true, 0⟩ .nil))))))) (rs 2 (.condL (.op ⟨.raw, 0, true, 0⟩ .nil))))))))))))))))))))))) (rs 4 (.condL (.op ⟨.raw, 0, true, 0⟩ .nil)))))) (args := [(.agg [(.av (.str p1)), (.av (.int .i64 p2)), (.slc p3)])]) hF (by simp [oks, SV.ok]) (Eq.mp (α := D66 M p1 p2 p3 h P) (by kernel_rfl) hd)
def D120 (M : Model) (s_1 : List UInt8) (h : Heap) (P : AV → Heap → Prop) : Prop :=
((decide (((s_1.length : Nat) : Int) < 1)) = false → ((decide (((s_1.length : Nat) : Int) > 8)) = true → P (.bool false) ([] : Heap)) ∧
((decide (((s_1.length : Nat) : Int) > 8)) = false → ∃ (I1 : Nat → Int → Heap → Prop), (∃ n1, I1 n1 (0 : Int) ([] : Heap)) ∧
∀ (n2 : Nat) (i1 : Int) (t1 : Heap), I1 n2 i1 t1 → ((decide (i1 < ((s_1.length : Nat) : Int))) = true → ∃ (c1 : UInt8), (0 ≤ i1 ∧
s_1[(i1 : Int).toNat]? = some c1) ∧
((decide (((UInt8.toNat c1 : Nat) : Int) < 97)) = false → ∃ (c2 : UInt8), (0 ≤ i1 ∧
s_1[(i1 : Int).toNat]? = some c2) ∧
((decide (((UInt8.toNat c2 : Nat) : Int) > 122)) = true → P (.bool false) t1) ∧
((decide (((UInt8.toNat c2 : Nat) : Int) > 122)) = false → ∃ n3, n3 < n2 ∧
I1 n3 (IntKind.wrap .i64 (i1 + 1)) t1)) ∧
((decide (((UInt8.toNat c1 : Nat) : Int) < 97)) = true → P (.bool false) t1)) ∧
((decide (i1 < ((s_1.length : Nat) : Int))) = false → P (.bool true) t1))) ∧
((decide (((s_1.length : Nat) : Int) < 1)) = true → P (.bool false) ([] : Heap))
theorem d120 {M : Model} {s_1 : List UInt8} {h : Heap} {P : AV → Heap → Prop} (hF : M.fn 120 = some F120) (hd : D120 M s_1 h P) : CallE M 120 [(.str s_1)] h P :=
  callE_of_wp (hi := (rs 5 (.split ⟨.raw, 0, true, 0⟩ (rs 3 (.condS (.op ⟨.raw, 0, true, 0⟩ .nil) (.op ⟨.raw, 0, true, 0⟩ (.loop ⟨1, [], [(3, (.int .i64))]⟩ (rs 4 (.condS (rs 2 (.op ⟨.raw, 0, true, 1⟩ (rs 2 (.split ⟨.raw, 0, true, 0⟩ (.op ⟨.raw, 0, true, 0⟩ (.op ⟨.raw, 0, true, 1⟩ (rs 2 (.condS (.op ⟨.raw, 0, true, 0⟩ .nil) (rs 3 .nil))))) (rs 4 (.condL (.op ⟨.raw, 0, true, 0⟩ .nil))))))) (.op ⟨.raw, 0, true, 0⟩ .nil))))))) (rs 3 (.condL (.op ⟨.raw, 0, true, 0⟩ .nil)))))) (args := [(.av (.str s_1))]) hF (by simp [oks, SV.ok]) (Eq.mp (α := D120 M s_1 h P) (by kernel_rfl) hd)
def D38 (M : Model) (p1 : List UInt8) (p2 : Int) (p3 : Slc) (h : Heap) (P : AV → Heap → Prop) : Prop :=
((decide (p2 > 16)) = false → ((decide (((p3.len : Nat) : Int) > 6)) = false →
CallE M 90 [p3.av, (.fn 91 [])] (h ++ [AObj.arr [(.str p1), (.int .i64 p2), p3.av] 3 false]) fun rv1 t1 =>
∃ (b1 : Bool), rv1 = (.bool b1) ∧
(b1 = true → P (.int .i64 2) (AObj.arr [(.str p1), (.int .i64 p2), p3.av] 3 false :: t1)) ∧
(b1 = false →
CallE M 92 [(.str p1)] (h ++ (AObj.arr [(.str p1), (.int .i64 p2), p3.av] 3 false :: t1)) fun rv2 t2 =>
∃ (b2 : Bool), rv2 = (.bool b2) ∧
((!b2) = false →
CallE M 90 [p3.av, (.fn 93 [])] (h ++ (AObj.arr [(.str p1), (.int .i64 p2), p3.av] 3 false :: (t1 ++ t2))) fun rv3 t3 =>
∃ (b3 : Bool), rv3 = (.bool b3) ∧
(b3 = true → P (.int .i64 5) (AObj.arr [(.str p1), (.int .i64 p2), p3.av] 3 false :: (t1 ++ (t2 ++ t3)))) ∧
(b3 = false → ∃ (I1 : Nat → Int → (List (AV × AV)) → Heap → Prop), (∃ n1, I1 n1 (0 : Int) [] ([] : Heap)) ∧
∀ (n2 : Nat) (x1 : Int) (c1 : List (AV × AV)) (t4 : Heap), I1 n2 x1 c1 t4 → ((decide (x1 < ((p3.len : Nat) : Int))) = true → (0 ≤ x1 ∧
x1 < (p3.len : Int)) ∧
∃ (x2 : List UInt8) (x3 : Slc), rdVar h (some 2) p3.b (p3.o + (x1 : Int).toNat * 2) = some (.agg [(.str x2), x3.av]) ∧
∃ (b4 : Bool), (∃ (r1 : Option AV), keyOk (.str x2) = true ∧
findKey (.str x2) c1 = some r1 ∧
((.bool b4) : AV) = if (false : Bool) = true then AV.tuple [r1.getD (.bool false), .bool r1.isSome] else r1.getD (.bool false)) ∧
(b4 = true → P (.int .i64 6) (AObj.arr [(.str p1), (.int .i64 p2), p3.av] 3 false :: (t1 ++ (t2 ++ (t3 ++ (AObj.map c1 :: (t4 ++ [AObj.arr [(.str x2), x3.av] 2 false]))))))) ∧
(b4 = false → ∃ (es1 : List (AV × AV)), (keyOk (.str x2) = true ∧
setKey (.str x2) (.bool true) c1 = some es1) ∧
∃ n3, n3 < n2 ∧
I1 n3 (IntKind.wrap .i64 (x1 + 1)) es1 (t4 ++ [AObj.arr [(.str x2), x3.av] 2 false]))) ∧
((decide (x1 < ((p3.len : Nat) : Int))) = false → ∃ (es2 : List (AV × AV)), (keyOk (.str [115, 116, 97, 114, 116]) = true ∧
delKey (.str [115, 116, 97, 114, 116]) c1 = some es2) ∧
((decide (p2 < 0)) = false → ((((List.length (α := AV × AV) es2 : Nat) : Int) == 0) = false →
CallE M 90 [p3.av, (.fn 94 [])] (h ++ (AObj.arr [(.str p1), (.int .i64 p2), p3.av] 3 false :: (t1 ++ (t2 ++ (t3 ++ (AObj.map es2 :: t4)))))) fun rv4 t5 =>
∃ (b5 : Bool), rv4 = (.bool b5) ∧
(b5 = true → P (.int .i64 1) (AObj.arr [(.str p1), (.int .i64 p2), p3.av] 3 false :: (t1 ++ (t2 ++ (t3 ++ (AObj.map es2 :: (t4 ++ t5))))))) ∧
(b5 = false → P (.int .i64 0) (AObj.arr [(.str p1), (.int .i64 p2), p3.av] 3 false :: (t1 ++ (t2 ++ (t3 ++ (AObj.map es2 :: (t4 ++ t5)))))))) ∧
((((List.length (α := AV × AV) es2 : Nat) : Int) == 0) = true → P (.int .i64 1) (AObj.arr [(.str p1), (.int .i64 p2), p3.av] 3 false :: (t1 ++ (t2 ++ (t3 ++ (AObj.map es2 :: t4))))))) ∧
((decide (p2 < 0)) = true → P (.int .i64 1) (AObj.arr [(.str p1), (.int .i64 p2), p3.av] 3 false :: (t1 ++ (t2 ++ (t3 ++ (AObj.map es2 :: t4))))))))) ∧
((!b2) = true → P (.int .i64 5) (AObj.arr [(.str p1), (.int .i64 p2), p3.av] 3 false :: (t1 ++ t2))))) ∧
((decide (((p3.len : Nat) : Int) > 6)) = true → P (.int .i64 2) [AObj.arr [(.str p1), (.int .i64 p2), p3.av] 3 false])) ∧
((decide (p2 > 16)) = true → P (.int .i64 2) [AObj.arr [(.str p1), (.int .i64 p2), p3.av] 3 false])
theorem d38 {M : Model} {p1 : List UInt8} {p2 : Int} {p3 : Slc} {h : Heap} {P : AV → Heap → Prop} (hF : M.fn 38 = some F38) (hd : D38 M p1 p2 p3 h P) : CallE M 38 [(.agg [(.str p1), (.int .i64 p2), p3.av])] h P :=
  callE_of_wp (hi := (rs 6 (.split ⟨.raw, 0, true, 0⟩ (rs 5 (.split ⟨.raw, 0, true, 0⟩ (.op ⟨.raw, 0, true, 0⟩ (.op ⟨.bool, 0, true, 0⟩ (.op ⟨.raw, 0, true, 0⟩ (.condS (.op ⟨.raw, 0, true, 0⟩ .nil) (rs 2 (.op ⟨.bool, 0, true, 0⟩ (rs 2 (.split ⟨.raw, 0, true, 0⟩ (.op ⟨.raw, 0, true, 0⟩ (.op ⟨.bool, 0, true, 0⟩ (.op ⟨.raw, 0, true, 0⟩ (.condS (.op ⟨.raw, 0, true, 0⟩ .nil) (rs 6 (.loop ⟨6, [(5, .mapo, 0)], [(33, (.int .i64))]⟩ (.op ⟨.raw, 0, true, 0⟩ (.condS (.op ⟨.raw, 0, true, 0⟩ (.op ⟨(.agg [.str, .slc]), 1, true, 0⟩ (rs 5 (.op ⟨.bool, 0, true, 0⟩ (.condS (.op ⟨.raw, 0, true, 0⟩ .nil) (rs 6 .nil)))))) (rs 6 (.split ⟨.raw, 0, true, 0⟩ (rs 4 (.split ⟨.raw, 0, true, 0⟩ (.op ⟨.raw, 0, true, 0⟩ (.op ⟨.bool, 0, true, 0⟩ (.op ⟨.raw, 0, true, 0⟩ (.condS (.op ⟨.raw, 0, true, 0⟩ .nil) (.op ⟨.raw, 0, true, 0⟩ .nil))))) (rs 3 (.condL (.op ⟨.raw, 0, true, 0⟩ .nil))))) (rs 8 (.condL (.op ⟨.raw, 0, true, 0⟩ .nil))))))))))))) (rs 3 (.condL (.op ⟨.raw, 0, true, 0⟩ .nil))))))))))) (rs 3 (.condL (.op ⟨.raw, 0, true, 0⟩ .nil))))) (rs 9 (.condL (.op ⟨.raw, 0, true, 0⟩ .nil)))))) (args := [(.agg [(.av (.str p1)), (.av (.int .i64 p2)), (.slc p3)])]) hF (by simp [oks, SV.ok]) (Eq.mp (α := D38 M p1 p2 p3 h P) (by kernel_rfl) hd)
def D78 (M : Model) (s_1 : Slc) (f1 : Nat) (f1c : List AV) (h : Heap) (P : AV → Heap → Prop) : Prop :=
∃ (I1 : Nat → Int → Heap → Prop), (∃ n1, I1 n1 (0 : Int) ([] : Heap)) ∧
∀ (n2 : Nat) (x1 : Int) (t1 : Heap), I1 n2 x1 t1 → ((decide (x1 < ((s_1.len : Nat) : Int))) = true → (0 ≤ x1 ∧
x1 < (s_1.len : Int)) ∧
∃ (x2 : List UInt8) (x3 : Slc), rdVar h (some 2) s_1.b (s_1.o + (x1 : Int).toNat * 2) = some (.agg [(.str x2), x3.av]) ∧
CallE M f1 ([(.agg [(.str x2), x3.av])] ++ f1c) (h ++ t1) fun rv1 t2 =>
∃ (b1 : Bool), rv1 = (.bool b1) ∧
(b1 = true → P (.int .i64 x1) (t1 ++ t2)) ∧
(b1 = false → ∃ n3, n3 < n2 ∧
I1 n3 (IntKind.wrap .i64 (x1 + 1)) (t1 ++ t2))) ∧
((decide (x1 < ((s_1.len : Nat) : Int))) = false → P (.int .i64 (-1)) t1)
theorem d78 {M : Model} {s_1 : Slc} {f1 : Nat} {f1c : List AV} {h : Heap} {P : AV → Heap → Prop} (hF : M.fn 78 = some F78) (hd : D78 M s_1 f1 f1c h P) : CallE M 78 [s_1.av, (.fn f1 f1c)] h P :=
  callE_of_wp (hi := (rs 4 (.loop ⟨1, [], [(8, (.int .i64))]⟩ (.op ⟨.raw, 0, true, 0⟩ (.condS (rs 6 (.op ⟨(.agg [.str, .slc]), 1, true, 0⟩ (.op ⟨.bool, 0, true, 0⟩ (.condS (rs 2 .nil) (rs 2 .nil))))) (.op ⟨.raw, 0, true, 0⟩ .nil)))))) (args := [(.slc s_1), (.av (.fn f1 f1c))]) hF (by simp [oks, SV.ok]) (Eq.mp (α := D78 M s_1 f1 f1c h P) (by kernel_rfl) hd)
def D90 (M : Model) (s_1 : Slc) (f1 : Nat) (f1c : List AV) (h : Heap) (P : AV → Heap → Prop) : Prop :=
CallE M 78 [s_1.av, (.fn f1 f1c)] h fun rv1 t1 =>
∃ (n1 : Int), rv1 = (.int .i64 n1) ∧
P (.bool (decide (n1 ≥ 0))) t1
theorem d90 {M : Model} {s_1 : Slc} {f1 : Nat} {f1c : List AV} {h : Heap} {P : AV → Heap → Prop} (hF : M.fn 90 = some F90) (hd : D90 M s_1 f1 f1c h P) : CallE M 90 [s_1.av, (.fn f1 f1c)] h P :=
  callE_of_wp (hi := (rs 3 (.op ⟨(.int .i64), 0, true, 0⟩ (rs 2 .nil)))) (args := [(.slc s_1), (.av (.fn f1 f1c))]) hF (by simp [oks, SV.ok]) (Eq.mp (α := D90 M s_1 f1 f1c h P) (by kernel_rfl) hd)
def D91 (M : Model) (r1 : List UInt8) (r2 : Slc) (h : Heap) (P : AV → Heap → Prop) : Prop :=
P (.bool (decide (((r2.len : Nat) : Int) > 120))) [AObj.arr [(.str r1), r2.av] 2 false]
theorem d91 {M : Model} {r1 : List UInt8} {r2 : Slc} {h : Heap} {P : AV → Heap → Prop} (hF : M.fn 91 = some F91) (hd : D91 M r1 r2 h P) : CallE M 91 [(.agg [(.str r1), r2.av])] h P :=
  callE_of_wp (hi := (rs 7 .nil)) (args := [(.agg [(.av (.str r1)), (.slc r2)])]) hF (by simp [oks, SV.ok]) (Eq.mp (α := D91 M r1 r2 h P) (by kernel_rfl) hd)
def D92 (M : Model) (s_1 : List UInt8) (h : Heap) (P : AV → Heap → Prop) : Prop :=
((decide (((s_1.length : Nat) : Int) < 1)) = false → ((decide (((s_1.length : Nat) : Int) > 8)) = true → P (.bool false) ([] : Heap)) ∧
((decide (((s_1.length : Nat) : Int) > 8)) = false → ∃ (I1 : Nat → Int → Heap → Prop), (∃ n1, I1 n1 (0 : Int) ([] : Heap)) ∧
∀ (n2 : Nat) (x1 : Int) (t1 : Heap), I1 n2 x1 t1 → ((decide (x1 < ((s_1.length : Nat) : Int))) = true → ∃ (c1 : UInt8), (0 ≤ x1 ∧
s_1[(x1 : Int).toNat]? = some c1) ∧
((decide (((UInt8.toNat c1 : Nat) : Int) < 97)) = false → ∃ (c2 : UInt8), (0 ≤ x1 ∧
s_1[(x1 : Int).toNat]? = some c2) ∧
((decide (((UInt8.toNat c2 : Nat) : Int) > 122)) = true → P (.bool false) t1) ∧
((decide (((UInt8.toNat c2 : Nat) : Int) > 122)) = false → ∃ n3, n3 < n2 ∧
I1 n3 (IntKind.wrap .i64 (x1 + 1)) t1)) ∧
((decide (((UInt8.toNat c1 : Nat) : Int) < 97)) = true → P (.bool false) t1)) ∧
((decide (x1 < ((s_1.length : Nat) : Int))) = false → P (.bool true) t1))) ∧
((decide (((s_1.length : Nat) : Int) < 1)) = true → P (.bool false) ([] : Heap))
theorem d92 {M : Model} {s_1 : List UInt8} {h : Heap} {P : AV → Heap → Prop} (hF : M.fn 92 = some F92) (hd : D92 M s_1 h P) : CallE M 92 [(.str s_1)] h P :=
  callE_of_wp (hi := (rs 5 (.split ⟨.raw, 0, true, 0⟩ (rs 3 (.condS (.op ⟨.raw, 0, true, 0⟩ .nil) (rs 3 (.loop ⟨1, [], [(14, (.int .i64))]⟩ (.op ⟨.raw, 0, true, 0⟩ (.condS (rs 4 (.op ⟨.raw, 0, true, 1⟩ (rs 2 (.split ⟨.raw, 0, true, 0⟩ (.op ⟨.raw, 0, true, 0⟩ (.op ⟨.raw, 0, true, 1⟩ (rs 2 (.condS (.op ⟨.raw, 0, true, 0⟩ .nil) (rs 2 .nil))))) (rs 4 (.condL (.op ⟨.raw, 0, true, 0⟩ .nil))))))) (.op ⟨.raw, 0, true, 0⟩ .nil))))))) (rs 3 (.condL (.op ⟨.raw, 0, true, 0⟩ .nil)))))) (args := [(.av (.str s_1))]) hF (by simp [oks, SV.ok]) (Eq.mp (α := D92 M s_1 h P) (by kernel_rfl) hd)
def D93 (M : Model) (r1 : List UInt8) (r2 : Slc) (h : Heap) (P : AV → Heap → Prop) : Prop :=
CallE M 92 [(.str r1)] (h ++ [AObj.arr [(.str r1), r2.av] 2 false]) fun rv1 t1 =>
∃ (b1 : Bool), rv1 = (.bool b1) ∧
P (.bool (!b1)) (AObj.arr [(.str r1), r2.av] 2 false :: t1)
theorem d93 {M : Model} {r1 : List UInt8} {r2 : Slc} {h : Heap} {P : AV → Heap → Prop} (hF : M.fn 93 = some F93) (hd : D93 M r1 r2 h P) : CallE M 93 [(.agg [(.str r1), r2.av])] h P :=
  callE_of_wp (hi := (rs 4 (.op ⟨.bool, 0, true, 0⟩ (rs 2 .nil)))) (args := [(.agg [(.av (.str r1)), (.slc r2)])]) hF (by simp [oks, SV.ok]) (Eq.mp (α := D93 M r1 r2 h P) (by kernel_rfl) hd)
def D94 (M : Model) (r1 : List UInt8) (r2 : Slc) (h : Heap) (P : AV → Heap → Prop) : Prop :=
((((r2.len : Nat) : Int) == 0) = false →
CallE M 133 [r2.av, (.fn 134 [(.ptr h.length 0)])] (h ++ [AObj.arr [(.str r1), r2.av] 2 false]) fun rv1 t1 =>
∃ (b1 : Bool), rv1 = (.bool b1) ∧
(b1 = true → P (.bool true) (AObj.arr [(.str r1), r2.av] 2 false :: t1)) ∧
(b1 = false → (0 ≤ (IntKind.wrap .i64 (((r2.len : Nat) : Int) - 1)) ∧
(IntKind.wrap .i64 (((r2.len : Nat) : Int) - 1)) < (r2.len : Int)) ∧
∃ (n1 : Int), rdVar h none r2.b (r2.o + ((IntKind.wrap .i64 (((r2.len : Nat) : Int) - 1)) : Int).toNat * 11) = some (.int .i64 n1) ∧
((n1 != 10) = true → ((n1 != 12) = true → P (.bool (n1 != 25)) (AObj.arr [(.str r1), r2.av] 2 false :: t1)) ∧
((n1 != 12) = false → P (.bool false) (AObj.arr [(.str r1), r2.av] 2 false :: t1))) ∧
((n1 != 10) = false → P (.bool false) (AObj.arr [(.str r1), r2.av] 2 false :: t1)))) ∧
((((r2.len : Nat) : Int) == 0) = true → P (.bool true) [AObj.arr [(.str r1), r2.av] 2 false])
theorem d94 {M : Model} {r1 : List UInt8} {r2 : Slc} {h : Heap} {P : AV → Heap → Prop} (hF : M.fn 94 = some F94) (hd : D94 M r1 r2 h P) : CallE M 94 [(.agg [(.str r1), r2.av])] h P :=
  callE_of_wp (hi := (rs 7 (.split ⟨.raw, 0, true, 0⟩ (rs 2 (.op ⟨.bool, 0, true, 0⟩ (.op ⟨.raw, 0, true, 0⟩ (.condS (.op ⟨.raw, 0, true, 0⟩ .nil) (rs 8 (.op ⟨(.int .i64), 1, true, 0⟩ (rs 4 (.split ⟨.raw, 0, true, 0⟩ (rs 3 (.split ⟨.raw, 0, true, 0⟩ (rs 3 .nil) (rs 3 .nil))) (rs 7 .nil))))))))) (rs 4 (.condL (.op ⟨.raw, 0, true, 0⟩ .nil)))))) (args := [(.agg [(.av (.str r1)), (.slc r2)])]) hF (by simp [oks, SV.ok]) (Eq.mp (α := D94 M r1 r2 h P) (by kernel_rfl) hd)
def D133 (M : Model) (s_1 : Slc) (f1 : Nat) (f1c : List AV) (h : Heap) (P : AV → Heap → Prop) : Prop :=
CallE M 159 [s_1.av, (.fn f1 f1c)] h fun rv1 t1 =>
∃ (n1 : Int), rv1 = (.int .i64 n1) ∧
P (.bool (decide (n1 ≥ 0))) t1
theorem d133 {M : Model} {s_1 : Slc} {f1 : Nat} {f1c : List AV} {h : Heap} {P : AV → Heap → Prop} (hF : M.fn 133 = some F133) (hd : D133 M s_1 f1 f1c h P) : CallE M 133 [s_1.av, (.fn f1 f1c)] h P :=
  callE_of_wp (hi := (rs 3 (.op ⟨(.int .i64), 0, true, 0⟩ (rs 2 .nil)))) (args := [(.slc s_1), (.av (.fn f1 f1c))]) hF (by simp [oks, SV.ok]) (Eq.mp (α := D133 M s_1 f1 f1c h P) (by kernel_rfl) hd)
def D134 (M : Model) (i1 : Int) (i2 : Bool) (i3 : Int) (i4 : Int) (i5 : Int) (i6 : Int) (i7 : Int) (i8 : Int) (i9 : Int) (i10 : Int) (i11 : Int) (a11 : Nat) (a11o : Nat) (h : Heap) (P : AV → Heap → Prop) : Prop :=
∃ (l1 : Slc), rdVar h none a11 (a11o + 1) = some l1.av ∧
CallE M 61 [(.agg [(.int .i64 i1), (.bool i2), (.int .i64 i3), (.int .i64 i4), (.int .i64 i5), (.int .i64 i6), (.int .i64 i7), (.int .i64 i8), (.int .i64 i9), (.int .i64 i10), (.int .i64 i11)]), (.int .i64 ((l1.len : Nat) : Int))] (h ++ [AObj.arr [(.int .i64 i1), (.bool i2), (.int .i64 i3), (.int .i64 i4), (.int .i64 i5), (.int .i64 i6), (.int .i64 i7), (.int .i64 i8), (.int .i64 i9), (.int .i64 i10), (.int .i64 i11)] 11 false]) fun rv1 t1 =>
∃ (b1 : Bool), rv1 = (.bool b1) ∧
P (.bool (!b1)) (AObj.arr [(.int .i64 i1), (.bool i2), (.int .i64 i3), (.int .i64 i4), (.int .i64 i5), (.int .i64 i6), (.int .i64 i7), (.int .i64 i8), (.int .i64 i9), (.int .i64 i10), (.int .i64 i11)] 11 false :: t1)
theorem d134 {M : Model} {i1 : Int} {i2 : Bool} {i3 : Int} {i4 : Int} {i5 : Int} {i6 : Int} {i7 : Int} {i8 : Int} {i9 : Int} {i10 : Int} {i11 : Int} {a11 : Nat} {a11o : Nat} {h : Heap} {P : AV → Heap → Prop} (hF : M.fn 134 = some F134) (hd : D134 M i1 i2 i3 i4 i5 i6 i7 i8 i9 i10 i11 a11 a11o h P) : CallE M 134 [(.agg [(.int .i64 i1), (.bool i2), (.int .i64 i3), (.int .i64 i4), (.int .i64 i5), (.int .i64 i6), (.int .i64 i7), (.int .i64 i8), (.int .i64 i9), (.int .i64 i10), (.int .i64 i11)]), (.ptr a11 a11o)] h P :=
  callE_of_wp (hi := (rs 4 (.op ⟨.slc, 1, true, 0⟩ (.op ⟨.raw, 0, true, 0⟩ (.op ⟨.bool, 0, true, 0⟩ (rs 2 .nil)))))) (args := [(.agg [(.av (.int .i64 i1)), (.av (.bool i2)), (.av (.int .i64 i3)), (.av (.int .i64 i4)), (.av (.int .i64 i5)), (.av (.int .i64 i6)), (.av (.int .i64 i7)), (.av (.int .i64 i8)), (.av (.int .i64 i9)), (.av (.int .i64 i10)), (.av (.int .i64 i11))]), (.av (.ptr a11 a11o))]) hF (by simp [oks, SV.ok]) (Eq.mp (α := D134 M i1 i2 i3 i4 i5 i6 i7 i8 i9 i10 i11 a11 a11o h P) (by kernel_rfl) hd)
def D159 (M : Model) (s_1 : Slc) (f1 : Nat) (f1c : List AV) (h : Heap) (P : AV → Heap → Prop) : Prop :=
∃ (I1 : Nat → Int → Heap → Prop), (∃ n1, I1 n1 (0 : Int) ([] : Heap)) ∧
∀ (n2 : Nat) (x1 : Int) (t1 : Heap), I1 n2 x1 t1 → ((decide (x1 < ((s_1.len : Nat) : Int))) = true → (0 ≤ x1 ∧
x1 < (s_1.len : Int)) ∧
∃ (x2 : Int) (x3 : Bool) (x4 : Int) (x5 : Int) (x6 : Int) (x7 : Int) (x8 : Int) (x9 : Int) (x10 : Int) (x11 : Int) (x12 : Int), rdVar h (some 11) s_1.b (s_1.o + (x1 : Int).toNat * 11) = some (.agg [(.int .i64 x2), (.bool x3), (.int .i64 x4), (.int .i64 x5), (.int .i64 x6), (.int .i64 x7), (.int .i64 x8), (.int .i64 x9), (.int .i64 x10), (.int .i64 x11), (.int .i64 x12)]) ∧
CallE M f1 ([(.agg [(.int .i64 x2), (.bool x3), (.int .i64 x4), (.int .i64 x5), (.int .i64 x6), (.int .i64 x7), (.int .i64 x8), (.int .i64 x9), (.int .i64 x10), (.int .i64 x11), (.int .i64 x12)])] ++ f1c) (h ++ t1) fun rv1 t2 =>
∃ (b1 : Bool), rv1 = (.bool b1) ∧
(b1 = true → P (.int .i64 x1) (t1 ++ t2)) ∧
(b1 = false → ∃ n3, n3 < n2 ∧
I1 n3 (IntKind.wrap .i64 (x1 + 1)) (t1 ++ t2))) ∧
((decide (x1 < ((s_1.len : Nat) : Int))) = false → P (.int .i64 (-1)) t1)
theorem d159 {M : Model} {s_1 : Slc} {f1 : Nat} {f1c : List AV} {h : Heap} {P : AV → Heap → Prop} (hF : M.fn 159 = some F159) (hd : D159 M s_1 f1 f1c h P) : CallE M 159 [s_1.av, (.fn f1 f1c)] h P :=
  callE_of_wp (hi := (rs 4 (.loop ⟨1, [], [(8, (.int .i64))]⟩ (.op ⟨.raw, 0, true, 0⟩ (.condS (rs 6 (.op ⟨(.agg [(.int .i64), .bool, (.int .i64), (.int .i64), (.int .i64), (.int .i64), (.int .i64), (.int .i64), (.int .i64), (.int .i64), (.int .i64)]), 1, true, 0⟩ (.op ⟨.bool, 0, true, 0⟩ (.condS (rs 2 .nil) (rs 2 .nil))))) (.op ⟨.raw, 0, true, 0⟩ .nil)))))) (args := [(.slc s_1), (.av (.fn f1 f1c))]) hF (by simp [oks, SV.ok]) (Eq.mp (α := D159 M s_1 f1 f1c h P) (by kernel_rfl) hd)
end Go.Proofs.YtifkphfhadimaaaGreatDoor.Mini

