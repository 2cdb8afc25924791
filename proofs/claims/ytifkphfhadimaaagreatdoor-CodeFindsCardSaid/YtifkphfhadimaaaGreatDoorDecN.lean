import Derived.Test.YtifkphfhadimaaaGreatDoorMiniY
import Derived.Test.YtifkphfhadimaaaGreatDoorAbsG4
import Derived.Test.YtifkphfhadimaaaGreatDoorAbsG7
set_option linter.unusedVariables false
set_option linter.unusedSimpArgs false
set_option maxRecDepth 100000
namespace Go.Proofs.YtifkphfhadimaaaGreatDoor.Mini
open Go.Abs Mini
def D50 (M : Model) (p1 : List UInt8) (p2 : Int) (p3 : Slc) (h : Heap) (P : AV → Heap → Prop) : Prop :=
∃ (I1 : Nat → Int → Int → Heap → Prop), (∃ n1, I1 n1 (IntKind.wrap .i64 (((p3.len : Nat) : Int) + ((p1.length : Nat) : Int))) (0 : Int) ([] : Heap)) ∧
∀ (n3 : Nat) (n2 : Int) (k1 : Int) (t1 : Heap), I1 n3 n2 k1 t1 → ((decide (k1 < ((p3.len : Nat) : Int))) = true → ((decide (n2 < 800)) = true → (0 ≤ k1 ∧
k1 < (p3.len : Int)) ∧
∃ (l1 : Slc), rdVar h none p3.b ((p3.o + (k1 : Int).toNat * 2) + 1) = some l1.av ∧
(0 ≤ k1 ∧
k1 < (p3.len : Int)) ∧
∃ (w1 : List UInt8), rdVar h none p3.b (p3.o + (k1 : Int).toNat * 2) = some (.str w1) ∧
∃ n4, n4 < n3 ∧
I1 n4 (IntKind.wrap .i64 ((IntKind.wrap .i64 (n2 + ((l1.len : Nat) : Int))) + ((w1.length : Nat) : Int))) (IntKind.wrap .i64 (k1 + 1)) t1) ∧
((decide (n2 < 800)) = false → P (.bool (decide (n2 ≥ 800))) (AObj.arr [(.str p1), (.int .i64 p2), p3.av] 3 false :: t1))) ∧
((decide (k1 < ((p3.len : Nat) : Int))) = false → P (.bool (decide (n2 ≥ 800))) (AObj.arr [(.str p1), (.int .i64 p2), p3.av] 3 false :: t1))
theorem d50 {M : Model} {p1 : List UInt8} {p2 : Int} {p3 : Slc} {h : Heap} {P : AV → Heap → Prop} (hF : M.fn 50 = some F50) (hd : D50 M p1 p2 p3 h P) : CallE M 50 [(.agg [(.str p1), (.int .i64 p2), p3.av])] h P :=
  callE_of_wp (hi := (rs 11 (.loop ⟨2, [], [(3, (.int .i64)), (4, (.int .i64))]⟩ (rs 6 (.split ⟨.raw, 0, true, 0⟩ (rs 2 (.condS (rs 6 (.op ⟨.slc, 1, true, 0⟩ (rs 7 (.op ⟨.str, 1, true, 0⟩ (rs 6 .nil))))) (rs 3 .nil))) (rs 2 (.condL (rs 3 .nil)))))))) (args := [(.agg [(.av (.str p1)), (.av (.int .i64 p2)), (.slc p3)])]) hF (by simp [oks, SV.ok]) (Eq.mp (α := D50 M p1 p2 p3 h P) (by kernel_rfl) hd)
set_option maxHeartbeats 2000000 in
def D66 (M : Model) (p1 : List UInt8) (p2 : Int) (p3 : Slc) (h : Heap) (P : AV → Heap → Prop) : Prop :=
((decide (p2 > 16)) = false → ((decide (((p3.len : Nat) : Int) > 6)) = true → P (.int .i64 2) [AObj.arr [(.str p1), (.int .i64 p2), p3.av] 3 false]) ∧
((decide (((p3.len : Nat) : Int) > 6)) = false → ∃ (I1 : Nat → Int → Heap → Prop), (∃ n1, I1 n1 (0 : Int) ([] : Heap)) ∧
∀ (n2 : Nat) (k1 : Int) (t1 : Heap), I1 n2 k1 t1 → ((decide (k1 < ((p3.len : Nat) : Int))) = true → (0 ≤ k1 ∧
k1 < (p3.len : Int)) ∧
∃ (l1 : Slc), rdVar h none p3.b ((p3.o + (k1 : Int).toNat * 2) + 1) = some l1.av ∧
((decide (((l1.len : Nat) : Int) > 120)) = true → P (.int .i64 2) (AObj.arr [(.str p1), (.int .i64 p2), p3.av] 3 false :: t1)) ∧
((decide (((l1.len : Nat) : Int) > 120)) = false → ∃ n3, n3 < n2 ∧
I1 n3 (IntKind.wrap .i64 (k1 + 1)) t1)) ∧
((decide (k1 < ((p3.len : Nat) : Int))) = false →
CallE M 120 [(.str p1)] (h ++ (AObj.arr [(.str p1), (.int .i64 p2), p3.av] 3 false :: t1)) fun rv1 t2 =>
∃ (b1 : Bool), rv1 = (.bool b1) ∧
((!b1) = true → P (.int .i64 5) (AObj.arr [(.str p1), (.int .i64 p2), p3.av] 3 false :: (t1 ++ t2))) ∧
((!b1) = false → ∃ (I2 : Nat → Int → Heap → Prop), (∃ n4, I2 n4 (0 : Int) ([] : Heap)) ∧
∀ (n5 : Nat) (k2 : Int) (t3 : Heap), I2 n5 k2 t3 → ((decide (k2 < ((p3.len : Nat) : Int))) = true → (0 ≤ k2 ∧
k2 < (p3.len : Int)) ∧
∃ (w1 : List UInt8), rdVar h none p3.b (p3.o + (k2 : Int).toNat * 2) = some (.str w1) ∧
CallE M 120 [(.str w1)] (h ++ (AObj.arr [(.str p1), (.int .i64 p2), p3.av] 3 false :: (t1 ++ (t2 ++ t3)))) fun rv2 t4 =>
∃ (b2 : Bool), rv2 = (.bool b2) ∧
((!b2) = true → P (.int .i64 5) (AObj.arr [(.str p1), (.int .i64 p2), p3.av] 3 false :: (t1 ++ (t2 ++ (t3 ++ t4))))) ∧
((!b2) = false → ∃ n6, n6 < n5 ∧
I2 n6 (IntKind.wrap .i64 (k2 + 1)) (t3 ++ t4))) ∧
((decide (k2 < ((p3.len : Nat) : Int))) = false → ∃ (I3 : Nat → Int → Int → Heap → Prop), (∃ n7, I3 n7 (0 : Int) (0 : Int) ([] : Heap)) ∧
∀ (n8 : Nat) (calls1 : Int) (k3 : Int) (t5 : Heap), I3 n8 calls1 k3 t5 → ((decide (k3 < ((p3.len : Nat) : Int))) = true → ∃ (I4 : Nat → Int → Heap → Prop), (∃ n10, I4 n10 (0 : Int) ([] : Heap)) ∧
∀ (n11 : Nat) (j1 : Int) (t6 : Heap), I4 n11 j1 t6 → ((decide (j1 < k3)) = true → (0 ≤ j1 ∧
j1 < (p3.len : Int)) ∧
∃ (w2 : List UInt8), rdVar h none p3.b (p3.o + (j1 : Int).toNat * 2) = some (.str w2) ∧
(0 ≤ k3 ∧
k3 < (p3.len : Int)) ∧
∃ (w3 : List UInt8), rdVar h none p3.b (p3.o + (k3 : Int).toNat * 2) = some (.str w3) ∧
((w2 == w3) = true → P (.int .i64 6) (AObj.arr [(.str p1), (.int .i64 p2), p3.av] 3 false :: (t1 ++ (t2 ++ (t3 ++ (t5 ++ t6)))))) ∧
((w2 == w3) = false → ∃ n12, n12 < n11 ∧
I4 n12 (IntKind.wrap .i64 (j1 + 1)) t6)) ∧
((decide (j1 < k3)) = false → (0 ≤ k3 ∧
k3 < (p3.len : Int)) ∧
∃ (w4 : List UInt8), rdVar h none p3.b (p3.o + (k3 : Int).toNat * 2) = some (.str w4) ∧
((!(w4 == [115, 116, 97, 114, 116])) = true → ∃ n9, n9 < n8 ∧
I3 n9 (IntKind.wrap .i64 (calls1 + 1)) (IntKind.wrap .i64 (k3 + 1)) (t5 ++ t6)) ∧
((!(w4 == [115, 116, 97, 114, 116])) = false → ∃ n9, n9 < n8 ∧
I3 n9 calls1 (IntKind.wrap .i64 (k3 + 1)) (t5 ++ t6)))) ∧
((decide (k3 < ((p3.len : Nat) : Int))) = false → ((decide (p2 < 0)) = false → ((calls1 == 0) = true → P (.int .i64 1) (AObj.arr [(.str p1), (.int .i64 p2), p3.av] 3 false :: (t1 ++ (t2 ++ (t3 ++ t5))))) ∧
((calls1 == 0) = false → ∃ (I5 : Nat → Int → Heap → Prop), (∃ n13, I5 n13 (0 : Int) ([] : Heap)) ∧
∀ (n14 : Nat) (k4 : Int) (t7 : Heap), I5 n14 k4 t7 → ((decide (k4 < ((p3.len : Nat) : Int))) = true → (0 ≤ k4 ∧
k4 < (p3.len : Int)) ∧
∃ (l2 : Slc), rdVar h none p3.b ((p3.o + (k4 : Int).toNat * 2) + 1) = some l2.av ∧
((((l2.len : Nat) : Int) == 0) = true → P (.int .i64 1) (AObj.arr [(.str p1), (.int .i64 p2), p3.av] 3 false :: (t1 ++ (t2 ++ (t3 ++ (t5 ++ t7)))))) ∧
((((l2.len : Nat) : Int) == 0) = false → ∃ (I6 : Nat → Int → Heap → Prop), (∃ n16, I6 n16 (0 : Int) ([] : Heap)) ∧
∀ (n17 : Nat) (i1 : Int) (t8 : Heap), I6 n17 i1 t8 → ((decide (i1 < ((l2.len : Nat) : Int))) = true → (0 ≤ i1 ∧
i1 < (l2.len : Int)) ∧
∃ (x1 : Int) (x2 : Bool) (x3 : Int) (x4 : Int) (x5 : Int) (x6 : Int) (x7 : Int) (x8 : Int) (x9 : Int) (x10 : Int) (x11 : Int), rdVar h (some 11) l2.b (l2.o + (i1 : Int).toNat * 11) = some (.agg [(.int .i64 x1), (.bool x2), (.int .i64 x3), (.int .i64 x4), (.int .i64 x5), (.int .i64 x6), (.int .i64 x7), (.int .i64 x8), (.int .i64 x9), (.int .i64 x10), (.int .i64 x11)]) ∧
CallE M 62 [(.agg [(.int .i64 x1), (.bool x2), (.int .i64 x3), (.int .i64 x4), (.int .i64 x5), (.int .i64 x6), (.int .i64 x7), (.int .i64 x8), (.int .i64 x9), (.int .i64 x10), (.int .i64 x11)]), (.int .i64 ((l2.len : Nat) : Int))] (h ++ (AObj.arr [(.str p1), (.int .i64 p2), p3.av] 3 false :: (t1 ++ (t2 ++ (t3 ++ (t5 ++ (t7 ++ t8))))))) fun rv3 t9 =>
∃ (b3 : Bool), rv3 = (.bool b3) ∧
((!b3) = true → P (.int .i64 1) (AObj.arr [(.str p1), (.int .i64 p2), p3.av] 3 false :: (t1 ++ (t2 ++ (t3 ++ (t5 ++ (t7 ++ (t8 ++ t9)))))))) ∧
((!b3) = false → ∃ n18, n18 < n17 ∧
I6 n18 (IntKind.wrap .i64 (i1 + 1)) (t8 ++ t9))) ∧
((decide (i1 < ((l2.len : Nat) : Int))) = false → (0 ≤ (IntKind.wrap .i64 (((l2.len : Nat) : Int) - 1)) ∧
(IntKind.wrap .i64 (((l2.len : Nat) : Int) - 1)) < (l2.len : Int)) ∧
∃ (n19 : Int), rdVar h none l2.b (l2.o + ((IntKind.wrap .i64 (((l2.len : Nat) : Int) - 1)) : Int).toNat * 11) = some (.int .i64 n19) ∧
((n19 != 10) = true → ((n19 != 12) = true → ((n19 != 25) = true → P (.int .i64 1) (AObj.arr [(.str p1), (.int .i64 p2), p3.av] 3 false :: (t1 ++ (t2 ++ (t3 ++ (t5 ++ (t7 ++ t8))))))) ∧
((n19 != 25) = false → ∃ n15, n15 < n14 ∧
I5 n15 (IntKind.wrap .i64 (k4 + 1)) (t7 ++ t8))) ∧
((n19 != 12) = false → ∃ n15, n15 < n14 ∧
I5 n15 (IntKind.wrap .i64 (k4 + 1)) (t7 ++ t8))) ∧
((n19 != 10) = false → ∃ n15, n15 < n14 ∧
I5 n15 (IntKind.wrap .i64 (k4 + 1)) (t7 ++ t8))))) ∧
((decide (k4 < ((p3.len : Nat) : Int))) = false → P (.int .i64 0) (AObj.arr [(.str p1), (.int .i64 p2), p3.av] 3 false :: (t1 ++ (t2 ++ (t3 ++ (t5 ++ t7)))))))) ∧
((decide (p2 < 0)) = true → P (.int .i64 1) (AObj.arr [(.str p1), (.int .i64 p2), p3.av] 3 false :: (t1 ++ (t2 ++ (t3 ++ t5))))))))))) ∧
((decide (p2 > 16)) = true → P (.int .i64 2) [AObj.arr [(.str p1), (.int .i64 p2), p3.av] 3 false])
theorem d66 {M : Model} {p1 : List UInt8} {p2 : Int} {p3 : Slc} {h : Heap} {P : AV → Heap → Prop} (hF : M.fn 66 = some F66) (hd : D66 M p1 p2 p3 h P) : CallE M 66 [(.agg [(.str p1), (.int .i64 p2), p3.av])] h P :=
  callE_of_wp (hi := (rs 6 (.split ⟨.raw, 0, true, 0⟩ (rs 4 (.condS (.op ⟨.raw, 0, true, 0⟩ .nil) (.op ⟨.raw, 0, true, 0⟩ (.loop ⟨2, [], [(3, (.int .i64))]⟩ (rs 5 (.condS (rs 5 (.op ⟨.slc, 1, true, 0⟩ (rs 2 (.condS (.op ⟨.raw, 0, true, 0⟩ .nil) (rs 3 .nil))))) (rs 2 (.op ⟨.bool, 0, true, 0⟩ (.op ⟨.raw, 0, true, 0⟩ (.condS (.op ⟨.raw, 0, true, 0⟩ .nil) (.op ⟨.raw, 0, true, 0⟩ (.loop ⟨4, [], [(4, (.int .i64))]⟩ (rs 5 (.condS (rs 5 (.op ⟨.str, 1, true, 0⟩ (.op ⟨.bool, 0, true, 0⟩ (.op ⟨.raw, 0, true, 0⟩ (.condS (.op ⟨.raw, 0, true, 0⟩ .nil) (rs 3 .nil)))))) (rs 2 (.loop ⟨5, [], [(5, (.int .i64)), (6, (.int .i64))]⟩ (rs 5 (.condS (.op ⟨.raw, 0, true, 0⟩ (.loop ⟨6, [], [(7, (.int .i64))]⟩ (rs 3 (.condS (rs 5 (.op ⟨.str, 1, true, 0⟩ (rs 5 (.op ⟨.str, 1, true, 0⟩ (.op ⟨.raw, 0, true, 0⟩ (.condS (.op ⟨.raw, 0, true, 0⟩ .nil) (rs 3 .nil))))))) (rs 5 (.op ⟨.str, 1, true, 0⟩ (.op ⟨.raw, 0, true, 0⟩ (.condS (rs 6 .nil) (rs 3 .nil))))))))) (rs 4 (.split ⟨.raw, 0, true, 0⟩ (rs 2 (.condS (.op ⟨.raw, 0, true, 0⟩ .nil) (.op ⟨.raw, 0, true, 0⟩ (.loop ⟨6, [], [(8, (.int .i64))]⟩ (rs 5 (.condS (rs 5 (.op ⟨.slc, 1, true, 0⟩ (rs 4 (.condS (.op ⟨.raw, 0, true, 0⟩ .nil) (.op ⟨.raw, 0, true, 0⟩ (.loop ⟨7, [], [(10, (.int .i64))]⟩ (rs 4 (.condS (rs 3 (.op ⟨(.agg [(.int .i64), .bool, (.int .i64), (.int .i64), (.int .i64), (.int .i64), (.int .i64), (.int .i64), (.int .i64), (.int .i64), (.int .i64)]), 1, true, 0⟩ (rs 2 (.op ⟨.bool, 0, true, 0⟩ (.op ⟨.raw, 0, true, 0⟩ (.condS (.op ⟨.raw, 0, true, 0⟩ .nil) (rs 3 .nil))))))) (rs 6 (.op ⟨(.int .i64), 1, true, 0⟩ (rs 4 (.split ⟨.raw, 0, true, 0⟩ (rs 3 (.split ⟨.raw, 0, true, 0⟩ (rs 2 (.condS (.op ⟨.raw, 0, true, 0⟩ .nil) (rs 3 .nil))) (rs 2 (.condL (rs 3 .nil))))) (rs 6 (.condL (rs 3 .nil))))))))))))))) (.op ⟨.raw, 0, true, 0⟩ .nil))))))) (rs 2 (.condL (.op ⟨.raw, 0, true, 0⟩ .nil))))))))))))))))))))))) (rs 4 (.condL (.op ⟨.raw, 0, true, 0⟩ .nil)))))) (args := [(.agg [(.av (.str p1)), (.av (.int .i64 p2)), (.slc p3)])]) hF (by simp [oks, SV.ok]) (Eq.mp (α := D66 M p1 p2 p3 h P) (by kernel_rfl) hd)
def D120 (M : Model) (s_1 : List UInt8) (h : Heap) (P : AV → Heap → Prop) : Prop :=
((decide (((s_1.length : Nat) : Int) < 1)) = false → ((decide (((s_1.length : Nat) : Int) > 8)) = true → P (.bool false) ([] : Heap)) ∧
((decide (((s_1.length : Nat) : Int) > 8)) = false → ∃ (I1 : Nat → Int → Heap → Prop), (∃ n1, I1 n1 (0 : Int) ([] : Heap)) ∧
∀ (n2 : Nat) (i1 : Int) (t1 : Heap), I1 n2 i1 t1 → ((decide (i1 < ((s_1.length : Nat) : Int))) = true → ∃ (c1 : UInt8), (0 ≤ i1 ∧
s_1[(i1 : Int).toNat]? = some c1) ∧
((decide (((UInt8.toNat c1 : Nat) : Int) < 97)) = false → ∃ (c2 : UInt8), (0 ≤ i1 ∧
s_1[(i1 : Int).toNat]? = some c2) ∧
((decide (((UInt8.toNat c2 : Nat) : Int) > 122)) = true → P (.bool false) t1) ∧
((decide (((UInt8.toNat c2 : Nat) : Int) > 122)) = false → ∃ n3, n3 < n2 ∧
I1 n3 (IntKind.wrap .i64 (i1 + 1)) t1)) ∧
((decide (((UInt8.toNat c1 : Nat) : Int) < 97)) = true → P (.bool false) t1)) ∧
((decide (i1 < ((s_1.length : Nat) : Int))) = false → P (.bool true) t1))) ∧
((decide (((s_1.length : Nat) : Int) < 1)) = true → P (.bool false) ([] : Heap))
theorem d120 {M : Model} {s_1 : List UInt8} {h : Heap} {P : AV → Heap → Prop} (hF : M.fn 120 = some F120) (hd : D120 M s_1 h P) : CallE M 120 [(.str s_1)] h P :=
  callE_of_wp (hi := (rs 5 (.split ⟨.raw, 0, true, 0⟩ (rs 3 (.condS (.op ⟨.raw, 0, true, 0⟩ .nil) (.op ⟨.raw, 0, true, 0⟩ (.loop ⟨1, [], [(3, (.int .i64))]⟩ (rs 4 (.condS (rs 2 (.op ⟨.raw, 0, true, 1⟩ (rs 2 (.split ⟨.raw, 0, true, 0⟩ (.op ⟨.raw, 0, true, 0⟩ (.op ⟨.raw, 0, true, 1⟩ (rs 2 (.condS (.op ⟨.raw, 0, true, 0⟩ .nil) (rs 3 .nil))))) (rs 4 (.condL (.op ⟨.raw, 0, true, 0⟩ .nil))))))) (.op ⟨.raw, 0, true, 0⟩ .nil))))))) (rs 3 (.condL (.op ⟨.raw, 0, true, 0⟩ .nil)))))) (args := [(.av (.str s_1))]) hF (by simp [oks, SV.ok]) (Eq.mp (α := D120 M s_1 h P) (by kernel_rfl) hd)
def D121 (M : Model) (op1 : Int) (h : Heap) (P : AV → Heap → Prop) : Prop :=
((decide (op1 ≥ 7)) = true → P (.bool (decide (op1 ≤ 11))) ([] : Heap)) ∧
((decide (op1 ≥ 7)) = false → P (.bool false) ([] : Heap))
theorem d121 {M : Model} {op1 : Int} {h : Heap} {P : AV → Heap → Prop} (hF : M.fn 121 = some F121) (hd : D121 M op1 h P) : CallE M 121 [(.int .i64 op1)] h P :=
  callE_of_wp (hi := (rs 4 (.split ⟨.raw, 0, true, 0⟩ (rs 3 .nil) (rs 3 .nil)))) (args := [(.av (.int .i64 op1))]) hF (by simp [oks, SV.ok]) (Eq.mp (α := D121 M op1 h P) (by kernel_rfl) hd)
def D38 (M : Model) (p1 : List UInt8) (p2 : Int) (p3 : Slc) (h : Heap) (P : AV → Heap → Prop) : Prop :=
((decide (p2 > 16)) = false → ((decide (((p3.len : Nat) : Int) > 6)) = false →
CallE M 90 [p3.av, (.fn 91 [])] (h ++ [AObj.arr [(.str p1), (.int .i64 p2), p3.av] 3 false]) fun rv1 t1 =>
∃ (b1 : Bool), rv1 = (.bool b1) ∧
(b1 = true → P (.int .i64 2) (AObj.arr [(.str p1), (.int .i64 p2), p3.av] 3 false :: t1)) ∧
(b1 = false →
CallE M 92 [(.str p1)] (h ++ (AObj.arr [(.str p1), (.int .i64 p2), p3.av] 3 false :: t1)) fun rv2 t2 =>
∃ (b2 : Bool), rv2 = (.bool b2) ∧
((!b2) = false →
CallE M 90 [p3.av, (.fn 93 [])] (h ++ (AObj.arr [(.str p1), (.int .i64 p2), p3.av] 3 false :: (t1 ++ t2))) fun rv3 t3 =>
∃ (b3 : Bool), rv3 = (.bool b3) ∧
(b3 = true → P (.int .i64 5) (AObj.arr [(.str p1), (.int .i64 p2), p3.av] 3 false :: (t1 ++ (t2 ++ t3)))) ∧
(b3 = false → ∃ (I1 : Nat → Int → (List (AV × AV)) → Heap → Prop), (∃ n1, I1 n1 (0 : Int) [] ([] : Heap)) ∧
∀ (n2 : Nat) (x1 : Int) (c1 : List (AV × AV)) (t4 : Heap), I1 n2 x1 c1 t4 → ((decide (x1 < ((p3.len : Nat) : Int))) = true → (0 ≤ x1 ∧
x1 < (p3.len : Int)) ∧
∃ (x2 : List UInt8) (x3 : Slc), rdVar h (some 2) p3.b (p3.o + (x1 : Int).toNat * 2) = some (.agg [(.str x2), x3.av]) ∧
∃ (b4 : Bool), (∃ (r1 : Option AV), keyOk (.str x2) = true ∧
findKey (.str x2) c1 = some r1 ∧
((.bool b4) : AV) = if (false : Bool) = true then AV.tuple [r1.getD (.bool false), .bool r1.isSome] else r1.getD (.bool false)) ∧
(b4 = true → P (.int .i64 6) (AObj.arr [(.str p1), (.int .i64 p2), p3.av] 3 false :: (t1 ++ (t2 ++ (t3 ++ (AObj.map c1 :: (t4 ++ [AObj.arr [(.str x2), x3.av] 2 false]))))))) ∧
(b4 = false → ∃ (es1 : List (AV × AV)), (keyOk (.str x2) = true ∧
setKey (.str x2) (.bool true) c1 = some es1) ∧
∃ n3, n3 < n2 ∧
I1 n3 (IntKind.wrap .i64 (x1 + 1)) es1 (t4 ++ [AObj.arr [(.str x2), x3.av] 2 false]))) ∧
((decide (x1 < ((p3.len : Nat) : Int))) = false → ∃ (es2 : List (AV × AV)), (keyOk (.str [115, 116, 97, 114, 116]) = true ∧
delKey (.str [115, 116, 97, 114, 116]) c1 = some es2) ∧
((decide (p2 < 0)) = false → ((((List.length (α := AV × AV) es2 : Nat) : Int) == 0) = false →
CallE M 90 [p3.av, (.fn 94 [])] (h ++ (AObj.arr [(.str p1), (.int .i64 p2), p3.av] 3 false :: (t1 ++ (t2 ++ (t3 ++ (AObj.map es2 :: t4)))))) fun rv4 t5 =>
∃ (b5 : Bool), rv4 = (.bool b5) ∧
(b5 = true → P (.int .i64 1) (AObj.arr [(.str p1), (.int .i64 p2), p3.av] 3 false :: (t1 ++ (t2 ++ (t3 ++ (AObj.map es2 :: (t4 ++ t5))))))) ∧
(b5 = false → P (.int .i64 0) (AObj.arr [(.str p1), (.int .i64 p2), p3.av] 3 false :: (t1 ++ (t2 ++ (t3 ++ (AObj.map es2 :: (t4 ++ t5)))))))) ∧
((((List.length (α := AV × AV) es2 : Nat) : Int) == 0) = true → P (.int .i64 1) (AObj.arr [(.str p1), (.int .i64 p2), p3.av] 3 false :: (t1 ++ (t2 ++ (t3 ++ (AObj.map es2 :: t4))))))) ∧
((decide (p2 < 0)) = true → P (.int .i64 1) (AObj.arr [(.str p1), (.int .i64 p2), p3.av] 3 false :: (t1 ++ (t2 ++ (t3 ++ (AObj.map es2 :: t4))))))))) ∧
((!b2) = true → P (.int .i64 5) (AObj.arr [(.str p1), (.int .i64 p2), p3.av] 3 false :: (t1 ++ t2))))) ∧
((decide (((p3.len : Nat) : Int) > 6)) = true → P (.int .i64 2) [AObj.arr [(.str p1), (.int .i64 p2), p3.av] 3 false])) ∧
((decide (p2 > 16)) = true → P (.int .i64 2) [AObj.arr [(.str p1), (.int .i64 p2), p3.av] 3 false])
theorem d38 {M : Model} {p1 : List UInt8} {p2 : Int} {p3 : Slc} {h : Heap} {P : AV → Heap → Prop} (hF : M.fn 38 = some F38) (hd : D38 M p1 p2 p3 h P) : CallE M 38 [(.agg [(.str p1), (.int .i64 p2), p3.av])] h P :=
  callE_of_wp (hi := (rs 6 (.split ⟨.raw, 0, true, 0⟩ (rs 5 (.split ⟨.raw, 0, true, 0⟩ (.op ⟨.raw, 0, true, 0⟩ (.op ⟨.bool, 0, true, 0⟩ (.op ⟨.raw, 0, true, 0⟩ (.condS (.op ⟨.raw, 0, true, 0⟩ .nil) (rs 2 (.op ⟨.bool, 0, true, 0⟩ (rs 2 (.split ⟨.raw, 0, true, 0⟩ (.op ⟨.raw, 0, true, 0⟩ (.op ⟨.bool, 0, true, 0⟩ (.op ⟨.raw, 0, true, 0⟩ (.condS (.op ⟨.raw, 0, true, 0⟩ .nil) (rs 6 (.loop ⟨6, [(5, .mapo, 0)], [(33, (.int .i64))]⟩ (.op ⟨.raw, 0, true, 0⟩ (.condS (.op ⟨.raw, 0, true, 0⟩ (.op ⟨(.agg [.str, .slc]), 1, true, 0⟩ (rs 5 (.op ⟨.bool, 0, true, 0⟩ (.condS (.op ⟨.raw, 0, true, 0⟩ .nil) (rs 6 .nil)))))) (rs 6 (.split ⟨.raw, 0, true, 0⟩ (rs 4 (.split ⟨.raw, 0, true, 0⟩ (.op ⟨.raw, 0, true, 0⟩ (.op ⟨.bool, 0, true, 0⟩ (.op ⟨.raw, 0, true, 0⟩ (.condS (.op ⟨.raw, 0, true, 0⟩ .nil) (.op ⟨.raw, 0, true, 0⟩ .nil))))) (rs 3 (.condL (.op ⟨.raw, 0, true, 0⟩ .nil))))) (rs 8 (.condL (.op ⟨.raw, 0, true, 0⟩ .nil))))))))))))) (rs 3 (.condL (.op ⟨.raw, 0, true, 0⟩ .nil))))))))))) (rs 3 (.condL (.op ⟨.raw, 0, true, 0⟩ .nil))))) (rs 9 (.condL (.op ⟨.raw, 0, true, 0⟩ .nil)))))) (args := [(.agg [(.av (.str p1)), (.av (.int .i64 p2)), (.slc p3)])]) hF (by simp [oks, SV.ok]) (Eq.mp (α := D38 M p1 p2 p3 h P) (by kernel_rfl) hd)
def D78 (M : Model) (s_1 : Slc) (f1 : Nat) (f1c : List AV) (h : Heap) (P : AV → Heap → Prop) : Prop :=
∃ (I1 : Nat → Int → Heap → Prop), (∃ n1, I1 n1 (0 : Int) ([] : Heap)) ∧
∀ (n2 : Nat) (x1 : Int) (t1 : Heap), I1 n2 x1 t1 → ((decide (x1 < ((s_1.len : Nat) : Int))) = true → (0 ≤ x1 ∧
x1 < (s_1.len : Int)) ∧
∃ (x2 : List UInt8) (x3 : Slc), rdVar h (some 2) s_1.b (s_1.o + (x1 : Int).toNat * 2) = some (.agg [(.str x2), x3.av]) ∧
CallE M f1 ([(.agg [(.str x2), x3.av])] ++ f1c) (h ++ t1) fun rv1 t2 =>
∃ (b1 : Bool), rv1 = (.bool b1) ∧
(b1 = true → P (.int .i64 x1) (t1 ++ t2)) ∧
(b1 = false → ∃ n3, n3 < n2 ∧
I1 n3 (IntKind.wrap .i64 (x1 + 1)) (t1 ++ t2))) ∧
((decide (x1 < ((s_1.len : Nat) : Int))) = false → P (.int .i64 (-1)) t1)
theorem d78 {M : Model} {s_1 : Slc} {f1 : Nat} {f1c : List AV} {h : Heap} {P : AV → Heap → Prop} (hF : M.fn 78 = some F78) (hd : D78 M s_1 f1 f1c h P) : CallE M 78 [s_1.av, (.fn f1 f1c)] h P :=
  callE_of_wp (hi := (rs 4 (.loop ⟨1, [], [(8, (.int .i64))]⟩ (.op ⟨.raw, 0, true, 0⟩ (.condS (rs 6 (.op ⟨(.agg [.str, .slc]), 1, true, 0⟩ (.op ⟨.bool, 0, true, 0⟩ (.condS (rs 2 .nil) (rs 2 .nil))))) (.op ⟨.raw, 0, true, 0⟩ .nil)))))) (args := [(.slc s_1), (.av (.fn f1 f1c))]) hF (by simp [oks, SV.ok]) (Eq.mp (α := D78 M s_1 f1 f1c h P) (by kernel_rfl) hd)
def D90 (M : Model) (s_1 : Slc) (f1 : Nat) (f1c : List AV) (h : Heap) (P : AV → Heap → Prop) : Prop :=
CallE M 78 [s_1.av, (.fn f1 f1c)] h fun rv1 t1 =>
∃ (n1 : Int), rv1 = (.int .i64 n1) ∧
P (.bool (decide (n1 ≥ 0))) t1
theorem d90 {M : Model} {s_1 : Slc} {f1 : Nat} {f1c : List AV} {h : Heap} {P : AV → Heap → Prop} (hF : M.fn 90 = some F90) (hd : D90 M s_1 f1 f1c h P) : CallE M 90 [s_1.av, (.fn f1 f1c)] h P :=
  callE_of_wp (hi := (rs 3 (.op ⟨(.int .i64), 0, true, 0⟩ (rs 2 .nil)))) (args := [(.slc s_1), (.av (.fn f1 f1c))]) hF (by simp [oks, SV.ok]) (Eq.mp (α := D90 M s_1 f1 f1c h P) (by kernel_rfl) hd)
def D91 (M : Model) (r1 : List UInt8) (r2 : Slc) (h : Heap) (P : AV → Heap → Prop) : Prop :=
P (.bool (decide (((r2.len : Nat) : Int) > 120))) [AObj.arr [(.str r1), r2.av] 2 false]
theorem d91 {M : Model} {r1 : List UInt8} {r2 : Slc} {h : Heap} {P : AV → Heap → Prop} (hF : M.fn 91 = some F91) (hd : D91 M r1 r2 h P) : CallE M 91 [(.agg [(.str r1), r2.av])] h P :=
  callE_of_wp (hi := (rs 7 .nil)) (args := [(.agg [(.av (.str r1)), (.slc r2)])]) hF (by simp [oks, SV.ok]) (Eq.mp (α := D91 M r1 r2 h P) (by kernel_rfl) hd)
def D92 (M : Model) (s_1 : List UInt8) (h : Heap) (P : AV → Heap → Prop) : Prop :=
((decide (((s_1.length : Nat) : Int) < 1)) = false → ((decide (((s_1.length : Nat) : Int) > 8)) = true → P (.bool false) ([] : Heap)) ∧
((decide (((s_1.length : Nat) : Int) > 8)) = false → ∃ (I1 : Nat → Int → Heap → Prop), (∃ n1, I1 n1 (0 : Int) ([] : Heap)) ∧
∀ (n2 : Nat) (x1 : Int) (t1 : Heap), I1 n2 x1 t1 → ((decide (x1 < ((s_1.length : Nat) : Int))) = true → ∃ (c1 : UInt8), (0 ≤ x1 ∧
s_1[(x1 : Int).toNat]? = some c1) ∧
((decide (((UInt8.toNat c1 : Nat) : Int) < 97)) = false → ∃ (c2 : UInt8), (0 ≤ x1 ∧
s_1[(x1 : Int).toNat]? = some c2) ∧
((decide (((UInt8.toNat c2 : Nat) : Int) > 122)) = true → P (.bool false) t1) ∧
((decide (((UInt8.toNat c2 : Nat) : Int) > 122)) = false → ∃ n3, n3 < n2 ∧
I1 n3 (IntKind.wrap .i64 (x1 + 1)) t1)) ∧
((decide (((UInt8.toNat c1 : Nat) : Int) < 97)) = true → P (.bool false) t1)) ∧
((decide (x1 < ((s_1.length : Nat) : Int))) = false → P (.bool true) t1))) ∧
((decide (((s_1.length : Nat) : Int) < 1)) = true → P (.bool false) ([] : Heap))
theorem d92 {M : Model} {s_1 : List UInt8} {h : Heap} {P : AV → Heap → Prop} (hF : M.fn 92 = some F92) (hd : D92 M s_1 h P) : CallE M 92 [(.str s_1)] h P :=
  callE_of_wp (hi := (rs 5 (.split ⟨.raw, 0, true, 0⟩ (rs 3 (.condS (.op ⟨.raw, 0, true, 0⟩ .nil) (rs 3 (.loop ⟨1, [], [(14, (.int .i64))]⟩ (.op ⟨.raw, 0, true, 0⟩ (.condS (rs 4 (.op ⟨.raw, 0, true, 1⟩ (rs 2 (.split ⟨.raw, 0, true, 0⟩ (.op ⟨.raw, 0, true, 0⟩ (.op ⟨.raw, 0, true, 1⟩ (rs 2 (.condS (.op ⟨.raw, 0, true, 0⟩ .nil) (rs 2 .nil))))) (rs 4 (.condL (.op ⟨.raw, 0, true, 0⟩ .nil))))))) (.op ⟨.raw, 0, true, 0⟩ .nil))))))) (rs 3 (.condL (.op ⟨.raw, 0, true, 0⟩ .nil)))))) (args := [(.av (.str s_1))]) hF (by simp [oks, SV.ok]) (Eq.mp (α := D92 M s_1 h P) (by kernel_rfl) hd)
def D93 (M : Model) (r1 : List UInt8) (r2 : Slc) (h : Heap) (P : AV → Heap → Prop) : Prop :=
CallE M 92 [(.str r1)] (h ++ [AObj.arr [(.str r1), r2.av] 2 false]) fun rv1 t1 =>
∃ (b1 : Bool), rv1 = (.bool b1) ∧
P (.bool (!b1)) (AObj.arr [(.str r1), r2.av] 2 false :: t1)
theorem d93 {M : Model} {r1 : List UInt8} {r2 : Slc} {h : Heap} {P : AV → Heap → Prop} (hF : M.fn 93 = some F93) (hd : D93 M r1 r2 h P) : CallE M 93 [(.agg [(.str r1), r2.av])] h P :=
  callE_of_wp (hi := (rs 4 (.op ⟨.bool, 0, true, 0⟩ (rs 2 .nil)))) (args := [(.agg [(.av (.str r1)), (.slc r2)])]) hF (by simp [oks, SV.ok]) (Eq.mp (α := D93 M r1 r2 h P) (by kernel_rfl) hd)
def D94 (M : Model) (r1 : List UInt8) (r2 : Slc) (h : Heap) (P : AV → Heap → Prop) : Prop :=
((((r2.len : Nat) : Int) == 0) = false →
CallE M 133 [r2.av, (.fn 134 [(.ptr h.length 0)])] (h ++ [AObj.arr [(.str r1), r2.av] 2 false]) fun rv1 t1 =>
∃ (b1 : Bool), rv1 = (.bool b1) ∧
(b1 = true → P (.bool true) (AObj.arr [(.str r1), r2.av] 2 false :: t1)) ∧
(b1 = false → (0 ≤ (IntKind.wrap .i64 (((r2.len : Nat) : Int) - 1)) ∧
(IntKind.wrap .i64 (((r2.len : Nat) : Int) - 1)) < (r2.len : Int)) ∧
∃ (n1 : Int), rdVar h none r2.b (r2.o + ((IntKind.wrap .i64 (((r2.len : Nat) : Int) - 1)) : Int).toNat * 11) = some (.int .i64 n1) ∧
((n1 != 10) = true → ((n1 != 12) = true → P (.bool (n1 != 25)) (AObj.arr [(.str r1), r2.av] 2 false :: t1)) ∧
((n1 != 12) = false → P (.bool false) (AObj.arr [(.str r1), r2.av] 2 false :: t1))) ∧
((n1 != 10) = false → P (.bool false) (AObj.arr [(.str r1), r2.av] 2 false :: t1)))) ∧
((((r2.len : Nat) : Int) == 0) = true → P (.bool true) [AObj.arr [(.str r1), r2.av] 2 false])
theorem d94 {M : Model} {r1 : List UInt8} {r2 : Slc} {h : Heap} {P : AV → Heap → Prop} (hF : M.fn 94 = some F94) (hd : D94 M r1 r2 h P) : CallE M 94 [(.agg [(.str r1), r2.av])] h P :=
  callE_of_wp (hi := (rs 7 (.split ⟨.raw, 0, true, 0⟩ (rs 2 (.op ⟨.bool, 0, true, 0⟩ (.op ⟨.raw, 0, true, 0⟩ (.condS (.op ⟨.raw, 0, true, 0⟩ .nil) (rs 8 (.op ⟨(.int .i64), 1, true, 0⟩ (rs 4 (.split ⟨.raw, 0, true, 0⟩ (rs 3 (.split ⟨.raw, 0, true, 0⟩ (rs 3 .nil) (rs 3 .nil))) (rs 7 .nil))))))))) (rs 4 (.condL (.op ⟨.raw, 0, true, 0⟩ .nil)))))) (args := [(.agg [(.av (.str r1)), (.slc r2)])]) hF (by simp [oks, SV.ok]) (Eq.mp (α := D94 M r1 r2 h P) (by kernel_rfl) hd)
def D133 (M : Model) (s_1 : Slc) (f1 : Nat) (f1c : List AV) (h : Heap) (P : AV → Heap → Prop) : Prop :=
CallE M 159 [s_1.av, (.fn f1 f1c)] h fun rv1 t1 =>
∃ (n1 : Int), rv1 = (.int .i64 n1) ∧
P (.bool (decide (n1 ≥ 0))) t1
theorem d133 {M : Model} {s_1 : Slc} {f1 : Nat} {f1c : List AV} {h : Heap} {P : AV → Heap → Prop} (hF : M.fn 133 = some F133) (hd : D133 M s_1 f1 f1c h P) : CallE M 133 [s_1.av, (.fn f1 f1c)] h P :=
  callE_of_wp (hi := (rs 3 (.op ⟨(.int .i64), 0, true, 0⟩ (rs 2 .nil)))) (args := [(.slc s_1), (.av (.fn f1 f1c))]) hF (by simp [oks, SV.ok]) (Eq.mp (α := D133 M s_1 f1 f1c h P) (by kernel_rfl) hd)
def D134 (M : Model) (i1 : Int) (i2 : Bool) (i3 : Int) (i4 : Int) (i5 : Int) (i6 : Int) (i7 : Int) (i8 : Int) (i9 : Int) (i10 : Int) (i11 : Int) (a11 : Nat) (a11o : Nat) (h : Heap) (P : AV → Heap → Prop) : Prop :=
∃ (l1 : Slc), rdVar h none a11 (a11o + 1) = some l1.av ∧
CallE M 61 [(.agg [(.int .i64 i1), (.bool i2), (.int .i64 i3), (.int .i64 i4), (.int .i64 i5), (.int .i64 i6), (.int .i64 i7), (.int .i64 i8), (.int .i64 i9), (.int .i64 i10), (.int .i64 i11)]), (.int .i64 ((l1.len : Nat) : Int))] (h ++ [AObj.arr [(.int .i64 i1), (.bool i2), (.int .i64 i3), (.int .i64 i4), (.int .i64 i5), (.int .i64 i6), (.int .i64 i7), (.int .i64 i8), (.int .i64 i9), (.int .i64 i10), (.int .i64 i11)] 11 false]) fun rv1 t1 =>
∃ (b1 : Bool), rv1 = (.bool b1) ∧
P (.bool (!b1)) (AObj.arr [(.int .i64 i1), (.bool i2), (.int .i64 i3), (.int .i64 i4), (.int .i64 i5), (.int .i64 i6), (.int .i64 i7), (.int .i64 i8), (.int .i64 i9), (.int .i64 i10), (.int .i64 i11)] 11 false :: t1)
theorem d134 {M : Model} {i1 : Int} {i2 : Bool} {i3 : Int} {i4 : Int} {i5 : Int} {i6 : Int} {i7 : Int} {i8 : Int} {i9 : Int} {i10 : Int} {i11 : Int} {a11 : Nat} {a11o : Nat} {h : Heap} {P : AV → Heap → Prop} (hF : M.fn 134 = some F134) (hd : D134 M i1 i2 i3 i4 i5 i6 i7 i8 i9 i10 i11 a11 a11o h P) : CallE M 134 [(.agg [(.int .i64 i1), (.bool i2), (.int .i64 i3), (.int .i64 i4), (.int .i64 i5), (.int .i64 i6), (.int .i64 i7), (.int .i64 i8), (.int .i64 i9), (.int .i64 i10), (.int .i64 i11)]), (.ptr a11 a11o)] h P :=
  callE_of_wp (hi := (rs 4 (.op ⟨.slc, 1, true, 0⟩ (.op ⟨.raw, 0, true, 0⟩ (.op ⟨.bool, 0, true, 0⟩ (rs 2 .nil)))))) (args := [(.agg [(.av (.int .i64 i1)), (.av (.bool i2)), (.av (.int .i64 i3)), (.av (.int .i64 i4)), (.av (.int .i64 i5)), (.av (.int .i64 i6)), (.av (.int .i64 i7)), (.av (.int .i64 i8)), (.av (.int .i64 i9)), (.av (.int .i64 i10)), (.av (.int .i64 i11))]), (.av (.ptr a11 a11o))]) hF (by simp [oks, SV.ok]) (Eq.mp (α := D134 M i1 i2 i3 i4 i5 i6 i7 i8 i9 i10 i11 a11 a11o h P) (by kernel_rfl) hd)
def D159 (M : Model) (s_1 : Slc) (f1 : Nat) (f1c : List AV) (h : Heap) (P : AV → Heap → Prop) : Prop :=
∃ (I1 : Nat → Int → Heap → Prop), (∃ n1, I1 n1 (0 : Int) ([] : Heap)) ∧
∀ (n2 : Nat) (x1 : Int) (t1 : Heap), I1 n2 x1 t1 → ((decide (x1 < ((s_1.len : Nat) : Int))) = true → (0 ≤ x1 ∧
x1 < (s_1.len : Int)) ∧
∃ (x2 : Int) (x3 : Bool) (x4 : Int) (x5 : Int) (x6 : Int) (x7 : Int) (x8 : Int) (x9 : Int) (x10 : Int) (x11 : Int) (x12 : Int), rdVar h (some 11) s_1.b (s_1.o + (x1 : Int).toNat * 11) = some (.agg [(.int .i64 x2), (.bool x3), (.int .i64 x4), (.int .i64 x5), (.int .i64 x6), (.int .i64 x7), (.int .i64 x8), (.int .i64 x9), (.int .i64 x10), (.int .i64 x11), (.int .i64 x12)]) ∧
CallE M f1 ([(.agg [(.int .i64 x2), (.bool x3), (.int .i64 x4), (.int .i64 x5), (.int .i64 x6), (.int .i64 x7), (.int .i64 x8), (.int .i64 x9), (.int .i64 x10), (.int .i64 x11), (.int .i64 x12)])] ++ f1c) (h ++ t1) fun rv1 t2 =>
∃ (b1 : Bool), rv1 = (.bool b1) ∧
(b1 = true → P (.int .i64 x1) (t1 ++ t2)) ∧
(b1 = false → ∃ n3, n3 < n2 ∧
I1 n3 (IntKind.wrap .i64 (x1 + 1)) (t1 ++ t2))) ∧
((decide (x1 < ((s_1.len : Nat) : Int))) = false → P (.int .i64 (-1)) t1)
theorem d159 {M : Model} {s_1 : Slc} {f1 : Nat} {f1c : List AV} {h : Heap} {P : AV → Heap → Prop} (hF : M.fn 159 = some F159) (hd : D159 M s_1 f1 f1c h P) : CallE M 159 [s_1.av, (.fn f1 f1c)] h P :=
  callE_of_wp (hi := (rs 4 (.loop ⟨1, [], [(8, (.int .i64))]⟩ (.op ⟨.raw, 0, true, 0⟩ (.condS (rs 6 (.op ⟨(.agg [(.int .i64), .bool, (.int .i64), (.int .i64), (.int .i64), (.int .i64), (.int .i64), (.int .i64), (.int .i64), (.int .i64), (.int .i64)]), 1, true, 0⟩ (.op ⟨.bool, 0, true, 0⟩ (.condS (rs 2 .nil) (rs 2 .nil))))) (.op ⟨.raw, 0, true, 0⟩ .nil)))))) (args := [(.slc s_1), (.av (.fn f1 f1c))]) hF (by simp [oks, SV.ok]) (Eq.mp (α := D159 M s_1 f1 f1c h P) (by kernel_rfl) hd)
end Go.Proofs.YtifkphfhadimaaaGreatDoor.Mini

