import Derived.Test.YtifkphfhadimaaaGreatDoorMiniY
import Derived.Test.YtifkphfhadimaaaGreatDoorAbsG4
import Derived.Test.YtifkphfhadimaaaGreatDoorAbsG7
set_option linter.unusedVariables false
set_option linter.unusedSimpArgs false
set_option maxRecDepth 100000
namespace Go.Proofs.YtifkphfhadimaaaGreatDoor.Mini
open Go.Abs Mini
def D22 (M : Model) (p1 : List UInt8) (p2 : Int) (p3 : Slc) (q1 : List UInt8) (q2 : Int) (q3 : Slc) (h : Heap) (P : AV → Heap → Prop) : Prop :=
CallE M 50 [(.agg [(.str p1), (.int .i64 p2), p3.av])] (h ++ (AObj.arr [(.str p1), (.int .i64 p2), p3.av] 3 false :: [AObj.arr [(.str q1), (.int .i64 q2), q3.av] 3 false])) fun rv1 t1 =>
∃ (b1 : Bool), rv1 = (.bool b1) ∧
(b1 = false →
CallE M 50 [(.agg [(.str q1), (.int .i64 q2), q3.av])] (h ++ (AObj.arr [(.str p1), (.int .i64 p2), p3.av] 3 false :: (AObj.arr [(.str q1), (.int .i64 q2), q3.av] 3 false :: t1))) fun rv2 t2 =>
∃ (b2 : Bool), rv2 = (.bool b2) ∧
(b2 = true →
CallE M 51 [] (h ++ (AObj.arr [(.str p1), (.int .i64 p2), p3.av] 3 false :: (AObj.arr [(.str q1), (.int .i64 q2), q3.av] 3 false :: (t1 ++ t2)))) fun rv3 t3 =>
∃ (b3 : Bool), rv3 = (.bool b3) ∧
P (.bool b3) (AObj.arr [(.str p1), (.int .i64 p2), p3.av] 3 false :: (AObj.arr [(.str q1), (.int .i64 q2), q3.av] 3 false :: (t1 ++ (t2 ++ t3))))) ∧
(b2 = false →
CallE M 37 [(.agg [(.str p1), (.int .i64 p2), p3.av]), (.agg [(.str q1), (.int .i64 q2), q3.av])] (h ++ (AObj.arr [(.str p1), (.int .i64 p2), p3.av] 3 false :: (AObj.arr [(.str q1), (.int .i64 q2), q3.av] 3 false :: (t1 ++ t2)))) fun rv4 t4 =>
∃ (b4 : Bool), rv4 = (.bool b4) ∧
CallE M 53 [(.agg [(.str p1), (.int .i64 p2), p3.av]), (.agg [(.str q1), (.int .i64 q2), q3.av])] (h ++ (AObj.arr [(.str p1), (.int .i64 p2), p3.av] 3 false :: (AObj.arr [(.str q1), (.int .i64 q2), q3.av] 3 false :: (t1 ++ (t2 ++ t4))))) fun rv5 t5 =>
∃ (b5 : Bool), rv5 = (.bool b5) ∧
(((b4 == b5) != false) = true →
CallE M 63 [(.agg [(.str p1), (.int .i64 p2), p3.av])] (h ++ (AObj.arr [(.str p1), (.int .i64 p2), p3.av] 3 false :: (AObj.arr [(.str q1), (.int .i64 q2), q3.av] 3 false :: (t1 ++ (t2 ++ (t4 ++ t5)))))) fun rv6 t6 =>
∃ (x1 : List UInt8) (x2 : Int) (x3 : Slc), rv6 = (.agg [(.str x1), (.int .i64 x2), x3.av]) ∧
CallE M 37 [(.agg [(.str p1), (.int .i64 p2), p3.av]), (.agg [(.str x1), (.int .i64 x2), x3.av])] (h ++ (AObj.arr [(.str p1), (.int .i64 p2), p3.av] 3 false :: (AObj.arr [(.str q1), (.int .i64 q2), q3.av] 3 false :: (t1 ++ (t2 ++ (t4 ++ (t5 ++ t6))))))) fun rv7 t7 =>
∃ (b6 : Bool), rv7 = (.bool b6) ∧
(b6 = true →
CallE M 37 [(.agg [(.str q1), (.int .i64 q2), q3.av]), (.agg [(.str q1), (.int .i64 q2), q3.av])] (h ++ (AObj.arr [(.str p1), (.int .i64 p2), p3.av] 3 false :: (AObj.arr [(.str q1), (.int .i64 q2), q3.av] 3 false :: (t1 ++ (t2 ++ (t4 ++ (t5 ++ (t6 ++ t7)))))))) fun rv8 t8 =>
∃ (b7 : Bool), rv8 = (.bool b7) ∧
(b7 = true →
CallE M 51 [] (h ++ (AObj.arr [(.str p1), (.int .i64 p2), p3.av] 3 false :: (AObj.arr [(.str q1), (.int .i64 q2), q3.av] 3 false :: (t1 ++ (t2 ++ (t4 ++ (t5 ++ (t6 ++ (t7 ++ t8))))))))) fun rv9 t9 =>
∃ (b8 : Bool), rv9 = (.bool b8) ∧
P (.bool b8) (AObj.arr [(.str p1), (.int .i64 p2), p3.av] 3 false :: (AObj.arr [(.str q1), (.int .i64 q2), q3.av] 3 false :: (t1 ++ (t2 ++ (t4 ++ (t5 ++ (t6 ++ (t7 ++ (t8 ++ t9)))))))))) ∧
(b7 = false → P (.bool false) (AObj.arr [(.str p1), (.int .i64 p2), p3.av] 3 false :: (AObj.arr [(.str q1), (.int .i64 q2), q3.av] 3 false :: (t1 ++ (t2 ++ (t4 ++ (t5 ++ (t6 ++ (t7 ++ t8)))))))))) ∧
(b6 = false → P (.bool false) (AObj.arr [(.str p1), (.int .i64 p2), p3.av] 3 false :: (AObj.arr [(.str q1), (.int .i64 q2), q3.av] 3 false :: (t1 ++ (t2 ++ (t4 ++ (t5 ++ (t6 ++ t7))))))))) ∧
(((b4 == b5) != false) = false → P (.bool false) (AObj.arr [(.str p1), (.int .i64 p2), p3.av] 3 false :: (AObj.arr [(.str q1), (.int .i64 q2), q3.av] 3 false :: (t1 ++ (t2 ++ (t4 ++ t5)))))))) ∧
(b1 = true →
CallE M 51 [] (h ++ (AObj.arr [(.str p1), (.int .i64 p2), p3.av] 3 false :: (AObj.arr [(.str q1), (.int .i64 q2), q3.av] 3 false :: t1))) fun rv10 t10 =>
∃ (b9 : Bool), rv10 = (.bool b9) ∧
P (.bool b9) (AObj.arr [(.str p1), (.int .i64 p2), p3.av] 3 false :: (AObj.arr [(.str q1), (.int .i64 q2), q3.av] 3 false :: (t1 ++ t10))))
theorem d22 {M : Model} {p1 : List UInt8} {p2 : Int} {p3 : Slc} {q1 : List UInt8} {q2 : Int} {q3 : Slc} {h : Heap} {P : AV → Heap → Prop} (hF : M.fn 22 = some F22) (hd : D22 M p1 p2 p3 q1 q2 q3 h P) : CallE M 22 [(.agg [(.str p1), (.int .i64 p2), p3.av]), (.agg [(.str q1), (.int .i64 q2), q3.av])] h P :=
  callE_of_wp (hi := (rs 4 (.op ⟨.bool, 0, true, 0⟩ (.op ⟨.raw, 0, true, 0⟩ (.split ⟨.raw, 0, true, 0⟩ (.op ⟨.bool, 0, true, 0⟩ (.op ⟨.raw, 0, true, 0⟩ (.condS (.op ⟨.bool, 0, true, 0⟩ (.op ⟨.raw, 0, true, 0⟩ .nil)) (.perm [0, 1, 3, 4, 2, 5, 6, 7, 8, 9, 10, 11, 12, 13, 14, 15, 16, 17, 18, 19, 20, 21] [0, 1, 4, 2, 3, 5, 6, 7, 8, 9, 10, 11, 12, 13, 14, 15, 16, 17, 18, 19, 20, 21] (rs 4 (.op ⟨.bool, 0, true, 0⟩ (.op ⟨.bool, 0, true, 0⟩ (rs 2 (.split ⟨.raw, 0, true, 0⟩ (.op ⟨.raw, 0, true, 0⟩ (.op ⟨(.agg [.str, (.int .i64), .slc]), 0, true, 0⟩ (.op ⟨.bool, 0, true, 0⟩ (rs 2 (.split ⟨.raw, 0, true, 0⟩ (.op ⟨.raw, 0, true, 0⟩ (.op ⟨.bool, 0, true, 0⟩ (rs 2 (.split ⟨.bool, 0, true, 0⟩ (rs 2 .nil) (rs 2 .nil))))) (rs 7 .nil)))))) (rs 13 .nil)))))))))) (rs 2 (.condL (.op ⟨.bool, 0, true, 0⟩ (.op ⟨.raw, 0, true, 0⟩ .nil))))))))) (args := [(.agg [(.av (.str p1)), (.av (.int .i64 p2)), (.slc p3)]), (.agg [(.av (.str q1)), (.av (.int .i64 q2)), (.slc q3)])]) hF (by simp [oks, SV.ok]) (Eq.mp (α := D22 M p1 p2 p3 q1 q2 q3 h P) (by kernel_rfl) hd)
def D37 (M : Model) (p1 : List UInt8) (p2 : Int) (p3 : Slc) (q1 : List UInt8) (q2 : Int) (q3 : Slc) (h : Heap) (P : AV → Heap → Prop) : Prop :=
((p1 == q1) = true → ((p2 == q2) = true →
CallE M 87 [p3.av, q3.av, (.fn 88 [])] (h ++ (AObj.arr [(.str p1), (.int .i64 p2), p3.av] 3 false :: [AObj.arr [(.str q1), (.int .i64 q2), q3.av] 3 false])) fun rv1 t1 =>
∃ (b1 : Bool), rv1 = (.bool b1) ∧
P (.bool b1) (AObj.arr [(.str p1), (.int .i64 p2), p3.av] 3 false :: (AObj.arr [(.str q1), (.int .i64 q2), q3.av] 3 false :: t1))) ∧
((p2 == q2) = false → P (.bool false) (AObj.arr [(.str p1), (.int .i64 p2), p3.av] 3 false :: [AObj.arr [(.str q1), (.int .i64 q2), q3.av] 3 false]))) ∧
((p1 == q1) = false → P (.bool false) (AObj.arr [(.str p1), (.int .i64 p2), p3.av] 3 false :: [AObj.arr [(.str q1), (.int .i64 q2), q3.av] 3 false]))
theorem d37 {M : Model} {p1 : List UInt8} {p2 : Int} {p3 : Slc} {q1 : List UInt8} {q2 : Int} {q3 : Slc} {h : Heap} {P : AV → Heap → Prop} (hF : M.fn 37 = some F37) (hd : D37 M p1 p2 p3 q1 q2 q3 h P) : CallE M 37 [(.agg [(.str p1), (.int .i64 p2), p3.av]), (.agg [(.str q1), (.int .i64 q2), q3.av])] h P :=
  callE_of_wp (hi := (rs 9 (.split ⟨.raw, 0, true, 0⟩ (rs 6 (.split ⟨.raw, 0, true, 0⟩ (rs 3 (.op ⟨.bool, 0, true, 0⟩ (rs 2 .nil))) (rs 6 .nil))) (rs 13 .nil)))) (args := [(.agg [(.av (.str p1)), (.av (.int .i64 p2)), (.slc p3)]), (.agg [(.av (.str q1)), (.av (.int .i64 q2)), (.slc q3)])]) hF (by simp [oks, SV.ok]) (Eq.mp (α := D37 M p1 p2 p3 q1 q2 q3 h P) (by kernel_rfl) hd)
def D50 (M : Model) (p1 : List UInt8) (p2 : Int) (p3 : Slc) (h : Heap) (P : AV → Heap → Prop) : Prop :=
∃ (I1 : Nat → Int → Int → Heap → Prop), (∃ n1, I1 n1 (IntKind.wrap .i64 (((p3.len : Nat) : Int) + ((p1.length : Nat) : Int))) (0 : Int) ([] : Heap)) ∧
∀ (n3 : Nat) (n2 : Int) (k1 : Int) (t1 : Heap), I1 n3 n2 k1 t1 → ((decide (k1 < ((p3.len : Nat) : Int))) = true → ((decide (n2 < 800)) = true → (0 ≤ k1 ∧
k1 < (p3.len : Int)) ∧
∃ (l1 : Slc), rdVar h none p3.b ((p3.o + (k1 : Int).toNat * 2) + 1) = some l1.av ∧
(0 ≤ k1 ∧
k1 < (p3.len : Int)) ∧
∃ (w1 : List UInt8), rdVar h none p3.b (p3.o + (k1 : Int).toNat * 2) = some (.str w1) ∧
∃ n4, n4 < n3 ∧
I1 n4 (IntKind.wrap .i64 ((IntKind.wrap .i64 (n2 + ((l1.len : Nat) : Int))) + ((w1.length : Nat) : Int))) (IntKind.wrap .i64 (k1 + 1)) t1) ∧
((decide (n2 < 800)) = false → P (.bool (decide (n2 ≥ 800))) (AObj.arr [(.str p1), (.int .i64 p2), p3.av] 3 false :: t1))) ∧
((decide (k1 < ((p3.len : Nat) : Int))) = false → P (.bool (decide (n2 ≥ 800))) (AObj.arr [(.str p1), (.int .i64 p2), p3.av] 3 false :: t1))
theorem d50 {M : Model} {p1 : List UInt8} {p2 : Int} {p3 : Slc} {h : Heap} {P : AV → Heap → Prop} (hF : M.fn 50 = some F50) (hd : D50 M p1 p2 p3 h P) : CallE M 50 [(.agg [(.str p1), (.int .i64 p2), p3.av])] h P :=
  callE_of_wp (hi := (rs 11 (.loop ⟨2, [], [(3, (.int .i64)), (4, (.int .i64))]⟩ (rs 6 (.split ⟨.raw, 0, true, 0⟩ (rs 2 (.condS (rs 6 (.op ⟨.slc, 1, true, 0⟩ (rs 7 (.op ⟨.str, 1, true, 0⟩ (rs 6 .nil))))) (rs 3 .nil))) (rs 2 (.condL (rs 3 .nil)))))))) (args := [(.agg [(.av (.str p1)), (.av (.int .i64 p2)), (.slc p3)])]) hF (by simp [oks, SV.ok]) (Eq.mp (α := D50 M p1 p2 p3 h P) (by kernel_rfl) hd)
def D53 (M : Model) (p1 : List UInt8) (p2 : Int) (p3 : Slc) (q1 : List UInt8) (q2 : Int) (q3 : Slc) (h : Heap) (P : AV → Heap → Prop) : Prop :=
((!(p1 == q1)) = false → ((p2 != q2) = false → ((((p3.len : Nat) : Int) != ((q3.len : Nat) : Int)) = true → P (.bool false) (AObj.arr [(.str p1), (.int .i64 p2), p3.av] 3 false :: [AObj.arr [(.str q1), (.int .i64 q2), q3.av] 3 false])) ∧
((((p3.len : Nat) : Int) != ((q3.len : Nat) : Int)) = false → ∃ (I1 : Nat → Int → Heap → Prop), (∃ n1, I1 n1 (0 : Int) ([] : Heap)) ∧
∀ (n2 : Nat) (k1 : Int) (t1 : Heap), I1 n2 k1 t1 → ((decide (k1 < ((p3.len : Nat) : Int))) = true → (0 ≤ k1 ∧
k1 < (p3.len : Int)) ∧
∃ (x1 : List UInt8) (x2 : Slc), rdVar h (some 2) p3.b (p3.o + (k1 : Int).toNat * 2) = some (.agg [(.str x1), x2.av]) ∧
(0 ≤ k1 ∧
k1 < (q3.len : Int)) ∧
∃ (x3 : List UInt8) (x4 : Slc), rdVar h (some 2) q3.b (q3.o + (k1 : Int).toNat * 2) = some (.agg [(.str x3), x4.av]) ∧
((!(x1 == x3)) = false → ((((x2.len : Nat) : Int) != ((x4.len : Nat) : Int)) = true → P (.bool false) (AObj.arr [(.str p1), (.int .i64 p2), p3.av] 3 false :: (AObj.arr [(.str q1), (.int .i64 q2), q3.av] 3 false :: (t1 ++ (AObj.arr [(.str x1), x2.av] 2 false :: [AObj.arr [(.str x3), x4.av] 2 false]))))) ∧
((((x2.len : Nat) : Int) != ((x4.len : Nat) : Int)) = false → ∃ (I2 : Nat → Int → Heap → Prop), (∃ n4, I2 n4 (0 : Int) ([] : Heap)) ∧
∀ (n5 : Nat) (i1 : Int) (t2 : Heap), I2 n5 i1 t2 → ((decide (i1 < ((x2.len : Nat) : Int))) = true → (0 ≤ i1 ∧
i1 < (x2.len : Int)) ∧
∃ (x5 : Int) (x6 : Bool) (x7 : Int) (x8 : Int) (x9 : Int) (x10 : Int) (x11 : Int) (x12 : Int) (x13 : Int) (x14 : Int) (x15 : Int), rdVar h (some 11) x2.b (x2.o + (i1 : Int).toNat * 11) = some (.agg [(.int .i64 x5), (.bool x6), (.int .i64 x7), (.int .i64 x8), (.int .i64 x9), (.int .i64 x10), (.int .i64 x11), (.int .i64 x12), (.int .i64 x13), (.int .i64 x14), (.int .i64 x15)]) ∧
(0 ≤ i1 ∧
i1 < (x4.len : Int)) ∧
∃ (x16 : Int) (x17 : Bool) (x18 : Int) (x19 : Int) (x20 : Int) (x21 : Int) (x22 : Int) (x23 : Int) (x24 : Int) (x25 : Int) (x26 : Int), rdVar h (some 11) x4.b (x4.o + (i1 : Int).toNat * 11) = some (.agg [(.int .i64 x16), (.bool x17), (.int .i64 x18), (.int .i64 x19), (.int .i64 x20), (.int .i64 x21), (.int .i64 x22), (.int .i64 x23), (.int .i64 x24), (.int .i64 x25), (.int .i64 x26)]) ∧
((((x5 == x16) && ((x6 == x17) && ((x7 == x18) && ((x8 == x19) && ((x9 == x20) && ((x10 == x21) && ((x11 == x22) && ((x12 == x23) && ((x13 == x24) && ((x14 == x25) && ((x15 == x26) && true))))))))))) != true) = true → P (.bool false) (AObj.arr [(.str p1), (.int .i64 p2), p3.av] 3 false :: (AObj.arr [(.str q1), (.int .i64 q2), q3.av] 3 false :: (t1 ++ (AObj.arr [(.str x1), x2.av] 2 false :: (AObj.arr [(.str x3), x4.av] 2 false :: t2)))))) ∧
((((x5 == x16) && ((x6 == x17) && ((x7 == x18) && ((x8 == x19) && ((x9 == x20) && ((x10 == x21) && ((x11 == x22) && ((x12 == x23) && ((x13 == x24) && ((x14 == x25) && ((x15 == x26) && true))))))))))) != true) = false → ∃ n6, n6 < n5 ∧
I2 n6 (IntKind.wrap .i64 (i1 + 1)) t2)) ∧
((decide (i1 < ((x2.len : Nat) : Int))) = false → ∃ n3, n3 < n2 ∧
I1 n3 (IntKind.wrap .i64 (k1 + 1)) (t1 ++ (AObj.arr [(.str x1), x2.av] 2 false :: (AObj.arr [(.str x3), x4.av] 2 false :: t2)))))) ∧
((!(x1 == x3)) = true → P (.bool false) (AObj.arr [(.str p1), (.int .i64 p2), p3.av] 3 false :: (AObj.arr [(.str q1), (.int .i64 q2), q3.av] 3 false :: (t1 ++ (AObj.arr [(.str x1), x2.av] 2 false :: [AObj.arr [(.str x3), x4.av] 2 false])))))) ∧
((decide (k1 < ((p3.len : Nat) : Int))) = false → P (.bool true) (AObj.arr [(.str p1), (.int .i64 p2), p3.av] 3 false :: (AObj.arr [(.str q1), (.int .i64 q2), q3.av] 3 false :: t1))))) ∧
((p2 != q2) = true → P (.bool false) (AObj.arr [(.str p1), (.int .i64 p2), p3.av] 3 false :: [AObj.arr [(.str q1), (.int .i64 q2), q3.av] 3 false]))) ∧
((!(p1 == q1)) = true → P (.bool false) (AObj.arr [(.str p1), (.int .i64 p2), p3.av] 3 false :: [AObj.arr [(.str q1), (.int .i64 q2), q3.av] 3 false]))
theorem d53 {M : Model} {p1 : List UInt8} {p2 : Int} {p3 : Slc} {q1 : List UInt8} {q2 : Int} {q3 : Slc} {h : Heap} {P : AV → Heap → Prop} (hF : M.fn 53 = some F53) (hd : D53 M p1 p2 p3 q1 q2 q3 h P) : CallE M 53 [(.agg [(.str p1), (.int .i64 p2), p3.av]), (.agg [(.str q1), (.int .i64 q2), q3.av])] h P :=
  callE_of_wp (hi := (rs 9 (.split ⟨.raw, 0, true, 0⟩ (rs 6 (.split ⟨.raw, 0, true, 0⟩ (rs 7 (.condS (.op ⟨.raw, 0, true, 0⟩ .nil) (.op ⟨.raw, 0, true, 0⟩ (.loop ⟨3, [], [(5, (.int .i64))]⟩ (rs 5 (.condS (rs 4 (.op ⟨(.agg [.str, .slc]), 1, true, 0⟩ (rs 6 (.op ⟨(.agg [.str, .slc]), 1, true, 0⟩ (rs 8 (.split ⟨.raw, 0, true, 0⟩ (rs 7 (.condS (.op ⟨.raw, 0, true, 0⟩ .nil) (.op ⟨.raw, 0, true, 0⟩ (.loop ⟨6, [], [(8, (.int .i64))]⟩ (rs 5 (.condS (rs 4 (.op ⟨(.agg [(.int .i64), .bool, (.int .i64), (.int .i64), (.int .i64), (.int .i64), (.int .i64), (.int .i64), (.int .i64), (.int .i64), (.int .i64)]), 1, true, 0⟩ (rs 4 (.op ⟨(.agg [(.int .i64), .bool, (.int .i64), (.int .i64), (.int .i64), (.int .i64), (.int .i64), (.int .i64), (.int .i64), (.int .i64), (.int .i64)]), 1, true, 0⟩ (.op ⟨.raw, 0, true, 0⟩ (.condS (.op ⟨.raw, 0, true, 0⟩ .nil) (rs 3 .nil))))))) (rs 3 .nil))))))) (rs 7 (.condL (.op ⟨.raw, 0, true, 0⟩ .nil))))))))) (.op ⟨.raw, 0, true, 0⟩ .nil))))))) (rs 7 (.condL (.op ⟨.raw, 0, true, 0⟩ .nil))))) (rs 14 (.condL (.op ⟨.raw, 0, true, 0⟩ .nil)))))) (args := [(.agg [(.av (.str p1)), (.av (.int .i64 p2)), (.slc p3)]), (.agg [(.av (.str q1)), (.av (.int .i64 q2)), (.slc q3)])]) hF (by simp [oks, SV.ok]) (Eq.mp (α := D53 M p1 p2 p3 q1 q2 q3 h P) (by kernel_rfl) hd)
def D63 (M : Model) (p1 : List UInt8) (p2 : Int) (p3 : Slc) (h : Heap) (P : AV → Heap → Prop) : Prop :=
∃ (I1 : Nat → Int → (List UInt8) → Int → Slc → Heap → Prop), (∃ n1, I1 n1 (0 : Int) (p1 : List UInt8) p2 (Slc.mk 0 0 0 true) ([] : Heap)) ∧
∀ (n2 : Nat) (k1 : Int) (c1 : List UInt8) (c2 : Int) (c3 : Slc) (t1 : Heap), I1 n2 k1 c1 c2 c3 t1 → ((decide (k1 < ((p3.len : Nat) : Int))) = true → (0 ≤ k1 ∧
k1 < (p3.len : Int)) ∧
∃ (w1 : List UInt8), rdVar h none p3.b (p3.o + (k1 : Int).toNat * 2) = some (.str w1) ∧
(0 ≤ k1 ∧
k1 < (p3.len : Int)) ∧
∃ (l1 : Slc), rdVar h none p3.b ((p3.o + (k1 : Int).toNat * 2) + 1) = some l1.av ∧
CallP M 9999 [(.int .i64 11), (.int .i64 88), (.slice (h.length + (1 + (1 + (1 + t1.length)))) 0 0), l1.av] (h ++ (AObj.arr [(.str p1), (.int .i64 p2), p3.av] 3 false :: (AObj.arr [(.str []), (.int .i64 0), .nilslice] 3 false :: [AObj.arr [(.str c1), (.int .i64 c2), c3.av] 3 false]))) (t1 ++ [AObj.arr [] 11 false]) fun rv1 t2 =>
∃ (l2 : Slc), rv1 = l2.av ∧
∃ (old1 : List AV) (g1 : Heap), ((c3.nil = true ∧
old1 = [] ∧
g1 = t2) ∨ (c3.nil = false ∧
∃ (k2 : Nat) (c4 : List AV), c3.b = (h.length + (1 + (1 + 1))) + k2 ∧
(t2)[k2]? = some (.arr c4 2 false) ∧
c3.o + c3.n * 2 ≤ c4.length ∧
old1 = (c4.drop c3.o).take (c3.n * 2) ∧
g1 = t2.set k2 .dead)) ∧
(c3.len + 1) * 40 ≤ 140737488355328 ∧
∃ n3, n3 < n2 ∧
I1 n3 (IntKind.wrap .i64 (k1 + 1)) (c1 : List UInt8) c2 (Slc.mk (h.length + (1 + (1 + (1 + (g1.length + 1))))) 0 (c3.len + 1) false) (g1 ++ (AObj.arr [(.str w1), l2.av] 2 false :: [AObj.arr (old1 ++ [(.str w1), l2.av]) 2 false]))) ∧
((decide (k1 < ((p3.len : Nat) : Int))) = false → P (.agg [(.str c1), (.int .i64 c2), c3.av]) (AObj.arr [(.str p1), (.int .i64 p2), p3.av] 3 false :: (AObj.arr [(.str c1), (.int .i64 c2), c3.av] 3 false :: (AObj.arr [(.str c1), (.int .i64 c2), c3.av] 3 false :: t1))))
set_option maxHeartbeats 2000000 in
theorem d63 {M : Model} {p1 : List UInt8} {p2 : Int} {p3 : Slc} {h : Heap} {P : AV → Heap → Prop} (hF : M.fn 63 = some F63) (hd : D63 (apM 63 (apF (isS [25]) (relaxSF noS (isS [25]) ([0, 1, 2, 3, 4, 5, 6, 7, 9, 10, 11, 12, 13, 14, 8, 15, 16, 17, 18, 19, 20], [0, 1, 2, 3, 4, 5, 6, 7, 14, 8, 9, 10, 11, 12, 13, 15, 16, 17, 18, 19, 20]) F63))) p1 p2 p3 h P) : CallE M 63 [(.agg [(.str p1), (.int .i64 p2), p3.av])] h P :=
  callE_of_wpA (sf := isS [25]) (st := ([0, 1, 2, 3, 4, 5, 6, 7, 9, 10, 11, 12, 13, 14, 8, 15, 16, 17, 18, 19, 20], [0, 1, 2, 3, 4, 5, 6, 7, 14, 8, 9, 10, 11, 12, 13, 15, 16, 17, 18, 19, 20])) rfl (hi := (rs 10 (.loop ⟨4, [(3, (.agg [.str, (.int .i64), .slc]), 3)], [(4, (.int .i64))]⟩ (rs 5 (.condS (rs 7 (.op ⟨.str, 1, true, 0⟩ (rs 5 (.op ⟨.slc, 1, true, 0⟩ (.op ⟨.raw, 0, true, 0⟩ (.op ⟨.slc, 4, true, 1⟩ (rs 2 (.op ⟨.raw, 4, true, 0⟩ (rs 5 .nil))))))))) (rs 2 .nil)))))) (args := [(.agg [(.av (.str p1)), (.av (.int .i64 p2)), (.slc p3)])]) hF (by simp [oks, SV.ok]) (Eq.mp (α := D63 (apM 63 (apF (isS [25]) (relaxSF noS (isS [25]) ([0, 1, 2, 3, 4, 5, 6, 7, 9, 10, 11, 12, 13, 14, 8, 15, 16, 17, 18, 19, 20], [0, 1, 2, 3, 4, 5, 6, 7, 14, 8, 9, 10, 11, 12, 13, 15, 16, 17, 18, 19, 20]) F63))) p1 p2 p3 h P) (by kernel_rfl) hd)
def D87 (M : Model) (s11 : Slc) (s21 : Slc) (eq1 : Nat) (eq1c : List AV) (h : Heap) (P : AV → Heap → Prop) : Prop :=
((((s11.len : Nat) : Int) != ((s21.len : Nat) : Int)) = true → P (.bool false) ([] : Heap)) ∧
((((s11.len : Nat) : Int) != ((s21.len : Nat) : Int)) = false → ∃ (I1 : Nat → Int → Heap → Prop), (∃ n1, I1 n1 (0 : Int) ([] : Heap)) ∧
∀ (n2 : Nat) (x1 : Int) (t1 : Heap), I1 n2 x1 t1 → ((decide (x1 < ((s11.len : Nat) : Int))) = true → (0 ≤ x1 ∧
x1 < (s11.len : Int)) ∧
∃ (x2 : List UInt8) (x3 : Slc), rdVar h (some 2) s11.b (s11.o + (x1 : Int).toNat * 2) = some (.agg [(.str x2), x3.av]) ∧
(0 ≤ x1 ∧
x1 < (s21.len : Int)) ∧
∃ (x4 : List UInt8) (x5 : Slc), rdVar h (some 2) s21.b (s21.o + (x1 : Int).toNat * 2) = some (.agg [(.str x4), x5.av]) ∧
CallE M eq1 ([(.agg [(.str x2), x3.av]), (.agg [(.str x4), x5.av])] ++ eq1c) (h ++ (t1 ++ (AObj.arr [(.str x2), x3.av] 2 false :: [AObj.arr [(.str x4), x5.av] 2 false]))) fun rv1 t2 =>
∃ (b1 : Bool), rv1 = (.bool b1) ∧
((!b1) = true → P (.bool false) (t1 ++ (AObj.arr [(.str x2), x3.av] 2 false :: (AObj.arr [(.str x4), x5.av] 2 false :: t2)))) ∧
((!b1) = false → ∃ n3, n3 < n2 ∧
I1 n3 (IntKind.wrap .i64 (x1 + 1)) (t1 ++ (AObj.arr [(.str x2), x3.av] 2 false :: (AObj.arr [(.str x4), x5.av] 2 false :: t2))))) ∧
((decide (x1 < ((s11.len : Nat) : Int))) = false → P (.bool true) t1))
theorem d87 {M : Model} {s11 : Slc} {s21 : Slc} {eq1 : Nat} {eq1c : List AV} {h : Heap} {P : AV → Heap → Prop} (hF : M.fn 87 = some F87) (hd : D87 M s11 s21 eq1 eq1c h P) : CallE M 87 [s11.av, s21.av, (.fn eq1 eq1c)] h P :=
  callE_of_wp (hi := (rs 6 (.condS (.op ⟨.raw, 0, true, 0⟩ .nil) (rs 3 (.loop ⟨1, [], [(17, (.int .i64))]⟩ (.op ⟨.raw, 0, true, 0⟩ (.condS (rs 2 (.op ⟨(.agg [.str, .slc]), 1, true, 0⟩ (rs 6 (.op ⟨(.agg [.str, .slc]), 1, true, 0⟩ (rs 5 (.op ⟨.bool, 0, true, 0⟩ (.op ⟨.raw, 0, true, 0⟩ (.condS (.op ⟨.raw, 0, true, 0⟩ .nil) (rs 2 .nil))))))))) (.op ⟨.raw, 0, true, 0⟩ .nil)))))))) (args := [(.slc s11), (.slc s21), (.av (.fn eq1 eq1c))]) hF (by simp [oks, SV.ok]) (Eq.mp (α := D87 M s11 s21 eq1 eq1c h P) (by kernel_rfl) hd)
def D88 (M : Model) (a1 : List UInt8) (a2 : Slc) (b1 : List UInt8) (b2 : Slc) (h : Heap) (P : AV → Heap → Prop) : Prop :=
((a1 == b1) = true →
CallE M 89 [a2.av, b2.av] (h ++ (AObj.arr [(.str a1), a2.av] 2 false :: [AObj.arr [(.str b1), b2.av] 2 false])) fun rv1 t1 =>
∃ (b3 : Bool), rv1 = (.bool b3) ∧
P (.bool b3) (AObj.arr [(.str a1), a2.av] 2 false :: (AObj.arr [(.str b1), b2.av] 2 false :: t1))) ∧
((a1 == b1) = false → P (.bool false) (AObj.arr [(.str a1), a2.av] 2 false :: [AObj.arr [(.str b1), b2.av] 2 false]))
theorem d88 {M : Model} {a1 : List UInt8} {a2 : Slc} {b1 : List UInt8} {b2 : Slc} {h : Heap} {P : AV → Heap → Prop} (hF : M.fn 88 = some F88) (hd : D88 M a1 a2 b1 b2 h P) : CallE M 88 [(.agg [(.str a1), a2.av]), (.agg [(.str b1), b2.av])] h P :=
  callE_of_wp (hi := (rs 9 (.split ⟨.raw, 0, true, 0⟩ (rs 3 (.op ⟨.bool, 0, true, 0⟩ (rs 2 .nil))) (rs 6 .nil)))) (args := [(.agg [(.av (.str a1)), (.slc a2)]), (.agg [(.av (.str b1)), (.slc b2)])]) hF (by simp [oks, SV.ok]) (Eq.mp (α := D88 M a1 a2 b1 b2 h P) (by kernel_rfl) hd)
def D89 (M : Model) (s11 : Slc) (s21 : Slc) (h : Heap) (P : AV → Heap → Prop) : Prop :=
((((s11.len : Nat) : Int) != ((s21.len : Nat) : Int)) = true → P (.bool false) ([] : Heap)) ∧
((((s11.len : Nat) : Int) != ((s21.len : Nat) : Int)) = false → ∃ (I1 : Nat → Int → Heap → Prop), (∃ n1, I1 n1 (0 : Int) ([] : Heap)) ∧
∀ (n2 : Nat) (x1 : Int) (t1 : Heap), I1 n2 x1 t1 → ((decide (x1 < ((s11.len : Nat) : Int))) = true → (0 ≤ x1 ∧
x1 < (s11.len : Int)) ∧
∃ (x2 : Int) (x3 : Bool) (x4 : Int) (x5 : Int) (x6 : Int) (x7 : Int) (x8 : Int) (x9 : Int) (x10 : Int) (x11 : Int) (x12 : Int), rdVar h (some 11) s11.b (s11.o + (x1 : Int).toNat * 11) = some (.agg [(.int .i64 x2), (.bool x3), (.int .i64 x4), (.int .i64 x5), (.int .i64 x6), (.int .i64 x7), (.int .i64 x8), (.int .i64 x9), (.int .i64 x10), (.int .i64 x11), (.int .i64 x12)]) ∧
(0 ≤ x1 ∧
x1 < (s21.len : Int)) ∧
∃ (x13 : Int) (x14 : Bool) (x15 : Int) (x16 : Int) (x17 : Int) (x18 : Int) (x19 : Int) (x20 : Int) (x21 : Int) (x22 : Int) (x23 : Int), rdVar h (some 11) s21.b (s21.o + (x1 : Int).toNat * 11) = some (.agg [(.int .i64 x13), (.bool x14), (.int .i64 x15), (.int .i64 x16), (.int .i64 x17), (.int .i64 x18), (.int .i64 x19), (.int .i64 x20), (.int .i64 x21), (.int .i64 x22), (.int .i64 x23)]) ∧
((((x2 == x13) && ((x3 == x14) && ((x4 == x15) && ((x5 == x16) && ((x6 == x17) && ((x7 == x18) && ((x8 == x19) && ((x9 == x20) && ((x10 == x21) && ((x11 == x22) && ((x12 == x23) && true))))))))))) != true) = true → P (.bool false) t1) ∧
((((x2 == x13) && ((x3 == x14) && ((x4 == x15) && ((x5 == x16) && ((x6 == x17) && ((x7 == x18) && ((x8 == x19) && ((x9 == x20) && ((x10 == x21) && ((x11 == x22) && ((x12 == x23) && true))))))))))) != true) = false → ∃ n3, n3 < n2 ∧
I1 n3 (IntKind.wrap .i64 (x1 + 1)) t1)) ∧
((decide (x1 < ((s11.len : Nat) : Int))) = false → P (.bool true) t1))
theorem d89 {M : Model} {s11 : Slc} {s21 : Slc} {h : Heap} {P : AV → Heap → Prop} (hF : M.fn 89 = some F89) (hd : D89 M s11 s21 h P) : CallE M 89 [s11.av, s21.av] h P :=
  callE_of_wp (hi := (rs 6 (.condS (.op ⟨.raw, 0, true, 0⟩ .nil) (rs 3 (.loop ⟨1, [], [(13, (.int .i64))]⟩ (.op ⟨.raw, 0, true, 0⟩ (.condS (rs 5 (.op ⟨(.agg [(.int .i64), .bool, (.int .i64), (.int .i64), (.int .i64), (.int .i64), (.int .i64), (.int .i64), (.int .i64), (.int .i64), (.int .i64)]), 1, true, 0⟩ (rs 3 (.op ⟨(.agg [(.int .i64), .bool, (.int .i64), (.int .i64), (.int .i64), (.int .i64), (.int .i64), (.int .i64), (.int .i64), (.int .i64), (.int .i64)]), 1, true, 0⟩ (.op ⟨.raw, 0, true, 0⟩ (.condS (.op ⟨.raw, 0, true, 0⟩ .nil) (rs 2 .nil))))))) (.op ⟨.raw, 0, true, 0⟩ .nil)))))))) (args := [(.slc s11), (.slc s21)]) hF (by simp [oks, SV.ok]) (Eq.mp (α := D89 M s11 s21 h P) (by kernel_rfl) hd)
end Go.Proofs.YtifkphfhadimaaaGreatDoor.Mini

