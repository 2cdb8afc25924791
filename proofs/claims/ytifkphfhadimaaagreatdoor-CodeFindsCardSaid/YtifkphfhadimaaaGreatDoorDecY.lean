import Derived.Test.YtifkphfhadimaaaGreatDoorMiniX
import Derived.Test.YtifkphfhadimaaaGreatDoorAbsG4
import Derived.Test.YtifkphfhadimaaaGreatDoorAbsG7
set_option linter.unusedVariables false
set_option linter.unusedSimpArgs false
set_option maxRecDepth 100000
namespace Go.Proofs.YtifkphfhadimaaaGreatDoor.Mini
open Go.Abs Mini
def D61 (M : Model) (i1 : Int) (i2 : Bool) (i3 : Int) (i4 : Int) (i5 : Int) (i6 : Int) (i7 : Int) (i8 : Int) (i9 : Int) (i10 : Int) (i11 : Int) (length1 : Int) (h : Heap) (P : AV → Heap → Prop) : Prop :=
CallE M 81 [] (h ++ [AObj.arr [(.int .i64 i1), (.bool i2), (.int .i64 i3), (.int .i64 i4), (.int .i64 i5), (.int .i64 i6), (.int .i64 i7), (.int .i64 i8), (.int .i64 i9), (.int .i64 i10), (.int .i64 i11)] 11 false]) fun rv1 t1 =>
∃ (l1 : Slc), rv1 = l1.av ∧
((decide (i1 < 0)) = false → ((decide (i1 ≥ ((l1.len : Nat) : Int))) = true → P (.bool false) (AObj.arr [(.int .i64 i1), (.bool i2), (.int .i64 i3), (.int .i64 i4), (.int .i64 i5), (.int .i64 i6), (.int .i64 i7), (.int .i64 i8), (.int .i64 i9), (.int .i64 i10), (.int .i64 i11)] 11 false :: (t1 ++ [AObj.arr [l1.av] 1 false]))) ∧
((decide (i1 ≥ ((l1.len : Nat) : Int))) = false →
CallE M 116 [(.int .i32 115), (.agg [(.int .i64 i4), (.int .i64 i5)]), (.ptr (h.length + (1 + (t1.length + 1))) 0), (.ptr (h.length + (1 + (t1.length + (1 + 1)))) 0)] (h ++ (AObj.arr [(.int .i64 i1), (.bool i2), (.int .i64 i3), (.int .i64 i4), (.int .i64 i5), (.int .i64 i6), (.int .i64 i7), (.int .i64 i8), (.int .i64 i9), (.int .i64 i10), (.int .i64 i11)] 11 false :: (t1 ++ (AObj.arr [l1.av] 1 false :: (AObj.arr [(.fn 114 [(.ptr (h.length + (1 + t1.length)) 0), (.ptr h.length 0)])] 1 false :: [AObj.arr [(.int .i64 0), (.int .i64 0)] 2 false]))))) fun rv2 t2 =>
∃ (b1 : Bool), rv2 = (.bool b1) ∧
(b1 = true →
CallE M 116 [(.int .i32 118), (.agg [(.int .i64 i6), (.int .i64 i7)]), (.ptr (h.length + (1 + (t1.length + 1))) 0), (.ptr (h.length + (1 + (t1.length + (1 + 1)))) 0)] (h ++ (AObj.arr [(.int .i64 i1), (.bool i2), (.int .i64 i3), (.int .i64 i4), (.int .i64 i5), (.int .i64 i6), (.int .i64 i7), (.int .i64 i8), (.int .i64 i9), (.int .i64 i10), (.int .i64 i11)] 11 false :: (t1 ++ (AObj.arr [l1.av] 1 false :: (AObj.arr [(.fn 114 [(.ptr (h.length + (1 + t1.length)) 0), (.ptr h.length 0)])] 1 false :: (AObj.arr [(.int .i64 0), (.int .i64 0)] 2 false :: t2)))))) fun rv3 t3 =>
∃ (b2 : Bool), rv3 = (.bool b2) ∧
(b2 = true →
CallE M 116 [(.int .i32 119), (.agg [(.int .i64 i8), (.int .i64 i9)]), (.ptr (h.length + (1 + (t1.length + 1))) 0), (.ptr (h.length + (1 + (t1.length + (1 + 1)))) 0)] (h ++ (AObj.arr [(.int .i64 i1), (.bool i2), (.int .i64 i3), (.int .i64 i4), (.int .i64 i5), (.int .i64 i6), (.int .i64 i7), (.int .i64 i8), (.int .i64 i9), (.int .i64 i10), (.int .i64 i11)] 11 false :: (t1 ++ (AObj.arr [l1.av] 1 false :: (AObj.arr [(.fn 114 [(.ptr (h.length + (1 + t1.length)) 0), (.ptr h.length 0)])] 1 false :: (AObj.arr [(.int .i64 0), (.int .i64 0)] 2 false :: (t2 ++ t3))))))) fun rv4 t4 =>
∃ (b3 : Bool), rv4 = (.bool b3) ∧
∃ (J1 : Bool → Heap → Prop), (CallE M 114 [(.int .i32 114), (.ptr (h.length + (1 + t1.length)) 0), (.ptr h.length 0)] (h ++ (AObj.arr [(.int .i64 i1), (.bool i2), (.int .i64 i3), (.int .i64 i4), (.int .i64 i5), (.int .i64 i6), (.int .i64 i7), (.int .i64 i8), (.int .i64 i9), (.int .i64 i10), (.int .i64 i11)] 11 false :: (t1 ++ (AObj.arr [l1.av] 1 false :: (AObj.arr [(.fn 114 [(.ptr (h.length + (1 + t1.length)) 0), (.ptr h.length 0)])] 1 false :: (AObj.arr [(.int .i64 0), (.int .i64 0)] 2 false :: (t2 ++ (t3 ++ t4)))))))) fun rv5 t5 =>
∃ (b4 : Bool), rv5 = (.bool b4) ∧
(b4 = true → (b3 = true → ((decide (i3 ≥ 0)) = true → J1 (decide (i3 < 14)) t5) ∧
((decide (i3 ≥ 0)) = false → J1 false t5)) ∧
(b3 = false → J1 false t5)) ∧
(b4 = false → (b3 = true → J1 (i3 == 0) t5) ∧
(b3 = false → J1 false t5))) ∧
(∀ (fine1 : Bool) (t6 : Heap), J1 fine1 t6 → ∃ (J2 : Bool → Heap → Prop), (CallE M 114 [(.int .i32 111), (.ptr (h.length + (1 + t1.length)) 0), (.ptr h.length 0)] (h ++ (AObj.arr [(.int .i64 i1), (.bool i2), (.int .i64 i3), (.int .i64 i4), (.int .i64 i5), (.int .i64 i6), (.int .i64 i7), (.int .i64 i8), (.int .i64 i9), (.int .i64 i10), (.int .i64 i11)] 11 false :: (t1 ++ (AObj.arr [l1.av] 1 false :: (AObj.arr [(.fn 114 [(.ptr (h.length + (1 + t1.length)) 0), (.ptr h.length 0)])] 1 false :: (AObj.arr [(.int .i64 0), (.int .i64 0)] 2 false :: (t2 ++ (t3 ++ (t4 ++ t6))))))))) fun rv6 t7 =>
∃ (b5 : Bool), rv6 = (.bool b5) ∧
(b5 = true → (fine1 = true → ((decide (i10 ≥ 0)) = true → J2 (decide (i10 ≤ 15)) t7) ∧
((decide (i10 ≥ 0)) = false → J2 false t7)) ∧
(fine1 = false → J2 false t7)) ∧
(b5 = false → (fine1 = true → J2 (i10 == 0) t7) ∧
(fine1 = false → J2 false t7))) ∧
(∀ (fine2 : Bool) (t8 : Heap), J2 fine2 t8 →
CallE M 114 [(.int .i32 76), (.ptr (h.length + (1 + t1.length)) 0), (.ptr h.length 0)] (h ++ (AObj.arr [(.int .i64 i1), (.bool i2), (.int .i64 i3), (.int .i64 i4), (.int .i64 i5), (.int .i64 i6), (.int .i64 i7), (.int .i64 i8), (.int .i64 i9), (.int .i64 i10), (.int .i64 i11)] 11 false :: (t1 ++ (AObj.arr [l1.av] 1 false :: (AObj.arr [(.fn 114 [(.ptr (h.length + (1 + t1.length)) 0), (.ptr h.length 0)])] 1 false :: (AObj.arr [(.int .i64 0), (.int .i64 0)] 2 false :: (t2 ++ (t3 ++ (t4 ++ (t6 ++ t8)))))))))) fun rv7 t9 =>
∃ (b6 : Bool), rv7 = (.bool b6) ∧
(b6 = true → (fine2 = true → ((decide (i11 ≥ 0)) = true → P (.bool (decide (i11 < length1))) (AObj.arr [(.int .i64 i1), (.bool i2), (.int .i64 i3), (.int .i64 i4), (.int .i64 i5), (.int .i64 i6), (.int .i64 i7), (.int .i64 i8), (.int .i64 i9), (.int .i64 i10), (.int .i64 i11)] 11 false :: (t1 ++ (AObj.arr [l1.av] 1 false :: (AObj.arr [(.fn 114 [(.ptr (h.length + (1 + t1.length)) 0), (.ptr h.length 0)])] 1 false :: (AObj.arr [(.int .i64 0), (.int .i64 0)] 2 false :: (t2 ++ (t3 ++ (t4 ++ (t6 ++ (t8 ++ t9))))))))))) ∧
((decide (i11 ≥ 0)) = false → P (.bool false) (AObj.arr [(.int .i64 i1), (.bool i2), (.int .i64 i3), (.int .i64 i4), (.int .i64 i5), (.int .i64 i6), (.int .i64 i7), (.int .i64 i8), (.int .i64 i9), (.int .i64 i10), (.int .i64 i11)] 11 false :: (t1 ++ (AObj.arr [l1.av] 1 false :: (AObj.arr [(.fn 114 [(.ptr (h.length + (1 + t1.length)) 0), (.ptr h.length 0)])] 1 false :: (AObj.arr [(.int .i64 0), (.int .i64 0)] 2 false :: (t2 ++ (t3 ++ (t4 ++ (t6 ++ (t8 ++ t9)))))))))))) ∧
(fine2 = false → P (.bool false) (AObj.arr [(.int .i64 i1), (.bool i2), (.int .i64 i3), (.int .i64 i4), (.int .i64 i5), (.int .i64 i6), (.int .i64 i7), (.int .i64 i8), (.int .i64 i9), (.int .i64 i10), (.int .i64 i11)] 11 false :: (t1 ++ (AObj.arr [l1.av] 1 false :: (AObj.arr [(.fn 114 [(.ptr (h.length + (1 + t1.length)) 0), (.ptr h.length 0)])] 1 false :: (AObj.arr [(.int .i64 0), (.int .i64 0)] 2 false :: (t2 ++ (t3 ++ (t4 ++ (t6 ++ (t8 ++ t9)))))))))))) ∧
(b6 = false → (fine2 = true → P (.bool (i11 == 0)) (AObj.arr [(.int .i64 i1), (.bool i2), (.int .i64 i3), (.int .i64 i4), (.int .i64 i5), (.int .i64 i6), (.int .i64 i7), (.int .i64 i8), (.int .i64 i9), (.int .i64 i10), (.int .i64 i11)] 11 false :: (t1 ++ (AObj.arr [l1.av] 1 false :: (AObj.arr [(.fn 114 [(.ptr (h.length + (1 + t1.length)) 0), (.ptr h.length 0)])] 1 false :: (AObj.arr [(.int .i64 0), (.int .i64 0)] 2 false :: (t2 ++ (t3 ++ (t4 ++ (t6 ++ (t8 ++ t9))))))))))) ∧
(fine2 = false → P (.bool false) (AObj.arr [(.int .i64 i1), (.bool i2), (.int .i64 i3), (.int .i64 i4), (.int .i64 i5), (.int .i64 i6), (.int .i64 i7), (.int .i64 i8), (.int .i64 i9), (.int .i64 i10), (.int .i64 i11)] 11 false :: (t1 ++ (AObj.arr [l1.av] 1 false :: (AObj.arr [(.fn 114 [(.ptr (h.length + (1 + t1.length)) 0), (.ptr h.length 0)])] 1 false :: (AObj.arr [(.int .i64 0), (.int .i64 0)] 2 false :: (t2 ++ (t3 ++ (t4 ++ (t6 ++ (t8 ++ t9))))))))))))))) ∧
(b2 = false → ∃ (J3 : Bool → Heap → Prop), (CallE M 114 [(.int .i32 114), (.ptr (h.length + (1 + t1.length)) 0), (.ptr h.length 0)] (h ++ (AObj.arr [(.int .i64 i1), (.bool i2), (.int .i64 i3), (.int .i64 i4), (.int .i64 i5), (.int .i64 i6), (.int .i64 i7), (.int .i64 i8), (.int .i64 i9), (.int .i64 i10), (.int .i64 i11)] 11 false :: (t1 ++ (AObj.arr [l1.av] 1 false :: (AObj.arr [(.fn 114 [(.ptr (h.length + (1 + t1.length)) 0), (.ptr h.length 0)])] 1 false :: (AObj.arr [(.int .i64 0), (.int .i64 0)] 2 false :: (t2 ++ t3))))))) fun rv8 t10 =>
∃ (b7 : Bool), rv8 = (.bool b7) ∧
(b7 = true → J3 false t10) ∧
(b7 = false → J3 false t10)) ∧
(∀ (fine3 : Bool) (t11 : Heap), J3 fine3 t11 → ∃ (J4 : Bool → Heap → Prop), (CallE M 114 [(.int .i32 111), (.ptr (h.length + (1 + t1.length)) 0), (.ptr h.length 0)] (h ++ (AObj.arr [(.int .i64 i1), (.bool i2), (.int .i64 i3), (.int .i64 i4), (.int .i64 i5), (.int .i64 i6), (.int .i64 i7), (.int .i64 i8), (.int .i64 i9), (.int .i64 i10), (.int .i64 i11)] 11 false :: (t1 ++ (AObj.arr [l1.av] 1 false :: (AObj.arr [(.fn 114 [(.ptr (h.length + (1 + t1.length)) 0), (.ptr h.length 0)])] 1 false :: (AObj.arr [(.int .i64 0), (.int .i64 0)] 2 false :: (t2 ++ (t3 ++ t11)))))))) fun rv9 t12 =>
∃ (b8 : Bool), rv9 = (.bool b8) ∧
(b8 = true → (fine3 = true → ((decide (i10 ≥ 0)) = true → J4 (decide (i10 ≤ 15)) t12) ∧
((decide (i10 ≥ 0)) = false → J4 false t12)) ∧
(fine3 = false → J4 false t12)) ∧
(b8 = false → (fine3 = true → J4 (i10 == 0) t12) ∧
(fine3 = false → J4 false t12))) ∧
(∀ (fine4 : Bool) (t13 : Heap), J4 fine4 t13 →
CallE M 114 [(.int .i32 76), (.ptr (h.length + (1 + t1.length)) 0), (.ptr h.length 0)] (h ++ (AObj.arr [(.int .i64 i1), (.bool i2), (.int .i64 i3), (.int .i64 i4), (.int .i64 i5), (.int .i64 i6), (.int .i64 i7), (.int .i64 i8), (.int .i64 i9), (.int .i64 i10), (.int .i64 i11)] 11 false :: (t1 ++ (AObj.arr [l1.av] 1 false :: (AObj.arr [(.fn 114 [(.ptr (h.length + (1 + t1.length)) 0), (.ptr h.length 0)])] 1 false :: (AObj.arr [(.int .i64 0), (.int .i64 0)] 2 false :: (t2 ++ (t3 ++ (t11 ++ t13))))))))) fun rv10 t14 =>
∃ (b9 : Bool), rv10 = (.bool b9) ∧
(b9 = true → (fine4 = true → ((decide (i11 ≥ 0)) = true → P (.bool (decide (i11 < length1))) (AObj.arr [(.int .i64 i1), (.bool i2), (.int .i64 i3), (.int .i64 i4), (.int .i64 i5), (.int .i64 i6), (.int .i64 i7), (.int .i64 i8), (.int .i64 i9), (.int .i64 i10), (.int .i64 i11)] 11 false :: (t1 ++ (AObj.arr [l1.av] 1 false :: (AObj.arr [(.fn 114 [(.ptr (h.length + (1 + t1.length)) 0), (.ptr h.length 0)])] 1 false :: (AObj.arr [(.int .i64 0), (.int .i64 0)] 2 false :: (t2 ++ (t3 ++ (t11 ++ (t13 ++ t14)))))))))) ∧
((decide (i11 ≥ 0)) = false → P (.bool false) (AObj.arr [(.int .i64 i1), (.bool i2), (.int .i64 i3), (.int .i64 i4), (.int .i64 i5), (.int .i64 i6), (.int .i64 i7), (.int .i64 i8), (.int .i64 i9), (.int .i64 i10), (.int .i64 i11)] 11 false :: (t1 ++ (AObj.arr [l1.av] 1 false :: (AObj.arr [(.fn 114 [(.ptr (h.length + (1 + t1.length)) 0), (.ptr h.length 0)])] 1 false :: (AObj.arr [(.int .i64 0), (.int .i64 0)] 2 false :: (t2 ++ (t3 ++ (t11 ++ (t13 ++ t14))))))))))) ∧
(fine4 = false → P (.bool false) (AObj.arr [(.int .i64 i1), (.bool i2), (.int .i64 i3), (.int .i64 i4), (.int .i64 i5), (.int .i64 i6), (.int .i64 i7), (.int .i64 i8), (.int .i64 i9), (.int .i64 i10), (.int .i64 i11)] 11 false :: (t1 ++ (AObj.arr [l1.av] 1 false :: (AObj.arr [(.fn 114 [(.ptr (h.length + (1 + t1.length)) 0), (.ptr h.length 0)])] 1 false :: (AObj.arr [(.int .i64 0), (.int .i64 0)] 2 false :: (t2 ++ (t3 ++ (t11 ++ (t13 ++ t14))))))))))) ∧
(b9 = false → (fine4 = true → P (.bool (i11 == 0)) (AObj.arr [(.int .i64 i1), (.bool i2), (.int .i64 i3), (.int .i64 i4), (.int .i64 i5), (.int .i64 i6), (.int .i64 i7), (.int .i64 i8), (.int .i64 i9), (.int .i64 i10), (.int .i64 i11)] 11 false :: (t1 ++ (AObj.arr [l1.av] 1 false :: (AObj.arr [(.fn 114 [(.ptr (h.length + (1 + t1.length)) 0), (.ptr h.length 0)])] 1 false :: (AObj.arr [(.int .i64 0), (.int .i64 0)] 2 false :: (t2 ++ (t3 ++ (t11 ++ (t13 ++ t14)))))))))) ∧
(fine4 = false → P (.bool false) (AObj.arr [(.int .i64 i1), (.bool i2), (.int .i64 i3), (.int .i64 i4), (.int .i64 i5), (.int .i64 i6), (.int .i64 i7), (.int .i64 i8), (.int .i64 i9), (.int .i64 i10), (.int .i64 i11)] 11 false :: (t1 ++ (AObj.arr [l1.av] 1 false :: (AObj.arr [(.fn 114 [(.ptr (h.length + (1 + t1.length)) 0), (.ptr h.length 0)])] 1 false :: (AObj.arr [(.int .i64 0), (.int .i64 0)] 2 false :: (t2 ++ (t3 ++ (t11 ++ (t13 ++ t14))))))))))))))) ∧
(b1 = false → ∃ (J5 : Bool → Heap → Prop), (CallE M 114 [(.int .i32 114), (.ptr (h.length + (1 + t1.length)) 0), (.ptr h.length 0)] (h ++ (AObj.arr [(.int .i64 i1), (.bool i2), (.int .i64 i3), (.int .i64 i4), (.int .i64 i5), (.int .i64 i6), (.int .i64 i7), (.int .i64 i8), (.int .i64 i9), (.int .i64 i10), (.int .i64 i11)] 11 false :: (t1 ++ (AObj.arr [l1.av] 1 false :: (AObj.arr [(.fn 114 [(.ptr (h.length + (1 + t1.length)) 0), (.ptr h.length 0)])] 1 false :: (AObj.arr [(.int .i64 0), (.int .i64 0)] 2 false :: t2)))))) fun rv11 t15 =>
∃ (b10 : Bool), rv11 = (.bool b10) ∧
(b10 = true → J5 false t15) ∧
(b10 = false → J5 false t15)) ∧
(∀ (fine5 : Bool) (t16 : Heap), J5 fine5 t16 → ∃ (J6 : Bool → Heap → Prop), (CallE M 114 [(.int .i32 111), (.ptr (h.length + (1 + t1.length)) 0), (.ptr h.length 0)] (h ++ (AObj.arr [(.int .i64 i1), (.bool i2), (.int .i64 i3), (.int .i64 i4), (.int .i64 i5), (.int .i64 i6), (.int .i64 i7), (.int .i64 i8), (.int .i64 i9), (.int .i64 i10), (.int .i64 i11)] 11 false :: (t1 ++ (AObj.arr [l1.av] 1 false :: (AObj.arr [(.fn 114 [(.ptr (h.length + (1 + t1.length)) 0), (.ptr h.length 0)])] 1 false :: (AObj.arr [(.int .i64 0), (.int .i64 0)] 2 false :: (t2 ++ t16))))))) fun rv12 t17 =>
∃ (b11 : Bool), rv12 = (.bool b11) ∧
(b11 = true → (fine5 = true → ((decide (i10 ≥ 0)) = true → J6 (decide (i10 ≤ 15)) t17) ∧
((decide (i10 ≥ 0)) = false → J6 false t17)) ∧
(fine5 = false → J6 false t17)) ∧
(b11 = false → (fine5 = true → J6 (i10 == 0) t17) ∧
(fine5 = false → J6 false t17))) ∧
(∀ (fine6 : Bool) (t18 : Heap), J6 fine6 t18 →
CallE M 114 [(.int .i32 76), (.ptr (h.length + (1 + t1.length)) 0), (.ptr h.length 0)] (h ++ (AObj.arr [(.int .i64 i1), (.bool i2), (.int .i64 i3), (.int .i64 i4), (.int .i64 i5), (.int .i64 i6), (.int .i64 i7), (.int .i64 i8), (.int .i64 i9), (.int .i64 i10), (.int .i64 i11)] 11 false :: (t1 ++ (AObj.arr [l1.av] 1 false :: (AObj.arr [(.fn 114 [(.ptr (h.length + (1 + t1.length)) 0), (.ptr h.length 0)])] 1 false :: (AObj.arr [(.int .i64 0), (.int .i64 0)] 2 false :: (t2 ++ (t16 ++ t18)))))))) fun rv13 t19 =>
∃ (b12 : Bool), rv13 = (.bool b12) ∧
(b12 = true → (fine6 = true → ((decide (i11 ≥ 0)) = true → P (.bool (decide (i11 < length1))) (AObj.arr [(.int .i64 i1), (.bool i2), (.int .i64 i3), (.int .i64 i4), (.int .i64 i5), (.int .i64 i6), (.int .i64 i7), (.int .i64 i8), (.int .i64 i9), (.int .i64 i10), (.int .i64 i11)] 11 false :: (t1 ++ (AObj.arr [l1.av] 1 false :: (AObj.arr [(.fn 114 [(.ptr (h.length + (1 + t1.length)) 0), (.ptr h.length 0)])] 1 false :: (AObj.arr [(.int .i64 0), (.int .i64 0)] 2 false :: (t2 ++ (t16 ++ (t18 ++ t19))))))))) ∧
((decide (i11 ≥ 0)) = false → P (.bool false) (AObj.arr [(.int .i64 i1), (.bool i2), (.int .i64 i3), (.int .i64 i4), (.int .i64 i5), (.int .i64 i6), (.int .i64 i7), (.int .i64 i8), (.int .i64 i9), (.int .i64 i10), (.int .i64 i11)] 11 false :: (t1 ++ (AObj.arr [l1.av] 1 false :: (AObj.arr [(.fn 114 [(.ptr (h.length + (1 + t1.length)) 0), (.ptr h.length 0)])] 1 false :: (AObj.arr [(.int .i64 0), (.int .i64 0)] 2 false :: (t2 ++ (t16 ++ (t18 ++ t19)))))))))) ∧
(fine6 = false → P (.bool false) (AObj.arr [(.int .i64 i1), (.bool i2), (.int .i64 i3), (.int .i64 i4), (.int .i64 i5), (.int .i64 i6), (.int .i64 i7), (.int .i64 i8), (.int .i64 i9), (.int .i64 i10), (.int .i64 i11)] 11 false :: (t1 ++ (AObj.arr [l1.av] 1 false :: (AObj.arr [(.fn 114 [(.ptr (h.length + (1 + t1.length)) 0), (.ptr h.length 0)])] 1 false :: (AObj.arr [(.int .i64 0), (.int .i64 0)] 2 false :: (t2 ++ (t16 ++ (t18 ++ t19)))))))))) ∧
(b12 = false → (fine6 = true → P (.bool (i11 == 0)) (AObj.arr [(.int .i64 i1), (.bool i2), (.int .i64 i3), (.int .i64 i4), (.int .i64 i5), (.int .i64 i6), (.int .i64 i7), (.int .i64 i8), (.int .i64 i9), (.int .i64 i10), (.int .i64 i11)] 11 false :: (t1 ++ (AObj.arr [l1.av] 1 false :: (AObj.arr [(.fn 114 [(.ptr (h.length + (1 + t1.length)) 0), (.ptr h.length 0)])] 1 false :: (AObj.arr [(.int .i64 0), (.int .i64 0)] 2 false :: (t2 ++ (t16 ++ (t18 ++ t19))))))))) ∧
(fine6 = false → P (.bool false) (AObj.arr [(.int .i64 i1), (.bool i2), (.int .i64 i3), (.int .i64 i4), (.int .i64 i5), (.int .i64 i6), (.int .i64 i7), (.int .i64 i8), (.int .i64 i9), (.int .i64 i10), (.int .i64 i11)] 11 false :: (t1 ++ (AObj.arr [l1.av] 1 false :: (AObj.arr [(.fn 114 [(.ptr (h.length + (1 + t1.length)) 0), (.ptr h.length 0)])] 1 false :: (AObj.arr [(.int .i64 0), (.int .i64 0)] 2 false :: (t2 ++ (t16 ++ (t18 ++ t19))))))))))))))) ∧
((decide (i1 < 0)) = true → P (.bool false) (AObj.arr [(.int .i64 i1), (.bool i2), (.int .i64 i3), (.int .i64 i4), (.int .i64 i5), (.int .i64 i6), (.int .i64 i7), (.int .i64 i8), (.int .i64 i9), (.int .i64 i10), (.int .i64 i11)] 11 false :: (t1 ++ [AObj.arr [l1.av] 1 false])))
theorem d61 {M : Model} {i1 : Int} {i2 : Bool} {i3 : Int} {i4 : Int} {i5 : Int} {i6 : Int} {i7 : Int} {i8 : Int} {i9 : Int} {i10 : Int} {i11 : Int} {length1 : Int} {h : Heap} {P : AV → Heap → Prop} (hF : M.fn 61 = some F61) (hd : D61 M i1 i2 i3 i4 i5 i6 i7 i8 i9 i10 i11 length1 h P) : CallE M 61 [(.agg [(.int .i64 i1), (.bool i2), (.int .i64 i3), (.int .i64 i4), (.int .i64 i5), (.int .i64 i6), (.int .i64 i7), (.int .i64 i8), (.int .i64 i9), (.int .i64 i10), (.int .i64 i11)]), (.int .i64 length1)] h P :=
  callE_of_wp (hi := (rs 2 (.op ⟨.slc, 0, true, 0⟩ (rs 6 (.split ⟨.raw, 0, true, 0⟩ (rs 5 (.condS (.op ⟨.raw, 0, true, 0⟩ .nil) (rs 11 (.op ⟨.bool, 0, true, 0⟩ (.op ⟨.raw, 0, true, 0⟩ (.split ⟨.raw, 0, true, 0⟩ (rs 2 (.op ⟨.bool, 0, true, 0⟩ (rs 2 (.split ⟨.raw, 0, true, 0⟩ (rs 2 (.op ⟨.bool, 0, true, 0⟩ (rs 2 (.join ⟨9, [], [(9, .bool)]⟩ (.op ⟨.raw, 0, true, 0⟩ (.op ⟨.bool, 0, true, 0⟩ (.condS (rs 2 (.split ⟨.raw, 0, true, 0⟩ (rs 4 (.split ⟨.raw, 0, true, 0⟩ (rs 4 .nil) (rs 4 .nil))) (rs 9 .nil))) (rs 2 (.split ⟨.raw, 0, true, 0⟩ (rs 4 .nil) (rs 4 .nil)))))) (.join ⟨10, [], [(9, .bool)]⟩ (.op ⟨.raw, 0, true, 0⟩ (.op ⟨.bool, 0, true, 0⟩ (.condS (rs 2 (.split ⟨.raw, 0, true, 0⟩ (rs 4 (.split ⟨.raw, 0, true, 0⟩ (rs 4 .nil) (rs 4 .nil))) (rs 9 .nil))) (rs 2 (.split ⟨.raw, 0, true, 0⟩ (rs 4 .nil) (rs 4 .nil)))))) (.op ⟨.raw, 0, true, 0⟩ (.op ⟨.bool, 0, true, 0⟩ (.condS (rs 2 (.split ⟨.raw, 0, true, 0⟩ (rs 4 (.split ⟨.raw, 0, true, 0⟩ (rs 5 .nil) (rs 5 .nil))) (rs 10 .nil))) (rs 2 (.split ⟨.raw, 0, true, 0⟩ (rs 4 .nil) (rs 4 .nil))))))))))) (rs 5 (.join ⟨8, [], [(9, .bool)]⟩ (.op ⟨.raw, 0, true, 0⟩ (.op ⟨.bool, 0, true, 0⟩ (.condS (rs 12 .nil) (rs 7 .nil)))) (.join ⟨9, [], [(9, .bool)]⟩ (.op ⟨.raw, 0, true, 0⟩ (.op ⟨.bool, 0, true, 0⟩ (.condS (rs 2 (.split ⟨.raw, 0, true, 0⟩ (rs 4 (.split ⟨.raw, 0, true, 0⟩ (rs 4 .nil) (rs 4 .nil))) (rs 9 .nil))) (rs 2 (.split ⟨.raw, 0, true, 0⟩ (rs 4 .nil) (rs 4 .nil)))))) (.op ⟨.raw, 0, true, 0⟩ (.op ⟨.bool, 0, true, 0⟩ (.condS (rs 2 (.split ⟨.raw, 0, true, 0⟩ (rs 4 (.split ⟨.raw, 0, true, 0⟩ (rs 5 .nil) (rs 5 .nil))) (rs 10 .nil))) (rs 2 (.split ⟨.raw, 0, true, 0⟩ (rs 4 .nil) (rs 4 .nil))))))))))))) (rs 11 (.join ⟨7, [], [(9, .bool)]⟩ (.op ⟨.raw, 0, true, 0⟩ (.op ⟨.bool, 0, true, 0⟩ (.condS (rs 12 .nil) (rs 7 .nil)))) (.join ⟨8, [], [(9, .bool)]⟩ (.op ⟨.raw, 0, true, 0⟩ (.op ⟨.bool, 0, true, 0⟩ (.condS (rs 2 (.split ⟨.raw, 0, true, 0⟩ (rs 4 (.split ⟨.raw, 0, true, 0⟩ (rs 4 .nil) (rs 4 .nil))) (rs 9 .nil))) (rs 2 (.split ⟨.raw, 0, true, 0⟩ (rs 4 .nil) (rs 4 .nil)))))) (.op ⟨.raw, 0, true, 0⟩ (.op ⟨.bool, 0, true, 0⟩ (.condS (rs 2 (.split ⟨.raw, 0, true, 0⟩ (rs 4 (.split ⟨.raw, 0, true, 0⟩ (rs 5 .nil) (rs 5 .nil))) (rs 10 .nil))) (rs 2 (.split ⟨.raw, 0, true, 0⟩ (rs 4 .nil) (rs 4 .nil))))))))))))))) (rs 5 (.condL (.op ⟨.raw, 0, true, 0⟩ .nil)))))))) (args := [(.agg [(.av (.int .i64 i1)), (.av (.bool i2)), (.av (.int .i64 i3)), (.av (.int .i64 i4)), (.av (.int .i64 i5)), (.av (.int .i64 i6)), (.av (.int .i64 i7)), (.av (.int .i64 i8)), (.av (.int .i64 i9)), (.av (.int .i64 i10)), (.av (.int .i64 i11))]), (.av (.int .i64 length1))]) hF (by simp [oks, SV.ok]) (Eq.mp (α := D61 M i1 i2 i3 i4 i5 i6 i7 i8 i9 i10 i11 length1 h P) (by kernel_rfl) hd)
def D62 (M : Model) (i1 : Int) (i2 : Bool) (i3 : Int) (i4 : Int) (i5 : Int) (i6 : Int) (i7 : Int) (i8 : Int) (i9 : Int) (i10 : Int) (i11 : Int) (length1 : Int) (h : Heap) (P : AV → Heap → Prop) : Prop :=
CallE M 113 [(.int .i64 i1)] (h ++ [AObj.arr [(.int .i64 i1), (.bool i2), (.int .i64 i3), (.int .i64 i4), (.int .i64 i5), (.int .i64 i6), (.int .i64 i7), (.int .i64 i8), (.int .i64 i9), (.int .i64 i10), (.int .i64 i11)] 11 false]) fun rv1 t1 =>
∃ (r1 : List UInt8) (r2 : List UInt8), rv1 = (.tuple [(.str r1), (.str r2)]) ∧
((r1 == []) = true → P (.bool false) (AObj.arr [(.int .i64 i1), (.bool i2), (.int .i64 i3), (.int .i64 i4), (.int .i64 i5), (.int .i64 i6), (.int .i64 i7), (.int .i64 i8), (.int .i64 i9), (.int .i64 i10), (.int .i64 i11)] 11 false :: t1)) ∧
((r1 == []) = false → ∃ (J1 : Heap → Prop), (CallE M 118 [(.int .i64 i1), (.int .u8 114)] (h ++ (AObj.arr [(.int .i64 i1), (.bool i2), (.int .i64 i3), (.int .i64 i4), (.int .i64 i5), (.int .i64 i6), (.int .i64 i7), (.int .i64 i8), (.int .i64 i9), (.int .i64 i10), (.int .i64 i11)] 11 false :: (t1 ++ [AObj.arr [(.int .i64 0), (.int .i64 0)] 2 false]))) fun rv2 t2 =>
∃ (b1 : Bool), rv2 = (.bool b1) ∧
(b1 = true → ((decide (i3 < 0)) = false → ((decide (i3 ≥ 14)) = true → P (.bool false) (AObj.arr [(.int .i64 i1), (.bool i2), (.int .i64 i3), (.int .i64 i4), (.int .i64 i5), (.int .i64 i6), (.int .i64 i7), (.int .i64 i8), (.int .i64 i9), (.int .i64 i10), (.int .i64 i11)] 11 false :: (t1 ++ (AObj.arr [(.int .i64 0), (.int .i64 0)] 2 false :: t2)))) ∧
((decide (i3 ≥ 14)) = false → J1 t2)) ∧
((decide (i3 < 0)) = true → P (.bool false) (AObj.arr [(.int .i64 i1), (.bool i2), (.int .i64 i3), (.int .i64 i4), (.int .i64 i5), (.int .i64 i6), (.int .i64 i7), (.int .i64 i8), (.int .i64 i9), (.int .i64 i10), (.int .i64 i11)] 11 false :: (t1 ++ (AObj.arr [(.int .i64 0), (.int .i64 0)] 2 false :: t2))))) ∧
(b1 = false → ((i3 != 0) = true → P (.bool false) (AObj.arr [(.int .i64 i1), (.bool i2), (.int .i64 i3), (.int .i64 i4), (.int .i64 i5), (.int .i64 i6), (.int .i64 i7), (.int .i64 i8), (.int .i64 i9), (.int .i64 i10), (.int .i64 i11)] 11 false :: (t1 ++ (AObj.arr [(.int .i64 0), (.int .i64 0)] 2 false :: t2)))) ∧
((i3 != 0) = false → J1 t2))) ∧
(∀ (t3 : Heap), J1 t3 → ∃ (I1 : Nat → Int → Heap → Prop), (∃ n1, I1 n1 (0 : Int) ([] : Heap)) ∧
∀ (n2 : Nat) (k1 : Int) (t4 : Heap), I1 n2 k1 t4 → ((decide (k1 < 3)) = true → ∃ (c1 : UInt8), (0 ≤ k1 ∧
([115, 118, 119] : List UInt8)[(k1 : Int).toNat]? = some c1) ∧
CallE M 118 [(.int .i64 i1), (.int .u8 ((UInt8.toNat c1 : Nat) : Int))] (h ++ (AObj.arr [(.int .i64 i1), (.bool i2), (.int .i64 i3), (.int .i64 i4), (.int .i64 i5), (.int .i64 i6), (.int .i64 i7), (.int .i64 i8), (.int .i64 i9), (.int .i64 i10), (.int .i64 i11)] 11 false :: (t1 ++ (AObj.arr [(.int .i64 0), (.int .i64 0)] 2 false :: (t3 ++ (AObj.arr [(.int .i64 i4), (.int .i64 i5), (.int .i64 i6), (.int .i64 i7), (.int .i64 i8), (.int .i64 i9)] 2 false :: t4)))))) fun rv3 t5 =>
∃ (b2 : Bool), rv3 = (.bool b2) ∧
(b2 = true → (0 ≤ k1 ∧
k1 < ((3 : Nat) : Int)) ∧
∃ (x1 : Int) (x2 : Int), partOf (some 2) [(.int .i64 i4), (.int .i64 i5), (.int .i64 i6), (.int .i64 i7), (.int .i64 i8), (.int .i64 i9)] (0 + (k1 : Int).toNat * 2) = some (.agg [(.int .i64 x1), (.int .i64 x2)]) ∧
CallE M 119 [(.agg [(.int .i64 x1), (.int .i64 x2)])] (h ++ (AObj.arr [(.int .i64 i1), (.bool i2), (.int .i64 i3), (.int .i64 i4), (.int .i64 i5), (.int .i64 i6), (.int .i64 i7), (.int .i64 i8), (.int .i64 i9), (.int .i64 i10), (.int .i64 i11)] 11 false :: (t1 ++ (AObj.arr [(.int .i64 0), (.int .i64 0)] 2 false :: (t3 ++ (AObj.arr [(.int .i64 i4), (.int .i64 i5), (.int .i64 i6), (.int .i64 i7), (.int .i64 i8), (.int .i64 i9)] 2 false :: (t4 ++ t5))))))) fun rv4 t6 =>
∃ (b3 : Bool), rv4 = (.bool b3) ∧
((!b3) = true → P (.bool false) (AObj.arr [(.int .i64 i1), (.bool i2), (.int .i64 i3), (.int .i64 i4), (.int .i64 i5), (.int .i64 i6), (.int .i64 i7), (.int .i64 i8), (.int .i64 i9), (.int .i64 i10), (.int .i64 i11)] 11 false :: (t1 ++ (AObj.arr [(.int .i64 0), (.int .i64 0)] 2 false :: (t3 ++ (AObj.arr [(.int .i64 i4), (.int .i64 i5), (.int .i64 i6), (.int .i64 i7), (.int .i64 i8), (.int .i64 i9)] 2 false :: (t4 ++ (t5 ++ t6)))))))) ∧
((!b3) = false → ∃ n3, n3 < n2 ∧
I1 n3 (IntKind.wrap .i64 (k1 + 1)) (t4 ++ (t5 ++ t6)))) ∧
(b2 = false → (0 ≤ k1 ∧
k1 < ((3 : Nat) : Int)) ∧
∃ (x3 : Int) (x4 : Int), partOf (some 2) [(.int .i64 i4), (.int .i64 i5), (.int .i64 i6), (.int .i64 i7), (.int .i64 i8), (.int .i64 i9)] (0 + (k1 : Int).toNat * 2) = some (.agg [(.int .i64 x3), (.int .i64 x4)]) ∧
((((x3 == 0) && ((x4 == 0) && true)) != true) = true → P (.bool false) (AObj.arr [(.int .i64 i1), (.bool i2), (.int .i64 i3), (.int .i64 i4), (.int .i64 i5), (.int .i64 i6), (.int .i64 i7), (.int .i64 i8), (.int .i64 i9), (.int .i64 i10), (.int .i64 i11)] 11 false :: (t1 ++ (AObj.arr [(.int .i64 0), (.int .i64 0)] 2 false :: (t3 ++ (AObj.arr [(.int .i64 i4), (.int .i64 i5), (.int .i64 i6), (.int .i64 i7), (.int .i64 i8), (.int .i64 i9)] 2 false :: (t4 ++ t5))))))) ∧
((((x3 == 0) && ((x4 == 0) && true)) != true) = false → ∃ n3, n3 < n2 ∧
I1 n3 (IntKind.wrap .i64 (k1 + 1)) (t4 ++ t5)))) ∧
((decide (k1 < 3)) = false → ∃ (J2 : Heap → Prop), (CallE M 118 [(.int .i64 i1), (.int .u8 111)] (h ++ (AObj.arr [(.int .i64 i1), (.bool i2), (.int .i64 i3), (.int .i64 i4), (.int .i64 i5), (.int .i64 i6), (.int .i64 i7), (.int .i64 i8), (.int .i64 i9), (.int .i64 i10), (.int .i64 i11)] 11 false :: (t1 ++ (AObj.arr [(.int .i64 0), (.int .i64 0)] 2 false :: (t3 ++ (AObj.arr [(.int .i64 i4), (.int .i64 i5), (.int .i64 i6), (.int .i64 i7), (.int .i64 i8), (.int .i64 i9)] 2 false :: t4)))))) fun rv5 t7 =>
∃ (b4 : Bool), rv5 = (.bool b4) ∧
(b4 = true → ((decide (i10 < 0)) = false → ((decide (i10 > 15)) = true → P (.bool false) (AObj.arr [(.int .i64 i1), (.bool i2), (.int .i64 i3), (.int .i64 i4), (.int .i64 i5), (.int .i64 i6), (.int .i64 i7), (.int .i64 i8), (.int .i64 i9), (.int .i64 i10), (.int .i64 i11)] 11 false :: (t1 ++ (AObj.arr [(.int .i64 0), (.int .i64 0)] 2 false :: (t3 ++ (AObj.arr [(.int .i64 i4), (.int .i64 i5), (.int .i64 i6), (.int .i64 i7), (.int .i64 i8), (.int .i64 i9)] 2 false :: (t4 ++ t7))))))) ∧
((decide (i10 > 15)) = false → J2 t7)) ∧
((decide (i10 < 0)) = true → P (.bool false) (AObj.arr [(.int .i64 i1), (.bool i2), (.int .i64 i3), (.int .i64 i4), (.int .i64 i5), (.int .i64 i6), (.int .i64 i7), (.int .i64 i8), (.int .i64 i9), (.int .i64 i10), (.int .i64 i11)] 11 false :: (t1 ++ (AObj.arr [(.int .i64 0), (.int .i64 0)] 2 false :: (t3 ++ (AObj.arr [(.int .i64 i4), (.int .i64 i5), (.int .i64 i6), (.int .i64 i7), (.int .i64 i8), (.int .i64 i9)] 2 false :: (t4 ++ t7)))))))) ∧
(b4 = false → ((i10 != 0) = true → P (.bool false) (AObj.arr [(.int .i64 i1), (.bool i2), (.int .i64 i3), (.int .i64 i4), (.int .i64 i5), (.int .i64 i6), (.int .i64 i7), (.int .i64 i8), (.int .i64 i9), (.int .i64 i10), (.int .i64 i11)] 11 false :: (t1 ++ (AObj.arr [(.int .i64 0), (.int .i64 0)] 2 false :: (t3 ++ (AObj.arr [(.int .i64 i4), (.int .i64 i5), (.int .i64 i6), (.int .i64 i7), (.int .i64 i8), (.int .i64 i9)] 2 false :: (t4 ++ t7))))))) ∧
((i10 != 0) = false → J2 t7))) ∧
(∀ (t8 : Heap), J2 t8 →
CallE M 118 [(.int .i64 i1), (.int .u8 76)] (h ++ (AObj.arr [(.int .i64 i1), (.bool i2), (.int .i64 i3), (.int .i64 i4), (.int .i64 i5), (.int .i64 i6), (.int .i64 i7), (.int .i64 i8), (.int .i64 i9), (.int .i64 i10), (.int .i64 i11)] 11 false :: (t1 ++ (AObj.arr [(.int .i64 0), (.int .i64 0)] 2 false :: (t3 ++ (AObj.arr [(.int .i64 i4), (.int .i64 i5), (.int .i64 i6), (.int .i64 i7), (.int .i64 i8), (.int .i64 i9)] 2 false :: (t4 ++ t8))))))) fun rv6 t9 =>
∃ (b5 : Bool), rv6 = (.bool b5) ∧
(b5 = true → ((decide (i11 ≥ 0)) = true → P (.bool (decide (i11 < length1))) (AObj.arr [(.int .i64 i1), (.bool i2), (.int .i64 i3), (.int .i64 i4), (.int .i64 i5), (.int .i64 i6), (.int .i64 i7), (.int .i64 i8), (.int .i64 i9), (.int .i64 i10), (.int .i64 i11)] 11 false :: (t1 ++ (AObj.arr [(.int .i64 0), (.int .i64 0)] 2 false :: (t3 ++ (AObj.arr [(.int .i64 i4), (.int .i64 i5), (.int .i64 i6), (.int .i64 i7), (.int .i64 i8), (.int .i64 i9)] 2 false :: (t4 ++ (t8 ++ t9)))))))) ∧
((decide (i11 ≥ 0)) = false → P (.bool false) (AObj.arr [(.int .i64 i1), (.bool i2), (.int .i64 i3), (.int .i64 i4), (.int .i64 i5), (.int .i64 i6), (.int .i64 i7), (.int .i64 i8), (.int .i64 i9), (.int .i64 i10), (.int .i64 i11)] 11 false :: (t1 ++ (AObj.arr [(.int .i64 0), (.int .i64 0)] 2 false :: (t3 ++ (AObj.arr [(.int .i64 i4), (.int .i64 i5), (.int .i64 i6), (.int .i64 i7), (.int .i64 i8), (.int .i64 i9)] 2 false :: (t4 ++ (t8 ++ t9))))))))) ∧
(b5 = false → P (.bool (i11 == 0)) (AObj.arr [(.int .i64 i1), (.bool i2), (.int .i64 i3), (.int .i64 i4), (.int .i64 i5), (.int .i64 i6), (.int .i64 i7), (.int .i64 i8), (.int .i64 i9), (.int .i64 i10), (.int .i64 i11)] 11 false :: (t1 ++ (AObj.arr [(.int .i64 0), (.int .i64 0)] 2 false :: (t3 ++ (AObj.arr [(.int .i64 i4), (.int .i64 i5), (.int .i64 i6), (.int .i64 i7), (.int .i64 i8), (.int .i64 i9)] 2 false :: (t4 ++ (t8 ++ t9))))))))))))
theorem d62 {M : Model} {i1 : Int} {i2 : Bool} {i3 : Int} {i4 : Int} {i5 : Int} {i6 : Int} {i7 : Int} {i8 : Int} {i9 : Int} {i10 : Int} {i11 : Int} {length1 : Int} {h : Heap} {P : AV → Heap → Prop} (hF : M.fn 62 = some F62) (hd : D62 M i1 i2 i3 i4 i5 i6 i7 i8 i9 i10 i11 length1 h P) : CallE M 62 [(.agg [(.int .i64 i1), (.bool i2), (.int .i64 i3), (.int .i64 i4), (.int .i64 i5), (.int .i64 i6), (.int .i64 i7), (.int .i64 i8), (.int .i64 i9), (.int .i64 i10), (.int .i64 i11)]), (.int .i64 length1)] h P :=
  callE_of_wp (hi := (rs 4 (.op ⟨(.tup [.str, .str]), 0, true, 0⟩ (rs 7 (.condS (.op ⟨.raw, 0, true, 0⟩ .nil) (rs 3 (.join ⟨4, [], []⟩ (rs 2 (.op ⟨.bool, 0, true, 0⟩ (.condS (rs 4 (.split ⟨.raw, 0, true, 0⟩ (rs 3 (.condS (.op ⟨.raw, 0, true, 0⟩ .nil) .nil)) (rs 3 (.condL (.op ⟨.raw, 0, true, 0⟩ .nil))))) (rs 3 (.condS (.op ⟨.raw, 0, true, 0⟩ .nil) .nil))))) (rs 9 (.loop ⟨6, [], [(9, (.int .i64))]⟩ (rs 2 (.condS (rs 3 (.op ⟨.raw, 0, true, 1⟩ (.op ⟨.bool, 0, true, 0⟩ (.condS (rs 2 (.op ⟨.raw, 0, true, 1⟩ (.op ⟨(.agg [(.int .i64), (.int .i64)]), 0, true, 0⟩ (.op ⟨.bool, 0, true, 0⟩ (.op ⟨.raw, 0, true, 0⟩ (.condS (.op ⟨.raw, 0, true, 0⟩ .nil) (rs 3 .nil))))))) (rs 2 (.op ⟨.raw, 0, true, 1⟩ (.op ⟨(.agg [(.int .i64), (.int .i64)]), 0, true, 0⟩ (rs 2 (.condS (.op ⟨.raw, 0, true, 0⟩ .nil) (rs 3 .nil)))))))))) (.join ⟨7, [], []⟩ (rs 2 (.op ⟨.bool, 0, true, 0⟩ (.condS (rs 4 (.split ⟨.raw, 0, true, 0⟩ (rs 3 (.condS (.op ⟨.raw, 0, true, 0⟩ .nil) .nil)) (rs 3 (.condL (.op ⟨.raw, 0, true, 0⟩ .nil))))) (rs 3 (.condS (.op ⟨.raw, 0, true, 0⟩ .nil) .nil))))) (rs 2 (.op ⟨.bool, 0, true, 0⟩ (.condS (rs 4 (.split ⟨.raw, 0, true, 0⟩ (rs 5 .nil) (rs 5 .nil))) (rs 4 .nil)))))))))))))))) (args := [(.agg [(.av (.int .i64 i1)), (.av (.bool i2)), (.av (.int .i64 i3)), (.av (.int .i64 i4)), (.av (.int .i64 i5)), (.av (.int .i64 i6)), (.av (.int .i64 i7)), (.av (.int .i64 i8)), (.av (.int .i64 i9)), (.av (.int .i64 i10)), (.av (.int .i64 i11))]), (.av (.int .i64 length1))]) hF (by simp [oks, SV.ok]) (Eq.mp (α := D62 M i1 i2 i3 i4 i5 i6 i7 i8 i9 i10 i11 length1 h P) (by kernel_rfl) hd)
def D106a (M : Model) (i1 : Int) (i2 : Bool) (i3 : Int) (i4 : Int) (i5 : Int) (i6 : Int) (i7 : Int) (i8 : Int) (i9 : Int) (i10 : Int) (i11 : Int) (h : Heap) (P : AV → Heap → Prop) : Prop :=
CallE M 81 [] (h ++ [AObj.arr [(.int .i64 i1), (.bool i2), (.int .i64 i3), (.int .i64 i4), (.int .i64 i5), (.int .i64 i6), (.int .i64 i7), (.int .i64 i8), (.int .i64 i9), (.int .i64 i10), (.int .i64 i11)] 11 false]) fun rv1 t1 =>
∃ (l1 : Slc), rv1 = l1.av ∧
(0 ≤ i1 ∧
i1 < (l1.len : Int)) ∧
∃ (x1 : List UInt8) (x2 : List UInt8), rdVar (h ++ (AObj.arr [(.int .i64 i1), (.bool i2), (.int .i64 i3), (.int .i64 i4), (.int .i64 i5), (.int .i64 i6), (.int .i64 i7), (.int .i64 i8), (.int .i64 i9), (.int .i64 i10), (.int .i64 i11)] 11 false :: t1)) (some 2) l1.b (l1.o + (i1 : Int).toNat * 2) = some (.agg [(.str x1), (.str x2)]) ∧
∃ (J1 : (List UInt8) → Heap → Prop), ((i2 = true → ((x1.length + ([42] : List UInt8).length : Nat) : Int) ≤ 9223372036854775807 ∧
J1 ((x1 ++ [42]) : List UInt8) ([] : Heap)) ∧
(i2 = false → J1 (x1 : List UInt8) ([] : Heap))) ∧
(∀ (s_1 : List UInt8) (t2 : Heap), J1 s_1 t2 → ∃ (I1 : Nat → (List UInt8) → (List UInt8) → Nat → Heap → Prop), (∃ n1, I1 n1 (s_1 : List UInt8) x2 0 ([] : Heap)) ∧
∀ (n2 : Nat) (s_2 : List UInt8) (c1 : List UInt8) (c1p : Nat) (t3 : Heap), I1 n2 s_2 c1 c1p t3 → (c1p < c1.length → (((((Utf8.decode ⟨List.toArray c1⟩ c1p).1 : Nat) : Int) == 114) = true → (0 ≤ i3 ∧
i3 ≤ (IntKind.wrap .i64 (i3 + 1)) ∧
(IntKind.wrap .i64 (i3 + 1)) ≤ ((([97, 98, 99, 100, 101, 102, 103, 104, 105, 106, 107, 108, 120, 121, 116, 110] : List UInt8).length : Nat) : Int)) ∧
((([32] : List UInt8).length + ((([97, 98, 99, 100, 101, 102, 103, 104, 105, 106, 107, 108, 120, 121, 116, 110] : List UInt8).drop (Int.toNat i3)).take (Int.toNat (IntKind.wrap .i64 (i3 + 1)) - Int.toNat i3)).length : Nat) : Int) ≤ 9223372036854775807 ∧
((s_2.length + (([32] : List UInt8) ++ ((([97, 98, 99, 100, 101, 102, 103, 104, 105, 106, 107, 108, 120, 121, 116, 110] : List UInt8).drop (Int.toNat i3)).take (Int.toNat (IntKind.wrap .i64 (i3 + 1)) - Int.toNat i3))).length : Nat) : Int) ≤ 9223372036854775807 ∧
∃ n3, n3 < n2 ∧
I1 n3 ((s_2 ++ (([32] : List UInt8) ++ ((([97, 98, 99, 100, 101, 102, 103, 104, 105, 106, 107, 108, 120, 121, 116, 110] : List UInt8).drop (Int.toNat i3)).take (Int.toNat (IntKind.wrap .i64 (i3 + 1)) - Int.toNat i3)))) : List UInt8) c1 (c1p + (Utf8.decode ⟨List.toArray c1⟩ c1p).2) t3) ∧
(((((Utf8.decode ⟨List.toArray c1⟩ c1p).1 : Nat) : Int) == 114) = false → (((((Utf8.decode ⟨List.toArray c1⟩ c1p).1 : Nat) : Int) == 115) = true →
CallE M 140 [(.agg [(.int .i64 i4), (.int .i64 i5)])] (h ++ (AObj.arr [(.int .i64 i1), (.bool i2), (.int .i64 i3), (.int .i64 i4), (.int .i64 i5), (.int .i64 i6), (.int .i64 i7), (.int .i64 i8), (.int .i64 i9), (.int .i64 i10), (.int .i64 i11)] 11 false :: (t1 ++ (AObj.arr [(.str x1), (.str x2)] 2 false :: (t2 ++ (AObj.iter c1 (c1p + (Utf8.decode ⟨List.toArray c1⟩ c1p).2) :: t3)))))) fun rv2 t4 =>
∃ (w1 : List UInt8), rv2 = (.str w1) ∧
((([32] : List UInt8).length + w1.length : Nat) : Int) ≤ 9223372036854775807 ∧
((s_2.length + (([32] : List UInt8) ++ w1).length : Nat) : Int) ≤ 9223372036854775807 ∧
∃ n3, n3 < n2 ∧
I1 n3 ((s_2 ++ (([32] : List UInt8) ++ w1)) : List UInt8) c1 (c1p + (Utf8.decode ⟨List.toArray c1⟩ c1p).2) (t3 ++ t4)) ∧
(((((Utf8.decode ⟨List.toArray c1⟩ c1p).1 : Nat) : Int) == 115) = false → (((((Utf8.decode ⟨List.toArray c1⟩ c1p).1 : Nat) : Int) == 118) = true →
CallE M 140 [(.agg [(.int .i64 i6), (.int .i64 i7)])] (h ++ (AObj.arr [(.int .i64 i1), (.bool i2), (.int .i64 i3), (.int .i64 i4), (.int .i64 i5), (.int .i64 i6), (.int .i64 i7), (.int .i64 i8), (.int .i64 i9), (.int .i64 i10), (.int .i64 i11)] 11 false :: (t1 ++ (AObj.arr [(.str x1), (.str x2)] 2 false :: (t2 ++ (AObj.iter c1 (c1p + (Utf8.decode ⟨List.toArray c1⟩ c1p).2) :: t3)))))) fun rv3 t5 =>
∃ (w2 : List UInt8), rv3 = (.str w2) ∧
((([32] : List UInt8).length + w2.length : Nat) : Int) ≤ 9223372036854775807 ∧
((s_2.length + (([32] : List UInt8) ++ w2).length : Nat) : Int) ≤ 9223372036854775807 ∧
∃ n3, n3 < n2 ∧
I1 n3 ((s_2 ++ (([32] : List UInt8) ++ w2)) : List UInt8) c1 (c1p + (Utf8.decode ⟨List.toArray c1⟩ c1p).2) (t3 ++ t5)) ∧
(((((Utf8.decode ⟨List.toArray c1⟩ c1p).1 : Nat) : Int) == 118) = false → (((((Utf8.decode ⟨List.toArray c1⟩ c1p).1 : Nat) : Int) == 119) = true →
CallE M 140 [(.agg [(.int .i64 i8), (.int .i64 i9)])] (h ++ (AObj.arr [(.int .i64 i1), (.bool i2), (.int .i64 i3), (.int .i64 i4), (.int .i64 i5), (.int .i64 i6), (.int .i64 i7), (.int .i64 i8), (.int .i64 i9), (.int .i64 i10), (.int .i64 i11)] 11 false :: (t1 ++ (AObj.arr [(.str x1), (.str x2)] 2 false :: (t2 ++ (AObj.iter c1 (c1p + (Utf8.decode ⟨List.toArray c1⟩ c1p).2) :: t3)))))) fun rv4 t6 =>
∃ (w3 : List UInt8), rv4 = (.str w3) ∧
((([32] : List UInt8).length + w3.length : Nat) : Int) ≤ 9223372036854775807 ∧
((s_2.length + (([32] : List UInt8) ++ w3).length : Nat) : Int) ≤ 9223372036854775807 ∧
∃ n3, n3 < n2 ∧
I1 n3 ((s_2 ++ (([32] : List UInt8) ++ w3)) : List UInt8) c1 (c1p + (Utf8.decode ⟨List.toArray c1⟩ c1p).2) (t3 ++ t6)) ∧
(((((Utf8.decode ⟨List.toArray c1⟩ c1p).1 : Nat) : Int) == 119) = false → (((((Utf8.decode ⟨List.toArray c1⟩ c1p).1 : Nat) : Int) == 111) = true →
CallE M 105 [(.int .i64 i10)] (h ++ (AObj.arr [(.int .i64 i1), (.bool i2), (.int .i64 i3), (.int .i64 i4), (.int .i64 i5), (.int .i64 i6), (.int .i64 i7), (.int .i64 i8), (.int .i64 i9), (.int .i64 i10), (.int .i64 i11)] 11 false :: (t1 ++ (AObj.arr [(.str x1), (.str x2)] 2 false :: (t2 ++ (AObj.iter c1 (c1p + (Utf8.decode ⟨List.toArray c1⟩ c1p).2) :: t3)))))) fun rv5 t7 =>
∃ (w4 : List UInt8), rv5 = (.str w4) ∧
((([32] : List UInt8).length + w4.length : Nat) : Int) ≤ 9223372036854775807 ∧
((s_2.length + (([32] : List UInt8) ++ w4).length : Nat) : Int) ≤ 9223372036854775807 ∧
∃ n3, n3 < n2 ∧
I1 n3 ((s_2 ++ (([32] : List UInt8) ++ w4)) : List UInt8) c1 (c1p + (Utf8.decode ⟨List.toArray c1⟩ c1p).2) (t3 ++ t7)) ∧
(((((Utf8.decode ⟨List.toArray c1⟩ c1p).1 : Nat) : Int) == 111) = false →
CallE M 105 [(.int .i64 i11)] (h ++ (AObj.arr [(.int .i64 i1), (.bool i2), (.int .i64 i3), (.int .i64 i4), (.int .i64 i5), (.int .i64 i6), (.int .i64 i7), (.int .i64 i8), (.int .i64 i9), (.int .i64 i10), (.int .i64 i11)] 11 false :: (t1 ++ (AObj.arr [(.str x1), (.str x2)] 2 false :: (t2 ++ (AObj.iter c1 (c1p + (Utf8.decode ⟨List.toArray c1⟩ c1p).2) :: t3)))))) fun rv6 t8 =>
∃ (w5 : List UInt8), rv6 = (.str w5) ∧
((([32, 64] : List UInt8).length + w5.length : Nat) : Int) ≤ 9223372036854775807 ∧
((s_2.length + (([32, 64] : List UInt8) ++ w5).length : Nat) : Int) ≤ 9223372036854775807 ∧
∃ n3, n3 < n2 ∧
I1 n3 ((s_2 ++ (([32, 64] : List UInt8) ++ w5)) : List UInt8) c1 (c1p + (Utf8.decode ⟨List.toArray c1⟩ c1p).2) (t3 ++ t8))))))) ∧
(¬ c1p < c1.length → P (.str s_2) (AObj.arr [(.int .i64 i1), (.bool i2), (.int .i64 i3), (.int .i64 i4), (.int .i64 i5), (.int .i64 i6), (.int .i64 i7), (.int .i64 i8), (.int .i64 i9), (.int .i64 i10), (.int .i64 i11)] 11 false :: (t1 ++ (AObj.arr [(.str x1), (.str x2)] 2 false :: (t2 ++ (AObj.iter c1 c1p :: t3)))))))
def D106b (M : Model) (i1 : Int) (i2 : Bool) (i3 : Int) (i4 : Int) (i5 : Int) (i6 : Int) (i7 : Int) (i8 : Int) (i9 : Int) (i10 : Int) (i11 : Int) (h : Heap) (P : AV → Heap → Prop) : Prop :=
CallE M 81 [] (h ++ (AObj.arr [(.int .i64 i1), (.bool i2), (.int .i64 i3), (.int .i64 i4), (.int .i64 i5), (.int .i64 i6), (.int .i64 i7), (.int .i64 i8), (.int .i64 i9), (.int .i64 i10), (.int .i64 i11)] 11 false :: [AObj.arr [(.str []), (.str [])] 2 false])) fun rv1 t1 =>
∃ (l1 : Slc), rv1 = l1.av ∧
(0 ≤ i1 ∧
i1 < (l1.len : Int)) ∧
∃ (x1 : List UInt8) (x2 : List UInt8), rdVar (h ++ (AObj.arr [(.int .i64 i1), (.bool i2), (.int .i64 i3), (.int .i64 i4), (.int .i64 i5), (.int .i64 i6), (.int .i64 i7), (.int .i64 i8), (.int .i64 i9), (.int .i64 i10), (.int .i64 i11)] 11 false :: (AObj.arr [(.str []), (.str [])] 2 false :: t1))) (some 2) l1.b (l1.o + (i1 : Int).toNat * 2) = some (.agg [(.str x1), (.str x2)]) ∧
∃ (J1 : (List UInt8) → Heap → Prop), ((i2 = true → ((x1.length + ([42] : List UInt8).length : Nat) : Int) ≤ 9223372036854775807 ∧
J1 ((x1 ++ [42]) : List UInt8) ([] : Heap)) ∧
(i2 = false → J1 (x1 : List UInt8) ([] : Heap))) ∧
(∀ (s_1 : List UInt8) (t2 : Heap), J1 s_1 t2 → ∃ (I1 : Nat → (List UInt8) → (List UInt8) → Nat → Heap → Prop), (∃ n1, I1 n1 (s_1 : List UInt8) x2 0 ([] : Heap)) ∧
∀ (n2 : Nat) (s_2 : List UInt8) (c1 : List UInt8) (c1p : Nat) (t3 : Heap), I1 n2 s_2 c1 c1p t3 → (c1p < c1.length → (((((Utf8.decode ⟨List.toArray c1⟩ c1p).1 : Nat) : Int) == 114) = true → (0 ≤ i3 ∧
i3 ≤ (IntKind.wrap .i64 (i3 + 1)) ∧
(IntKind.wrap .i64 (i3 + 1)) ≤ ((([97, 98, 99, 100, 101, 102, 103, 104, 105, 106, 107, 108, 120, 121, 116, 110] : List UInt8).length : Nat) : Int)) ∧
((([32] : List UInt8).length + ((([97, 98, 99, 100, 101, 102, 103, 104, 105, 106, 107, 108, 120, 121, 116, 110] : List UInt8).drop (Int.toNat i3)).take (Int.toNat (IntKind.wrap .i64 (i3 + 1)) - Int.toNat i3)).length : Nat) : Int) ≤ 9223372036854775807 ∧
((s_2.length + (([32] : List UInt8) ++ ((([97, 98, 99, 100, 101, 102, 103, 104, 105, 106, 107, 108, 120, 121, 116, 110] : List UInt8).drop (Int.toNat i3)).take (Int.toNat (IntKind.wrap .i64 (i3 + 1)) - Int.toNat i3))).length : Nat) : Int) ≤ 9223372036854775807 ∧
∃ n3, n3 < n2 ∧
I1 n3 ((s_2 ++ (([32] : List UInt8) ++ ((([97, 98, 99, 100, 101, 102, 103, 104, 105, 106, 107, 108, 120, 121, 116, 110] : List UInt8).drop (Int.toNat i3)).take (Int.toNat (IntKind.wrap .i64 (i3 + 1)) - Int.toNat i3)))) : List UInt8) c1 (c1p + (Utf8.decode ⟨List.toArray c1⟩ c1p).2) t3) ∧
(((((Utf8.decode ⟨List.toArray c1⟩ c1p).1 : Nat) : Int) == 114) = false → (((((Utf8.decode ⟨List.toArray c1⟩ c1p).1 : Nat) : Int) == 115) = true →
CallE M 140 [(.agg [(.int .i64 i4), (.int .i64 i5)])] (h ++ (AObj.arr [(.int .i64 i1), (.bool i2), (.int .i64 i3), (.int .i64 i4), (.int .i64 i5), (.int .i64 i6), (.int .i64 i7), (.int .i64 i8), (.int .i64 i9), (.int .i64 i10), (.int .i64 i11)] 11 false :: (AObj.arr [(.str x1), (.str x2)] 2 false :: (t1 ++ (t2 ++ (AObj.iter c1 (c1p + (Utf8.decode ⟨List.toArray c1⟩ c1p).2) :: t3)))))) fun rv2 t4 =>
∃ (w1 : List UInt8), rv2 = (.str w1) ∧
((([32] : List UInt8).length + w1.length : Nat) : Int) ≤ 9223372036854775807 ∧
((s_2.length + (([32] : List UInt8) ++ w1).length : Nat) : Int) ≤ 9223372036854775807 ∧
∃ n3, n3 < n2 ∧
I1 n3 ((s_2 ++ (([32] : List UInt8) ++ w1)) : List UInt8) c1 (c1p + (Utf8.decode ⟨List.toArray c1⟩ c1p).2) (t3 ++ t4)) ∧
(((((Utf8.decode ⟨List.toArray c1⟩ c1p).1 : Nat) : Int) == 115) = false → (((((Utf8.decode ⟨List.toArray c1⟩ c1p).1 : Nat) : Int) == 118) = true →
CallE M 140 [(.agg [(.int .i64 i6), (.int .i64 i7)])] (h ++ (AObj.arr [(.int .i64 i1), (.bool i2), (.int .i64 i3), (.int .i64 i4), (.int .i64 i5), (.int .i64 i6), (.int .i64 i7), (.int .i64 i8), (.int .i64 i9), (.int .i64 i10), (.int .i64 i11)] 11 false :: (AObj.arr [(.str x1), (.str x2)] 2 false :: (t1 ++ (t2 ++ (AObj.iter c1 (c1p + (Utf8.decode ⟨List.toArray c1⟩ c1p).2) :: t3)))))) fun rv3 t5 =>
∃ (w2 : List UInt8), rv3 = (.str w2) ∧
((([32] : List UInt8).length + w2.length : Nat) : Int) ≤ 9223372036854775807 ∧
((s_2.length + (([32] : List UInt8) ++ w2).length : Nat) : Int) ≤ 9223372036854775807 ∧
∃ n3, n3 < n2 ∧
I1 n3 ((s_2 ++ (([32] : List UInt8) ++ w2)) : List UInt8) c1 (c1p + (Utf8.decode ⟨List.toArray c1⟩ c1p).2) (t3 ++ t5)) ∧
(((((Utf8.decode ⟨List.toArray c1⟩ c1p).1 : Nat) : Int) == 118) = false → (((((Utf8.decode ⟨List.toArray c1⟩ c1p).1 : Nat) : Int) == 119) = true →
CallE M 140 [(.agg [(.int .i64 i8), (.int .i64 i9)])] (h ++ (AObj.arr [(.int .i64 i1), (.bool i2), (.int .i64 i3), (.int .i64 i4), (.int .i64 i5), (.int .i64 i6), (.int .i64 i7), (.int .i64 i8), (.int .i64 i9), (.int .i64 i10), (.int .i64 i11)] 11 false :: (AObj.arr [(.str x1), (.str x2)] 2 false :: (t1 ++ (t2 ++ (AObj.iter c1 (c1p + (Utf8.decode ⟨List.toArray c1⟩ c1p).2) :: t3)))))) fun rv4 t6 =>
∃ (w3 : List UInt8), rv4 = (.str w3) ∧
((([32] : List UInt8).length + w3.length : Nat) : Int) ≤ 9223372036854775807 ∧
((s_2.length + (([32] : List UInt8) ++ w3).length : Nat) : Int) ≤ 9223372036854775807 ∧
∃ n3, n3 < n2 ∧
I1 n3 ((s_2 ++ (([32] : List UInt8) ++ w3)) : List UInt8) c1 (c1p + (Utf8.decode ⟨List.toArray c1⟩ c1p).2) (t3 ++ t6)) ∧
(((((Utf8.decode ⟨List.toArray c1⟩ c1p).1 : Nat) : Int) == 119) = false → (((((Utf8.decode ⟨List.toArray c1⟩ c1p).1 : Nat) : Int) == 111) = true →
CallE M 105 [(.int .i64 i10)] (h ++ (AObj.arr [(.int .i64 i1), (.bool i2), (.int .i64 i3), (.int .i64 i4), (.int .i64 i5), (.int .i64 i6), (.int .i64 i7), (.int .i64 i8), (.int .i64 i9), (.int .i64 i10), (.int .i64 i11)] 11 false :: (AObj.arr [(.str x1), (.str x2)] 2 false :: (t1 ++ (t2 ++ (AObj.iter c1 (c1p + (Utf8.decode ⟨List.toArray c1⟩ c1p).2) :: t3)))))) fun rv5 t7 =>
∃ (w4 : List UInt8), rv5 = (.str w4) ∧
((([32] : List UInt8).length + w4.length : Nat) : Int) ≤ 9223372036854775807 ∧
((s_2.length + (([32] : List UInt8) ++ w4).length : Nat) : Int) ≤ 9223372036854775807 ∧
∃ n3, n3 < n2 ∧
I1 n3 ((s_2 ++ (([32] : List UInt8) ++ w4)) : List UInt8) c1 (c1p + (Utf8.decode ⟨List.toArray c1⟩ c1p).2) (t3 ++ t7)) ∧
(((((Utf8.decode ⟨List.toArray c1⟩ c1p).1 : Nat) : Int) == 111) = false →
CallE M 105 [(.int .i64 i11)] (h ++ (AObj.arr [(.int .i64 i1), (.bool i2), (.int .i64 i3), (.int .i64 i4), (.int .i64 i5), (.int .i64 i6), (.int .i64 i7), (.int .i64 i8), (.int .i64 i9), (.int .i64 i10), (.int .i64 i11)] 11 false :: (AObj.arr [(.str x1), (.str x2)] 2 false :: (t1 ++ (t2 ++ (AObj.iter c1 (c1p + (Utf8.decode ⟨List.toArray c1⟩ c1p).2) :: t3)))))) fun rv6 t8 =>
∃ (w5 : List UInt8), rv6 = (.str w5) ∧
((([32, 64] : List UInt8).length + w5.length : Nat) : Int) ≤ 9223372036854775807 ∧
((s_2.length + (([32, 64] : List UInt8) ++ w5).length : Nat) : Int) ≤ 9223372036854775807 ∧
∃ n3, n3 < n2 ∧
I1 n3 ((s_2 ++ (([32, 64] : List UInt8) ++ w5)) : List UInt8) c1 (c1p + (Utf8.decode ⟨List.toArray c1⟩ c1p).2) (t3 ++ t8))))))) ∧
(¬ c1p < c1.length → P (.str s_2) (AObj.arr [(.int .i64 i1), (.bool i2), (.int .i64 i3), (.int .i64 i4), (.int .i64 i5), (.int .i64 i6), (.int .i64 i7), (.int .i64 i8), (.int .i64 i9), (.int .i64 i10), (.int .i64 i11)] 11 false :: (AObj.arr [(.str x1), (.str x2)] 2 false :: (t1 ++ (t2 ++ (AObj.iter c1 c1p :: t3)))))))
theorem d106 {M : Model} (hM : GrowOps M (isG 81)) {i1 : Int} {i2 : Bool} {i3 : Int} {i4 : Int} {i5 : Int} {i6 : Int} {i7 : Int} {i8 : Int} {i9 : Int} {i10 : Int} {i11 : Int} {h : Heap} {P : AV → Heap → Prop} (hF : M.fn 106 = some F106) (ha : D106a M i1 i2 i3 i4 i5 i6 i7 i8 i9 i10 i11 h P) (hb : D106b M i1 i2 i3 i4 i5 i6 i7 i8 i9 i10 i11 h P) : CallE M 106 [(.agg [(.int .i64 i1), (.bool i2), (.int .i64 i3), (.int .i64 i4), (.int .i64 i5), (.int .i64 i6), (.int .i64 i7), (.int .i64 i8), (.int .i64 i9), (.int .i64 i10), (.int .i64 i11)])] h P :=
  callE_of_two hM (i1 := 0) (i2 := 5) (σ := [1, 2, 0, 3, 4, 5, 6]) (τ := [2, 0, 1, 3, 4, 5, 6]) (ς := [1, 2, 5, 0, 3, 4, 6]) (υ := [3, 0, 1, 4, 5, 2, 6]) (hi1 := (rs 4 (.op ⟨.slc, 0, true, 0⟩ (.op ⟨.raw, 0, true, 0⟩ (.op ⟨(.agg [.str, .str]), 3, true, 0⟩ (rs 5 (.join ⟨4, [], [(4, .str)]⟩ (rs 2 (.condS (.op ⟨.raw, 0, true, 0⟩ (.op ⟨.raw, 0, true, 1⟩ (.op ⟨.raw, 0, true, 0⟩ .nil))) .nil)) (rs 3 (.loop ⟨6, [(5, .iter, 0)], [(4, .str)]⟩ (.op2 (.op ⟨.raw, 0, true, 0⟩ (.condL (rs 5 (.condS (rs 7 (.op ⟨.raw, 0, true, 1⟩ (.op ⟨.raw, 0, true, 1⟩ (.op ⟨.raw, 0, true, 0⟩ .nil)))) (rs 2 (.condS (rs 3 (.op ⟨.str, 0, true, 0⟩ (.op ⟨.raw, 0, true, 1⟩ (.op ⟨.raw, 0, true, 1⟩ (.op ⟨.raw, 0, true, 0⟩ .nil))))) (rs 2 (.condS (rs 3 (.op ⟨.str, 0, true, 0⟩ (.op ⟨.raw, 0, true, 1⟩ (.op ⟨.raw, 0, true, 1⟩ (.op ⟨.raw, 0, true, 0⟩ .nil))))) (rs 2 (.condS (rs 3 (.op ⟨.str, 0, true, 0⟩ (.op ⟨.raw, 0, true, 1⟩ (.op ⟨.raw, 0, true, 1⟩ (.op ⟨.raw, 0, true, 0⟩ .nil))))) (rs 2 (.condS (rs 3 (.op ⟨.str, 0, true, 0⟩ (.op ⟨.raw, 0, true, 1⟩ (.op ⟨.raw, 0, true, 1⟩ (.op ⟨.raw, 0, true, 0⟩ .nil))))) (rs 3 (.op ⟨.str, 0, true, 0⟩ (.op ⟨.raw, 0, true, 1⟩ (.op ⟨.raw, 0, true, 1⟩ (.op ⟨.raw, 0, true, 0⟩ .nil))))))))))))))))) (.op ⟨.raw, 0, true, 0⟩ (.condL (rs 2 .nil))))))))))))) (hi2 := (rs 5 (.op ⟨.slc, 0, true, 0⟩ (.op ⟨.raw, 0, true, 0⟩ (.op ⟨(.agg [.str, .str]), 4, true, 0⟩ (rs 4 (.join ⟨4, [], [(4, .str)]⟩ (rs 2 (.condS (.op ⟨.raw, 0, true, 0⟩ (.op ⟨.raw, 0, true, 1⟩ (.op ⟨.raw, 0, true, 0⟩ .nil))) .nil)) (rs 3 (.loop ⟨6, [(5, .iter, 0)], [(4, .str)]⟩ (.op2 (.op ⟨.raw, 0, true, 0⟩ (.condL (rs 5 (.condS (rs 7 (.op ⟨.raw, 0, true, 1⟩ (.op ⟨.raw, 0, true, 1⟩ (.op ⟨.raw, 0, true, 0⟩ .nil)))) (rs 2 (.condS (rs 3 (.op ⟨.str, 0, true, 0⟩ (.op ⟨.raw, 0, true, 1⟩ (.op ⟨.raw, 0, true, 1⟩ (.op ⟨.raw, 0, true, 0⟩ .nil))))) (rs 2 (.condS (rs 3 (.op ⟨.str, 0, true, 0⟩ (.op ⟨.raw, 0, true, 1⟩ (.op ⟨.raw, 0, true, 1⟩ (.op ⟨.raw, 0, true, 0⟩ .nil))))) (rs 2 (.condS (rs 3 (.op ⟨.str, 0, true, 0⟩ (.op ⟨.raw, 0, true, 1⟩ (.op ⟨.raw, 0, true, 1⟩ (.op ⟨.raw, 0, true, 0⟩ .nil))))) (rs 2 (.condS (rs 3 (.op ⟨.str, 0, true, 0⟩ (.op ⟨.raw, 0, true, 1⟩ (.op ⟨.raw, 0, true, 1⟩ (.op ⟨.raw, 0, true, 0⟩ .nil))))) (rs 3 (.op ⟨.str, 0, true, 0⟩ (.op ⟨.raw, 0, true, 1⟩ (.op ⟨.raw, 0, true, 1⟩ (.op ⟨.raw, 0, true, 0⟩ .nil))))))))))))))))) (.op ⟨.raw, 0, true, 0⟩ (.condL (rs 2 .nil))))))))))))) (args := [(.agg [(.av (.int .i64 i1)), (.av (.bool i2)), (.av (.int .i64 i3)), (.av (.int .i64 i4)), (.av (.int .i64 i5)), (.av (.int .i64 i6)), (.av (.int .i64 i7)), (.av (.int .i64 i8)), (.av (.int .i64 i9)), (.av (.int .i64 i10)), (.av (.int .i64 i11))])]) hF rfl (by kernel_rfl) (by kernel_rfl) (by simp [oks, SV.ok]) (Eq.mp (α := D106a M i1 i2 i3 i4 i5 i6 i7 i8 i9 i10 i11 h P) (by kernel_rfl) ha) (Eq.mp (α := D106b M i1 i2 i3 i4 i5 i6 i7 i8 i9 i10 i11 h P) (by kernel_rfl) hb)
def D113 (M : Model) (op1 : Int) (h : Heap) (P : AV → Heap → Prop) : Prop :=
((decide (op1 < 0)) = false → ((decide (op1 ≥ 26)) = true → P (.tuple [(.str []), (.str [])]) (AObj.arr [(.str [115, 101, 116]), (.str [97, 100, 100]), (.str [115, 117, 98]), (.str [109, 117, 108]), (.str [100, 105, 118]), (.str [114, 101, 109]), (.str [116, 117, 114, 110]), (.str [101, 113]), (.str [110, 101]), (.str [108, 116]), (.str [103, 111]), (.str [99, 97, 108, 108]), (.str [98, 97, 99, 107]), (.str [108, 111, 97, 100]), (.str [115, 116, 111, 114, 101]), (.str [99, 97, 115]), (.str [102, 97, 97]), (.str [108, 108]), (.str [115, 99]), (.str [110, 101, 119]), (.str [102, 114, 101, 101]), (.str [99, 111, 112, 121]), (.str [104, 111, 108, 100]), (.str [105, 110]), (.str [111, 117, 116]), (.str [103, 105, 118, 101])] 1 false :: [AObj.arr [(.str [114, 118]), (.str [114, 115, 118]), (.str [114, 115, 118]), (.str [114, 115, 118]), (.str [114, 115, 118]), (.str [114, 115, 118]), (.str [114, 115]), (.str [115, 118, 76]), (.str [115, 118, 76]), (.str [115, 118, 76]), (.str [76]), (.str [76]), (.str []), (.str [114, 115, 111]), (.str [115, 111, 118]), (.str [114, 115, 111, 118, 119]), (.str [114, 115, 111, 118]), (.str [114, 115, 111]), (.str [114, 115, 111, 118]), (.str [114, 118]), (.str [115]), (.str [115, 118, 111]), (.str [111, 118]), (.str []), (.str []), (.str [118])] 1 false])) ∧
((decide (op1 ≥ 26)) = false → (0 ≤ op1 ∧
op1 < ((26 : Nat) : Int)) ∧
∃ (w1 : List UInt8), partOf none [(.str [115, 101, 116]), (.str [97, 100, 100]), (.str [115, 117, 98]), (.str [109, 117, 108]), (.str [100, 105, 118]), (.str [114, 101, 109]), (.str [116, 117, 114, 110]), (.str [101, 113]), (.str [110, 101]), (.str [108, 116]), (.str [103, 111]), (.str [99, 97, 108, 108]), (.str [98, 97, 99, 107]), (.str [108, 111, 97, 100]), (.str [115, 116, 111, 114, 101]), (.str [99, 97, 115]), (.str [102, 97, 97]), (.str [108, 108]), (.str [115, 99]), (.str [110, 101, 119]), (.str [102, 114, 101, 101]), (.str [99, 111, 112, 121]), (.str [104, 111, 108, 100]), (.str [105, 110]), (.str [111, 117, 116]), (.str [103, 105, 118, 101])] (0 + (op1 : Int).toNat * 1) = some (.str w1) ∧
(0 ≤ op1 ∧
op1 < ((26 : Nat) : Int)) ∧
∃ (w2 : List UInt8), partOf none [(.str [114, 118]), (.str [114, 115, 118]), (.str [114, 115, 118]), (.str [114, 115, 118]), (.str [114, 115, 118]), (.str [114, 115, 118]), (.str [114, 115]), (.str [115, 118, 76]), (.str [115, 118, 76]), (.str [115, 118, 76]), (.str [76]), (.str [76]), (.str []), (.str [114, 115, 111]), (.str [115, 111, 118]), (.str [114, 115, 111, 118, 119]), (.str [114, 115, 111, 118]), (.str [114, 115, 111]), (.str [114, 115, 111, 118]), (.str [114, 118]), (.str [115]), (.str [115, 118, 111]), (.str [111, 118]), (.str []), (.str []), (.str [118])] (0 + (op1 : Int).toNat * 1) = some (.str w2) ∧
P (.tuple [(.str w1), (.str w2)]) (AObj.arr [(.str [115, 101, 116]), (.str [97, 100, 100]), (.str [115, 117, 98]), (.str [109, 117, 108]), (.str [100, 105, 118]), (.str [114, 101, 109]), (.str [116, 117, 114, 110]), (.str [101, 113]), (.str [110, 101]), (.str [108, 116]), (.str [103, 111]), (.str [99, 97, 108, 108]), (.str [98, 97, 99, 107]), (.str [108, 111, 97, 100]), (.str [115, 116, 111, 114, 101]), (.str [99, 97, 115]), (.str [102, 97, 97]), (.str [108, 108]), (.str [115, 99]), (.str [110, 101, 119]), (.str [102, 114, 101, 101]), (.str [99, 111, 112, 121]), (.str [104, 111, 108, 100]), (.str [105, 110]), (.str [111, 117, 116]), (.str [103, 105, 118, 101])] 1 false :: [AObj.arr [(.str [114, 118]), (.str [114, 115, 118]), (.str [114, 115, 118]), (.str [114, 115, 118]), (.str [114, 115, 118]), (.str [114, 115, 118]), (.str [114, 115]), (.str [115, 118, 76]), (.str [115, 118, 76]), (.str [115, 118, 76]), (.str [76]), (.str [76]), (.str []), (.str [114, 115, 111]), (.str [115, 111, 118]), (.str [114, 115, 111, 118, 119]), (.str [114, 115, 111, 118]), (.str [114, 115, 111]), (.str [114, 115, 111, 118]), (.str [114, 118]), (.str [115]), (.str [115, 118, 111]), (.str [111, 118]), (.str []), (.str []), (.str [118])] 1 false]))) ∧
((decide (op1 < 0)) = true → P (.tuple [(.str []), (.str [])]) (AObj.arr [(.str [115, 101, 116]), (.str [97, 100, 100]), (.str [115, 117, 98]), (.str [109, 117, 108]), (.str [100, 105, 118]), (.str [114, 101, 109]), (.str [116, 117, 114, 110]), (.str [101, 113]), (.str [110, 101]), (.str [108, 116]), (.str [103, 111]), (.str [99, 97, 108, 108]), (.str [98, 97, 99, 107]), (.str [108, 111, 97, 100]), (.str [115, 116, 111, 114, 101]), (.str [99, 97, 115]), (.str [102, 97, 97]), (.str [108, 108]), (.str [115, 99]), (.str [110, 101, 119]), (.str [102, 114, 101, 101]), (.str [99, 111, 112, 121]), (.str [104, 111, 108, 100]), (.str [105, 110]), (.str [111, 117, 116]), (.str [103, 105, 118, 101])] 1 false :: [AObj.arr [(.str [114, 118]), (.str [114, 115, 118]), (.str [114, 115, 118]), (.str [114, 115, 118]), (.str [114, 115, 118]), (.str [114, 115, 118]), (.str [114, 115]), (.str [115, 118, 76]), (.str [115, 118, 76]), (.str [115, 118, 76]), (.str [76]), (.str [76]), (.str []), (.str [114, 115, 111]), (.str [115, 111, 118]), (.str [114, 115, 111, 118, 119]), (.str [114, 115, 111, 118]), (.str [114, 115, 111]), (.str [114, 115, 111, 118]), (.str [114, 118]), (.str [115]), (.str [115, 118, 111]), (.str [111, 118]), (.str []), (.str []), (.str [118])] 1 false]))
theorem d113 {M : Model} {op1 : Int} {h : Heap} {P : AV → Heap → Prop} (hF : M.fn 113 = some F113) (hd : D113 M op1 h P) : CallE M 113 [(.int .i64 op1)] h P :=
  callE_of_wp (hi := (rs 9 (.split ⟨.raw, 0, true, 0⟩ (rs 4 (.condS (rs 2 .nil) (rs 2 (.op ⟨.raw, 0, true, 1⟩ (.op ⟨.str, 0, true, 0⟩ (rs 2 (.op ⟨.raw, 0, true, 1⟩ (.op ⟨.str, 0, true, 0⟩ (rs 2 .nil))))))))) (rs 4 (.condL (rs 2 .nil)))))) (args := [(.av (.int .i64 op1))]) hF (by simp [oks, SV.ok]) (Eq.mp (α := D113 M op1 h P) (by kernel_rfl) hd)
def D114 (M : Model) (c1 : Int) (a11 : Nat) (a11o : Nat) (a21 : Nat) (a21o : Nat) (h : Heap) (P : AV → Heap → Prop) : Prop :=
∃ (l1 : Slc), rdVar h none a11 a11o = some l1.av ∧
∃ (n1 : Int), rdVar h none a21 a21o = some (.int .i64 n1) ∧
(0 ≤ n1 ∧
n1 < (l1.len : Int)) ∧
∃ (w1 : List UInt8), rdVar h none l1.b ((l1.o + (n1 : Int).toNat * 2) + 1) = some (.str w1) ∧
(List.all w1 (fun c =>
Nat.blt c.toNat 128)) = true ∧
w1.length ≤ 70368744177664 ∧
CallE M 115 [(.slice h.length 0 w1.length), (.int .i32 c1)] (h ++ [AObj.arr (List.map (fun c =>
AV.int .i32 (UInt8.toNat c : Nat)) w1) 1 false]) fun rv1 t1 =>
∃ (b1 : Bool), rv1 = (.bool b1) ∧
P (.bool b1) (AObj.arr (List.map (fun c =>
AV.int .i32 (UInt8.toNat c : Nat)) w1) 1 false :: t1)
theorem d114 {M : Model} {c1 : Int} {a11 : Nat} {a11o : Nat} {a21 : Nat} {a21o : Nat} {h : Heap} {P : AV → Heap → Prop} (hF : M.fn 114 = some F114) (hd : D114 M c1 a11 a11o a21 a21o h P) : CallE M 114 [(.int .i32 c1), (.ptr a11 a11o), (.ptr a21 a21o)] h P :=
  callE_of_wp (hi := (.op ⟨.raw, 0, true, 0⟩ (.op ⟨.slc, 1, true, 0⟩ (.op ⟨.raw, 0, true, 0⟩ (.op ⟨(.int .i64), 1, true, 0⟩ (rs 2 (.op ⟨.str, 1, true, 0⟩ (rs 2 (.op ⟨.bool, 0, true, 0⟩ (.op ⟨.raw, 0, true, 0⟩ .nil)))))))))) (args := [(.av (.int .i32 c1)), (.av (.ptr a11 a11o)), (.av (.ptr a21 a21o))]) hF (by simp [oks, SV.ok]) (Eq.mp (α := D114 M c1 a11 a11o a21 a21o h P) (by kernel_rfl) hd)
def D115 (M : Model) (s_1 : Slc) (v1 : Int) (h : Heap) (P : AV → Heap → Prop) : Prop :=
CallE M 146 [s_1.av, (.int .i32 v1)] h fun rv1 t1 =>
∃ (n1 : Int), rv1 = (.int .i64 n1) ∧
P (.bool (decide (n1 ≥ 0))) t1
theorem d115 {M : Model} {s_1 : Slc} {v1 : Int} {h : Heap} {P : AV → Heap → Prop} (hF : M.fn 115 = some F115) (hd : D115 M s_1 v1 h P) : CallE M 115 [s_1.av, (.int .i32 v1)] h P :=
  callE_of_wp (hi := (rs 3 (.op ⟨(.int .i64), 0, true, 0⟩ (rs 2 .nil)))) (args := [(.slc s_1), (.av (.int .i32 v1))]) hF (by simp [oks, SV.ok]) (Eq.mp (α := D115 M s_1 v1 h P) (by kernel_rfl) hd)
def D116 (M : Model) (c1 : Int) (o1 : Int) (o2 : Int) (a21 : Nat) (a21o : Nat) (a31 : Nat) (a31o : Nat) (h : Heap) (P : AV → Heap → Prop) : Prop :=
∃ (caps1 : List AV), rdVar h none a21 a21o = some (.fn 114 caps1) ∧
CallE M 114 ([(.int .i32 c1)] ++ caps1) (h ++ [AObj.arr [(.int .i64 o1), (.int .i64 o2)] 2 false]) fun rv1 t1 =>
∃ (b1 : Bool), rv1 = (.bool b1) ∧
(b1 = true →
CallE M 117 [(.agg [(.int .i64 o1), (.int .i64 o2)])] (h ++ (AObj.arr [(.int .i64 o1), (.int .i64 o2)] 2 false :: t1)) fun rv2 t2 =>
∃ (b2 : Bool), rv2 = (.bool b2) ∧
P (.bool b2) (AObj.arr [(.int .i64 o1), (.int .i64 o2)] 2 false :: (t1 ++ t2))) ∧
(b1 = false → ∃ (x1 : Int) (x2 : Int), rdVar h (some 2) a31 a31o = some (.agg [(.int .i64 x1), (.int .i64 x2)]) ∧
P (.bool (((o1 == x1) && ((o2 == x2) && true)) != false)) (AObj.arr [(.int .i64 o1), (.int .i64 o2)] 2 false :: t1))
theorem d116 {M : Model} {c1 : Int} {o1 : Int} {o2 : Int} {a21 : Nat} {a21o : Nat} {a31 : Nat} {a31o : Nat} {h : Heap} {P : AV → Heap → Prop} (hF : M.fn 116 = some F116) (hd : D116 M c1 o1 o2 a21 a21o a31 a31o h P) : CallE M 116 [(.int .i32 c1), (.agg [(.int .i64 o1), (.int .i64 o2)]), (.ptr a21 a21o), (.ptr a31 a31o)] h P :=
  callE_of_wp (hi := (rs 2 (.op ⟨.raw, 1, true, 114⟩ (.op ⟨.raw, 0, true, 0⟩ (.op ⟨.bool, 0, true, 0⟩ (.condS (.op ⟨.raw, 0, true, 0⟩ (.op ⟨.bool, 0, true, 0⟩ (.op ⟨.raw, 0, true, 0⟩ .nil))) (.op ⟨.raw, 0, true, 0⟩ (.op ⟨(.agg [(.int .i64), (.int .i64)]), 1, true, 0⟩ (rs 2 .nil))))))))) (args := [(.av (.int .i32 c1)), (.agg [(.av (.int .i64 o1)), (.av (.int .i64 o2))]), (.av (.ptr a21 a21o)), (.av (.ptr a31 a31o))]) hF (by simp [oks, SV.ok]) (Eq.mp (α := D116 M c1 o1 o2 a21 a21o a31 a31o h P) (by kernel_rfl) hd)
def D117 (M : Model) (o1 : Int) (o2 : Int) (h : Heap) (P : AV → Heap → Prop) : Prop :=
((o1 == (-1)) = true → ((decide (o2 ≥ (-1000000000000000))) = true → P (.bool (decide (o2 ≤ 1000000000000000))) [AObj.arr [(.int .i64 o1), (.int .i64 o2)] 2 false]) ∧
((decide (o2 ≥ (-1000000000000000))) = false → P (.bool false) [AObj.arr [(.int .i64 o1), (.int .i64 o2)] 2 false])) ∧
((o1 == (-1)) = false → ((decide (o1 ≥ 0)) = true → ((decide (o1 < 16)) = true → P (.bool (o2 == 0)) [AObj.arr [(.int .i64 o1), (.int .i64 o2)] 2 false]) ∧
((decide (o1 < 16)) = false → P (.bool false) [AObj.arr [(.int .i64 o1), (.int .i64 o2)] 2 false])) ∧
((decide (o1 ≥ 0)) = false → P (.bool false) [AObj.arr [(.int .i64 o1), (.int .i64 o2)] 2 false]))
theorem d117 {M : Model} {o1 : Int} {o2 : Int} {h : Heap} {P : AV → Heap → Prop} (hF : M.fn 117 = some F117) (hd : D117 M o1 o2 h P) : CallE M 117 [(.agg [(.int .i64 o1), (.int .i64 o2)])] h P :=
  callE_of_wp (hi := (rs 5 (.condS (rs 4 (.split ⟨.raw, 0, true, 0⟩ (rs 4 .nil) (rs 4 .nil))) (rs 4 (.split ⟨.raw, 0, true, 0⟩ (rs 4 (.split ⟨.raw, 0, true, 0⟩ (rs 4 .nil) (rs 4 .nil))) (rs 9 .nil)))))) (args := [(.agg [(.av (.int .i64 o1)), (.av (.int .i64 o2))])]) hF (by simp [oks, SV.ok]) (Eq.mp (α := D117 M o1 o2 h P) (by kernel_rfl) hd)
def D118 (M : Model) (op1 : Int) (part1 : Int) (h : Heap) (P : AV → Heap → Prop) : Prop :=
CallE M 113 [(.int .i64 op1)] h fun rv1 t1 =>
∃ (r1 : List UInt8) (r2 : List UInt8), rv1 = (.tuple [(.str r1), (.str r2)]) ∧
∃ (I1 : Nat → Int → Heap → Prop), (∃ n1, I1 n1 (0 : Int) ([] : Heap)) ∧
∀ (n2 : Nat) (i1 : Int) (t2 : Heap), I1 n2 i1 t2 → ((decide (i1 < ((r2.length : Nat) : Int))) = true → ∃ (c1 : UInt8), (0 ≤ i1 ∧
r2[(i1 : Int).toNat]? = some c1) ∧
((((UInt8.toNat c1 : Nat) : Int) == part1) = true → P (.bool true) (t1 ++ t2)) ∧
((((UInt8.toNat c1 : Nat) : Int) == part1) = false → ∃ n3, n3 < n2 ∧
I1 n3 (IntKind.wrap .i64 (i1 + 1)) t2)) ∧
((decide (i1 < ((r2.length : Nat) : Int))) = false → P (.bool false) (t1 ++ t2))
theorem d118 {M : Model} {op1 : Int} {part1 : Int} {h : Heap} {P : AV → Heap → Prop} (hF : M.fn 118 = some F118) (hd : D118 M op1 part1 h P) : CallE M 118 [(.int .i64 op1), (.int .u8 part1)] h P :=
  callE_of_wp (hi := (rs 2 (.op ⟨(.tup [.str, .str]), 0, true, 0⟩ (rs 6 (.loop ⟨2, [], [(7, (.int .i64))]⟩ (rs 4 (.condS (rs 2 (.op ⟨.raw, 0, true, 1⟩ (rs 2 (.condS (.op ⟨.raw, 0, true, 0⟩ .nil) (rs 3 .nil))))) (.op ⟨.raw, 0, true, 0⟩ .nil)))))))) (args := [(.av (.int .i64 op1)), (.av (.int .u8 part1))]) hF (by simp [oks, SV.ok]) (Eq.mp (α := D118 M op1 part1 h P) (by kernel_rfl) hd)
def D119 (M : Model) (x1 : Int) (x2 : Int) (h : Heap) (P : AV → Heap → Prop) : Prop :=
((x1 == (-1)) = true → ((decide (x2 ≥ (-1000000000000000))) = true → P (.bool (decide (x2 ≤ 1000000000000000))) [AObj.arr [(.int .i64 x1), (.int .i64 x2)] 2 false]) ∧
((decide (x2 ≥ (-1000000000000000))) = false → P (.bool false) [AObj.arr [(.int .i64 x1), (.int .i64 x2)] 2 false])) ∧
((x1 == (-1)) = false → ((decide (x1 ≥ 0)) = true → ((decide (x1 ≤ 15)) = true → P (.bool (x2 == 0)) [AObj.arr [(.int .i64 x1), (.int .i64 x2)] 2 false]) ∧
((decide (x1 ≤ 15)) = false → P (.bool false) [AObj.arr [(.int .i64 x1), (.int .i64 x2)] 2 false])) ∧
((decide (x1 ≥ 0)) = false → P (.bool false) [AObj.arr [(.int .i64 x1), (.int .i64 x2)] 2 false]))
theorem d119 {M : Model} {x1 : Int} {x2 : Int} {h : Heap} {P : AV → Heap → Prop} (hF : M.fn 119 = some F119) (hd : D119 M x1 x2 h P) : CallE M 119 [(.agg [(.int .i64 x1), (.int .i64 x2)])] h P :=
  callE_of_wp (hi := (rs 5 (.condS (rs 4 (.split ⟨.raw, 0, true, 0⟩ (rs 4 .nil) (rs 4 .nil))) (rs 4 (.split ⟨.raw, 0, true, 0⟩ (rs 4 (.split ⟨.raw, 0, true, 0⟩ (rs 4 .nil) (rs 4 .nil))) (rs 9 .nil)))))) (args := [(.agg [(.av (.int .i64 x1)), (.av (.int .i64 x2))])]) hF (by simp [oks, SV.ok]) (Eq.mp (α := D119 M x1 x2 h P) (by kernel_rfl) hd)
def D140 (M : Model) (o1 : Int) (o2 : Int) (h : Heap) (P : AV → Heap → Prop) : Prop :=
((decide (o1 < 0)) = true →
CallE M 105 [(.int .i64 o2)] (h ++ [AObj.arr [(.int .i64 o1), (.int .i64 o2)] 2 false]) fun rv1 t1 =>
∃ (w1 : List UInt8), rv1 = (.str w1) ∧
P (.str w1) (AObj.arr [(.int .i64 o1), (.int .i64 o2)] 2 false :: t1)) ∧
((decide (o1 < 0)) = false → (0 ≤ o1 ∧
o1 ≤ (IntKind.wrap .i64 (o1 + 1)) ∧
(IntKind.wrap .i64 (o1 + 1)) ≤ ((([97, 98, 99, 100, 101, 102, 103, 104, 105, 106, 107, 108, 120, 121, 116, 110] : List UInt8).length : Nat) : Int)) ∧
P (.str ((([97, 98, 99, 100, 101, 102, 103, 104, 105, 106, 107, 108, 120, 121, 116, 110] : List UInt8).drop (Int.toNat o1)).take (Int.toNat (IntKind.wrap .i64 (o1 + 1)) - Int.toNat o1))) [AObj.arr [(.int .i64 o1), (.int .i64 o2)] 2 false])
theorem d140 {M : Model} {o1 : Int} {o2 : Int} {h : Heap} {P : AV → Heap → Prop} (hF : M.fn 140 = some F140) (hd : D140 M o1 o2 h P) : CallE M 140 [(.agg [(.int .i64 o1), (.int .i64 o2)])] h P :=
  callE_of_wp (hi := (rs 5 (.condS (rs 2 (.op ⟨.str, 0, true, 0⟩ (.op ⟨.raw, 0, true, 0⟩ .nil))) (rs 7 .nil)))) (args := [(.agg [(.av (.int .i64 o1)), (.av (.int .i64 o2))])]) hF (by simp [oks, SV.ok]) (Eq.mp (α := D140 M o1 o2 h P) (by kernel_rfl) hd)
def D146 (M : Model) (s_1 : Slc) (v1 : Int) (h : Heap) (P : AV → Heap → Prop) : Prop :=
∃ (I1 : Nat → Int → Heap → Prop), (∃ n1, I1 n1 (0 : Int) ([] : Heap)) ∧
∀ (n2 : Nat) (x1 : Int) (t1 : Heap), I1 n2 x1 t1 → ((decide (x1 < ((s_1.len : Nat) : Int))) = true → (0 ≤ x1 ∧
x1 < (s_1.len : Int)) ∧
∃ (n4 : Int), rdVar h none s_1.b (s_1.o + (x1 : Int).toNat * 1) = some (.int .i32 n4) ∧
((v1 == n4) = true → P (.int .i64 x1) t1) ∧
((v1 == n4) = false → ∃ n3, n3 < n2 ∧
I1 n3 (IntKind.wrap .i64 (x1 + 1)) t1)) ∧
((decide (x1 < ((s_1.len : Nat) : Int))) = false → P (.int .i64 (-1)) t1)
theorem d146 {M : Model} {s_1 : Slc} {v1 : Int} {h : Heap} {P : AV → Heap → Prop} (hF : M.fn 146 = some F146) (hd : D146 M s_1 v1 h P) : CallE M 146 [s_1.av, (.int .i32 v1)] h P :=
  callE_of_wp (hi := (rs 4 (.loop ⟨1, [], [(8, (.int .i64))]⟩ (.op ⟨.raw, 0, true, 0⟩ (.condS (rs 6 (.op ⟨(.int .i32), 1, true, 0⟩ (.op ⟨.raw, 0, true, 0⟩ (.condS (rs 2 .nil) (rs 2 .nil))))) (.op ⟨.raw, 0, true, 0⟩ .nil)))))) (args := [(.slc s_1), (.av (.int .i32 v1))]) hF (by simp [oks, SV.ok]) (Eq.mp (α := D146 M s_1 v1 h P) (by kernel_rfl) hd)
def D51 (M : Model) (s : Nat → List UInt8)  (h : Heap) (P : AV → Heap → Prop) : Prop :=
CallE M 36 [(.str (s 0))] h fun rv1 t1 =>
∃ (r1 : List UInt8) (r2 : Int) (r3 : Slc) (r4 : Int) (r5 : Int), rv1 = (.tuple [(.agg [(.str r1), (.int .i64 r2), r3.av]), (.int .i64 r4), (.int .i64 r5)]) ∧
((r5 != 0) = false → ((r4 != 0) = false → ((((r3.len : Nat) : Int) != 1) = false → (0 ≤ (0 : Int) ∧
(0 : Int) < (r3.len : Int)) ∧
∃ (l1 : Slc), rdVar (h ++ (t1 ++ [AObj.arr [(.str r1), (.int .i64 r2), r3.av] 3 false])) none r3.b ((r3.o + (0 : Int).toNat * 2) + 1) = some l1.av ∧
((((l1.len : Nat) : Int) != 3) = true → P (.bool false) (t1 ++ [AObj.arr [(.str r1), (.int .i64 r2), r3.av] 3 false])) ∧
((((l1.len : Nat) : Int) != 3) = false →
CallE M 49 [(.agg [(.str r1), (.int .i64 r2), r3.av])] (h ++ (t1 ++ [AObj.arr [(.str r1), (.int .i64 r2), r3.av] 3 false])) fun rv2 t2 =>
∃ (r6 : List UInt8) (r7 : Int), rv2 = (.tuple [(.str r6), (.int .i64 r7)]) ∧
((r7 == 0) = true → P (.bool (r6 == (s 1))) (t1 ++ (AObj.arr [(.str r1), (.int .i64 r2), r3.av] 3 false :: t2))) ∧
((r7 == 0) = false → P (.bool false) (t1 ++ (AObj.arr [(.str r1), (.int .i64 r2), r3.av] 3 false :: t2))))) ∧
((((r3.len : Nat) : Int) != 1) = true → P (.bool false) (t1 ++ [AObj.arr [(.str r1), (.int .i64 r2), r3.av] 3 false]))) ∧
((r4 != 0) = true → P (.bool false) (t1 ++ [AObj.arr [(.str r1), (.int .i64 r2), r3.av] 3 false]))) ∧
((r5 != 0) = true → P (.bool false) (t1 ++ [AObj.arr [(.str r1), (.int .i64 r2), r3.av] 3 false]))
theorem d51 {M : Model} {s : Nat → List UInt8}  {h : Heap} {P : AV → Heap → Prop} (hF : M.fn 51 = some (F51 s)) (hd : D51 M s  h P) : CallE M 51 [] h P :=
  callE_of_wp (hi := (.op ⟨.raw, 0, true, 0⟩ (.op ⟨(.tup [(.agg [.str, (.int .i64), .slc]), (.int .i64), (.int .i64)]), 0, true, 0⟩ (rs 11 (.split ⟨.raw, 0, true, 0⟩ (rs 3 (.split ⟨.raw, 0, true, 0⟩ (rs 5 (.split ⟨.raw, 0, true, 0⟩ (rs 3 (.op ⟨.slc, 3, true, 0⟩ (rs 3 (.condS (.op ⟨.raw, 0, true, 0⟩ .nil) (.op ⟨.raw, 0, true, 0⟩ (.op ⟨(.tup [.str, (.int .i64)]), 0, true, 0⟩ (rs 8 (.split ⟨.raw, 0, true, 0⟩ (rs 3 .nil) (rs 3 .nil))))))))) (rs 7 (.condL (.op ⟨.raw, 0, true, 0⟩ .nil))))) (rs 13 (.condL (.op ⟨.raw, 0, true, 0⟩ .nil))))) (rs 17 (.condL (.op ⟨.raw, 0, true, 0⟩ .nil)))))))) (args := []) hF (by simp [oks, SV.ok]) (Eq.mp (α := D51 M s  h P) (by kernel_rfl) hd)
def D49 (M : Model) (p1 : List UInt8) (p2 : Int) (p3 : Slc) (h : Heap) (P : AV → Heap → Prop) : Prop :=
CallE M 38 [(.agg [(.str p1), (.int .i64 p2), p3.av])] (h ++ [AObj.arr [(.str p1), (.int .i64 p2), p3.av] 3 false]) fun rv1 t1 =>
∃ (n1 : Int), rv1 = (.int .i64 n1) ∧
((n1 != 0) = true → P (.tuple [(.str []), (.int .i64 n1)]) (AObj.arr [(.str p1), (.int .i64 p2), p3.av] 3 false :: t1)) ∧
((n1 != 0) = false → ((([115, 116, 114, 117, 99, 116, 32] : List UInt8).length + p1.length : Nat) : Int) ≤ 9223372036854775807 ∧
(((([115, 116, 114, 117, 99, 116, 32] : List UInt8) ++ p1).length + ([10, 99, 101, 108, 108, 115, 32] : List UInt8).length : Nat) : Int) ≤ 9223372036854775807 ∧
CallE M 105 [(.int .i64 p2)] (h ++ (AObj.arr [(.str p1), (.int .i64 p2), p3.av] 3 false :: (t1 ++ [AObj.bld 294 .nilslice []]))) fun rv2 t2 =>
∃ (w1 : List UInt8), rv2 = (.str w1) ∧
((((([115, 116, 114, 117, 99, 116, 32] : List UInt8) ++ p1) ++ [10, 99, 101, 108, 108, 115, 32]).length + w1.length : Nat) : Int) ≤ 9223372036854775807 ∧
(((((([115, 116, 114, 117, 99, 116, 32] : List UInt8) ++ p1) ++ [10, 99, 101, 108, 108, 115, 32]) ++ w1).length + ([10] : List UInt8).length : Nat) : Int) ≤ 9223372036854775807 ∧
CallP M 104 [(.ptr (h.length + (1 + t1.length)) 0), (.str ((((([115, 116, 114, 117, 99, 116, 32] : List UInt8) ++ p1) ++ [10, 99, 101, 108, 108, 115, 32]) ++ w1) ++ [10]))] h (AObj.arr [(.str p1), (.int .i64 p2), p3.av] 3 false :: (t1 ++ (AObj.bld 294 .nilslice [] :: t2))) fun rv3 t3 =>
∃ (r1 : Int) (r2n : Bool) (r2t : Nat) (r2 : AV), rv3 = (.tuple [(.int .i64 r1), (cond r2n .niliface (.iface r2t r2))]) ∧
∃ (l1 : Slc), rdVar (h ++ t3) none h.length 2 = some l1.av ∧
∃ (I1 : Nat → Int → Heap → Prop), (∃ n2, I1 n2 (0 : Int) t3) ∧
∀ (n3 : Nat) (x1 : Int) (t4 : Heap), I1 n3 x1 t4 → ((decide (x1 < ((l1.len : Nat) : Int))) = true → (0 ≤ x1 ∧
x1 < (l1.len : Int)) ∧
∃ (x2 : List UInt8) (x3 : Slc), rdVar (h ++ t4) (some 2) l1.b (l1.o + (x1 : Int).toNat * 2) = some (.agg [(.str x2), x3.av]) ∧
((([111, 112, 32] : List UInt8).length + x2.length : Nat) : Int) ≤ 9223372036854775807 ∧
(((([111, 112, 32] : List UInt8) ++ x2).length + ([10] : List UInt8).length : Nat) : Int) ≤ 9223372036854775807 ∧
CallP M 104 [(.ptr (h.length + (1 + t1.length)) 0), (.str ((([111, 112, 32] : List UInt8) ++ x2) ++ [10]))] h (t4 ++ [AObj.arr [(.str x2), x3.av] 2 false]) fun rv4 t5 =>
∃ (r3 : Int) (r4n : Bool) (r4t : Nat) (r4 : AV), rv4 = (.tuple [(.int .i64 r3), (cond r4n .niliface (.iface r4t r4))]) ∧
∃ (l2 : Slc), rdVar (h ++ t5) none (h.length + t4.length) 1 = some l2.av ∧
∃ (I2 : Nat → Int → Heap → Prop), (∃ n5, I2 n5 (0 : Int) t5) ∧
∀ (n6 : Nat) (x4 : Int) (t6 : Heap), I2 n6 x4 t6 → ((decide (x4 < ((l2.len : Nat) : Int))) = true → (0 ≤ x4 ∧
x4 < (l2.len : Int)) ∧
∃ (x5 : Int) (x6 : Bool) (x7 : Int) (x8 : Int) (x9 : Int) (x10 : Int) (x11 : Int) (x12 : Int) (x13 : Int) (x14 : Int) (x15 : Int), rdVar (h ++ t6) (some 11) l2.b (l2.o + (x4 : Int).toNat * 11) = some (.agg [(.int .i64 x5), (.bool x6), (.int .i64 x7), (.int .i64 x8), (.int .i64 x9), (.int .i64 x10), (.int .i64 x11), (.int .i64 x12), (.int .i64 x13), (.int .i64 x14), (.int .i64 x15)]) ∧
CallE M 106 [(.agg [(.int .i64 x5), (.bool x6), (.int .i64 x7), (.int .i64 x8), (.int .i64 x9), (.int .i64 x10), (.int .i64 x11), (.int .i64 x12), (.int .i64 x13), (.int .i64 x14), (.int .i64 x15)])] (h ++ (t6 ++ [AObj.arr [(.int .i64 x5), (.bool x6), (.int .i64 x7), (.int .i64 x8), (.int .i64 x9), (.int .i64 x10), (.int .i64 x11), (.int .i64 x12), (.int .i64 x13), (.int .i64 x14), (.int .i64 x15)] 11 false])) fun rv5 t7 =>
∃ (w2 : List UInt8), rv5 = (.str w2) ∧
((w2.length + ([10] : List UInt8).length : Nat) : Int) ≤ 9223372036854775807 ∧
CallP M 104 [(.ptr (h.length + (1 + t1.length)) 0), (.str (w2 ++ [10]))] h (t6 ++ (AObj.arr [(.int .i64 x5), (.bool x6), (.int .i64 x7), (.int .i64 x8), (.int .i64 x9), (.int .i64 x10), (.int .i64 x11), (.int .i64 x12), (.int .i64 x13), (.int .i64 x14), (.int .i64 x15)] 11 false :: t7)) fun rv6 t8 =>
∃ (r5 : Int) (r6n : Bool) (r6t : Nat) (r6 : AV), rv6 = (.tuple [(.int .i64 r5), (cond r6n .niliface (.iface r6t r6))]) ∧
∃ n7, n7 < n6 ∧
I2 n7 (IntKind.wrap .i64 (x4 + 1)) t8) ∧
((decide (x4 < ((l2.len : Nat) : Int))) = false → ∃ n4, n4 < n3 ∧
I1 n4 (IntKind.wrap .i64 (x1 + 1)) t6)) ∧
((decide (x1 < ((l1.len : Nat) : Int))) = false → CallP M 107 [(.ptr (h.length + (1 + t1.length)) 0)] h t4 fun rv7 t9 =>
∃ (w3 : List UInt8), rv7 = (.str w3) ∧
P (.tuple [(.str w3), (.int .i64 0)]) t9))
set_option maxHeartbeats 2000000 in
theorem d49 {M : Model} (hM : QuietOps M (isQ [105])) {p1 : List UInt8} {p2 : Int} {p3 : Slc} {h : Heap} {P : AV → Heap → Prop} (hF : M.fn 49 = some F49) (hd : D49 M p1 p2 p3 h P) : CallE M 49 [(.agg [(.str p1), (.int .i64 p2), p3.av])] h P :=
  callE_of_wpQ hM (hi := (rs 4 (.op ⟨(.int .i64), 0, true, 0⟩ (rs 3 (.condS (rs 3 .nil) (rs 3 (.op ⟨.raw, 0, true, 1⟩ (.op ⟨.raw, 0, true, 1⟩ (rs 2 (.op ⟨.str, 0, true, 0⟩ (.op ⟨.raw, 0, true, 1⟩ (.op ⟨.raw, 0, true, 1⟩ (.op ⟨(.tup [(.int .i64), .err]), 1, true, 1⟩ (.op ⟨.raw, 0, true, 0⟩ (.op ⟨.slc, 2, true, 0⟩ (rs 2 (.loop ⟨1, [], [(28, (.int .i64))]⟩ (.op ⟨.raw, 0, true, 0⟩ (.condS (.op ⟨.raw, 0, true, 0⟩ (.op ⟨(.agg [.str, .slc]), 2, true, 0⟩ (rs 4 (.op ⟨.raw, 0, true, 1⟩ (.op ⟨.raw, 0, true, 1⟩ (.op ⟨(.tup [(.int .i64), .err]), 1, true, 1⟩ (.op ⟨.raw, 0, true, 0⟩ (.op ⟨.slc, 2, true, 0⟩ (rs 2 (.loop ⟨1, [], [(40, (.int .i64))]⟩ (.op ⟨.raw, 0, true, 0⟩ (.condS (.op ⟨.raw, 0, true, 0⟩ (.op ⟨(.agg [(.int .i64), .bool, (.int .i64), (.int .i64), (.int .i64), (.int .i64), (.int .i64), (.int .i64), (.int .i64), (.int .i64), (.int .i64)]), 2, true, 0⟩ (rs 3 (.op ⟨.str, 0, true, 0⟩ (.op ⟨.raw, 0, true, 1⟩ (.op ⟨(.tup [(.int .i64), .err]), 1, true, 1⟩ (rs 2 .nil))))))) (rs 2 .nil))))))))))))) (.op ⟨.str, 1, true, 1⟩ (rs 2 .nil))))))))))))))))))))) (args := [(.agg [(.av (.str p1)), (.av (.int .i64 p2)), (.slc p3)])]) hF (by simp [oks, SV.ok]) (Eq.mp (α := D49 M p1 p2 p3 h P) (by kernel_rfl) hd)
end Go.Proofs.YtifkphfhadimaaaGreatDoor.Mini

