import Derived.Test.YtifkphfhadimaaaGreatDoorMiniX
import Derived.Test.YtifkphfhadimaaaGreatDoorAbsG4
import Derived.Test.YtifkphfhadimaaaGreatDoorAbsG7
set_option linter.unusedVariables false
set_option linter.unusedSimpArgs false
set_option maxRecDepth 100000
namespace Go.Proofs.YtifkphfhadimaaaGreatDoor.Mini
open Go.Abs Mini
def D106a (M : Model) (i1 : Int) (i2 : Bool) (i3 : Int) (i4 : Int) (i5 : Int) (i6 : Int) (i7 : Int) (i8 : Int) (i9 : Int) (i10 : Int) (i11 : Int) (h : Heap) (P : AV → Heap → Prop) : Prop :=
CallE M 81 [] (h ++ [AObj.arr [(.int .i64 i1), (.bool i2), (.int .i64 i3), (.int .i64 i4), (.int .i64 i5), (.int .i64 i6), (.int .i64 i7), (.int .i64 i8), (.int .i64 i9), (.int .i64 i10), (.int .i64 i11)] 11 false]) fun rv1 t1 =>
∃ (l1 : Slc), rv1 = l1.av ∧
(0 ≤ i1 ∧
i1 < (l1.len : Int)) ∧
∃ (x1 : List UInt8) (x2 : List UInt8), rdVar (h ++ (AObj.arr [(.int .i64 i1), (.bool i2), (.int .i64 i3), (.int .i64 i4), (.int .i64 i5), (.int .i64 i6), (.int .i64 i7), (.int .i64 i8), (.int .i64 i9), (.int .i64 i10), (.int .i64 i11)] 11 false :: t1)) (some 2) l1.b (l1.o + (i1 : Int).toNat * 2) = some (.agg [(.str x1), (.str x2)]) ∧
∃ (J1 : (List UInt8) → Heap → Prop), ((i2 = true → ((x1.length + ([42] : List UInt8).length : Nat) : Int) ≤ 9223372036854775807 ∧
J1 ((x1 ++ [42]) : List UInt8) ([] : Heap)) ∧
(i2 = false → J1 (x1 : List UInt8) ([] : Heap))) ∧
(∀ (s_1 : List UInt8) (t2 : Heap), J1 s_1 t2 → ∃ (I1 : Nat → (List UInt8) → (List UInt8) → Nat → Heap → Prop), (∃ n1, I1 n1 (s_1 : List UInt8) x2 0 ([] : Heap)) ∧
∀ (n2 : Nat) (s_2 : List UInt8) (c1 : List UInt8) (c1p : Nat) (t3 : Heap), I1 n2 s_2 c1 c1p t3 → (c1p < c1.length → (((((Utf8.decode ⟨List.toArray c1⟩ c1p).1 : Nat) : Int) == 114) = true → (0 ≤ i3 ∧
i3 ≤ (IntKind.wrap .i64 (i3 + 1)) ∧
(IntKind.wrap .i64 (i3 + 1)) ≤ ((([97, 98, 99, 100, 101, 102, 103, 104, 105, 106, 107, 108, 120, 121, 116, 110] : List UInt8).length : Nat) : Int)) ∧
((([32] : List UInt8).length + ((([97, 98, 99, 100, 101, 102, 103, 104, 105, 106, 107, 108, 120, 121, 116, 110] : List UInt8).drop (Int.toNat i3)).take (Int.toNat (IntKind.wrap .i64 (i3 + 1)) - Int.toNat i3)).length : Nat) : Int) ≤ 9223372036854775807 ∧
((s_2.length + (([32] : List UInt8) ++ ((([97, 98, 99, 100, 101, 102, 103, 104, 105, 106, 107, 108, 120, 121, 116, 110] : List UInt8).drop (Int.toNat i3)).take (Int.toNat (IntKind.wrap .i64 (i3 + 1)) - Int.toNat i3))).length : Nat) : Int) ≤ 9223372036854775807 ∧
∃ n3, n3 < n2 ∧
I1 n3 ((s_2 ++ (([32] : List UInt8) ++ ((([97, 98, 99, 100, 101, 102, 103, 104, 105, 106, 107, 108, 120, 121, 116, 110] : List UInt8).drop (Int.toNat i3)).take (Int.toNat (IntKind.wrap .i64 (i3 + 1)) - Int.toNat i3)))) : List UInt8) c1 (c1p + (Utf8.decode ⟨List.toArray c1⟩ c1p).2) t3) ∧
(((((Utf8.decode ⟨List.toArray c1⟩ c1p).1 : Nat) : Int) == 114) = false → (((((Utf8.decode ⟨List.toArray c1⟩ c1p).1 : Nat) : Int) == 115) = true →
CallE M 140 [(.agg [(.int .i64 i4), (.int .i64 i5)])] (h ++ (AObj.arr [(.int .i64 i1), (.bool i2), (.int .i64 i3), (.int .i64 i4), (.int .i64 i5), (.int .i64 i6), (.int .i64 i7), (.int .i64 i8), (.int .i64 i9), (.int .i64 i10), (.int .i64 i11)] 11 false :: (t1 ++ (AObj.arr [(.str x1), (.str x2)] 2 false :: (t2 ++ (AObj.iter c1 (c1p + (Utf8.decode ⟨List.toArray c1⟩ c1p).2) :: t3)))))) fun rv2 t4 =>
∃ (w1 : List UInt8), rv2 = (.str w1) ∧
((([32] : List UInt8).length + w1.length : Nat) : Int) ≤ 9223372036854775807 ∧
((s_2.length + (([32] : List UInt8) ++ w1).length : Nat) : Int) ≤ 9223372036854775807 ∧
∃ n3, n3 < n2 ∧
I1 n3 ((s_2 ++ (([32] : List UInt8) ++ w1)) : List UInt8) c1 (c1p + (Utf8.decode ⟨List.toArray c1⟩ c1p).2) (t3 ++ t4)) ∧
(((((Utf8.decode ⟨List.toArray c1⟩ c1p).1 : Nat) : Int) == 115) = false → (((((Utf8.decode ⟨List.toArray c1⟩ c1p).1 : Nat) : Int) == 118) = true →
CallE M 140 [(.agg [(.int .i64 i6), (.int .i64 i7)])] (h ++ (AObj.arr [(.int .i64 i1), (.bool i2), (.int .i64 i3), (.int .i64 i4), (.int .i64 i5), (.int .i64 i6), (.int .i64 i7), (.int .i64 i8), (.int .i64 i9), (.int .i64 i10), (.int .i64 i11)] 11 false :: (t1 ++ (AObj.arr [(.str x1), (.str x2)] 2 false :: (t2 ++ (AObj.iter c1 (c1p + (Utf8.decode ⟨List.toArray c1⟩ c1p).2) :: t3)))))) fun rv3 t5 =>
∃ (w2 : List UInt8), rv3 = (.str w2) ∧
((([32] : List UInt8).length + w2.length : Nat) : Int) ≤ 9223372036854775807 ∧
((s_2.length + (([32] : List UInt8) ++ w2).length : Nat) : Int) ≤ 9223372036854775807 ∧
∃ n3, n3 < n2 ∧
I1 n3 ((s_2 ++ (([32] : List UInt8) ++ w2)) : List UInt8) c1 (c1p + (Utf8.decode ⟨List.toArray c1⟩ c1p).2) (t3 ++ t5)) ∧
(((((Utf8.decode ⟨List.toArray c1⟩ c1p).1 : Nat) : Int) == 118) = false → (((((Utf8.decode ⟨List.toArray c1⟩ c1p).1 : Nat) : Int) == 119) = true →
CallE M 140 [(.agg [(.int .i64 i8), (.int .i64 i9)])] (h ++ (AObj.arr [(.int .i64 i1), (.bool i2), (.int .i64 i3), (.int .i64 i4), (.int .i64 i5), (.int .i64 i6), (.int .i64 i7), (.int .i64 i8), (.int .i64 i9), (.int .i64 i10), (.int .i64 i11)] 11 false :: (t1 ++ (AObj.arr [(.str x1), (.str x2)] 2 false :: (t2 ++ (AObj.iter c1 (c1p + (Utf8.decode ⟨List.toArray c1⟩ c1p).2) :: t3)))))) fun rv4 t6 =>
∃ (w3 : List UInt8), rv4 = (.str w3) ∧
((([32] : List UInt8).length + w3.length : Nat) : Int) ≤ 9223372036854775807 ∧
((s_2.length + (([32] : List UInt8) ++ w3).length : Nat) : Int) ≤ 9223372036854775807 ∧
∃ n3, n3 < n2 ∧
I1 n3 ((s_2 ++ (([32] : List UInt8) ++ w3)) : List UInt8) c1 (c1p + (Utf8.decode ⟨List.toArray c1⟩ c1p).2) (t3 ++ t6)) ∧
(((((Utf8.decode ⟨List.toArray c1⟩ c1p).1 : Nat) : Int) == 119) = false → (((((Utf8.decode ⟨List.toArray c1⟩ c1p).1 : Nat) : Int) == 111) = true →
CallE M 105 [(.int .i64 i10)] (h ++ (AObj.arr [(.int .i64 i1), (.bool i2), (.int .i64 i3), (.int .i64 i4), (.int .i64 i5), (.int .i64 i6), (.int .i64 i7), (.int .i64 i8), (.int .i64 i9), (.int .i64 i10), (.int .i64 i11)] 11 false :: (t1 ++ (AObj.arr [(.str x1), (.str x2)] 2 false :: (t2 ++ (AObj.iter c1 (c1p + (Utf8.decode ⟨List.toArray c1⟩ c1p).2) :: t3)))))) fun rv5 t7 =>
∃ (w4 : List UInt8), rv5 = (.str w4) ∧
((([32] : List UInt8).length + w4.length : Nat) : Int) ≤ 9223372036854775807 ∧
((s_2.length + (([32] : List UInt8) ++ w4).length : Nat) : Int) ≤ 9223372036854775807 ∧
∃ n3, n3 < n2 ∧
I1 n3 ((s_2 ++ (([32] : List UInt8) ++ w4)) : List UInt8) c1 (c1p + (Utf8.decode ⟨List.toArray c1⟩ c1p).2) (t3 ++ t7)) ∧
(((((Utf8.decode ⟨List.toArray c1⟩ c1p).1 : Nat) : Int) == 111) = false →
CallE M 105 [(.int .i64 i11)] (h ++ (AObj.arr [(.int .i64 i1), (.bool i2), (.int .i64 i3), (.int .i64 i4), (.int .i64 i5), (.int .i64 i6), (.int .i64 i7), (.int .i64 i8), (.int .i64 i9), (.int .i64 i10), (.int .i64 i11)] 11 false :: (t1 ++ (AObj.arr [(.str x1), (.str x2)] 2 false :: (t2 ++ (AObj.iter c1 (c1p + (Utf8.decode ⟨List.toArray c1⟩ c1p).2) :: t3)))))) fun rv6 t8 =>
∃ (w5 : List UInt8), rv6 = (.str w5) ∧
((([32, 64] : List UInt8).length + w5.length : Nat) : Int) ≤ 9223372036854775807 ∧
((s_2.length + (([32, 64] : List UInt8) ++ w5).length : Nat) : Int) ≤ 9223372036854775807 ∧
∃ n3, n3 < n2 ∧
I1 n3 ((s_2 ++ (([32, 64] : List UInt8) ++ w5)) : List UInt8) c1 (c1p + (Utf8.decode ⟨List.toArray c1⟩ c1p).2) (t3 ++ t8))))))) ∧
(¬ c1p < c1.length → P (.str s_2) (AObj.arr [(.int .i64 i1), (.bool i2), (.int .i64 i3), (.int .i64 i4), (.int .i64 i5), (.int .i64 i6), (.int .i64 i7), (.int .i64 i8), (.int .i64 i9), (.int .i64 i10), (.int .i64 i11)] 11 false :: (t1 ++ (AObj.arr [(.str x1), (.str x2)] 2 false :: (t2 ++ (AObj.iter c1 c1p :: t3)))))))
def D106b (M : Model) (i1 : Int) (i2 : Bool) (i3 : Int) (i4 : Int) (i5 : Int) (i6 : Int) (i7 : Int) (i8 : Int) (i9 : Int) (i10 : Int) (i11 : Int) (h : Heap) (P : AV → Heap → Prop) : Prop :=
CallE M 81 [] (h ++ (AObj.arr [(.int .i64 i1), (.bool i2), (.int .i64 i3), (.int .i64 i4), (.int .i64 i5), (.int .i64 i6), (.int .i64 i7), (.int .i64 i8), (.int .i64 i9), (.int .i64 i10), (.int .i64 i11)] 11 false :: [AObj.arr [(.str []), (.str [])] 2 false])) fun rv1 t1 =>
∃ (l1 : Slc), rv1 = l1.av ∧
(0 ≤ i1 ∧
i1 < (l1.len : Int)) ∧
∃ (x1 : List UInt8) (x2 : List UInt8), rdVar (h ++ (AObj.arr [(.int .i64 i1), (.bool i2), (.int .i64 i3), (.int .i64 i4), (.int .i64 i5), (.int .i64 i6), (.int .i64 i7), (.int .i64 i8), (.int .i64 i9), (.int .i64 i10), (.int .i64 i11)] 11 false :: (AObj.arr [(.str []), (.str [])] 2 false :: t1))) (some 2) l1.b (l1.o + (i1 : Int).toNat * 2) = some (.agg [(.str x1), (.str x2)]) ∧
∃ (J1 : (List UInt8) → Heap → Prop), ((i2 = true → ((x1.length + ([42] : List UInt8).length : Nat) : Int) ≤ 9223372036854775807 ∧
J1 ((x1 ++ [42]) : List UInt8) ([] : Heap)) ∧
(i2 = false → J1 (x1 : List UInt8) ([] : Heap))) ∧
(∀ (s_1 : List UInt8) (t2 : Heap), J1 s_1 t2 → ∃ (I1 : Nat → (List UInt8) → (List UInt8) → Nat → Heap → Prop), (∃ n1, I1 n1 (s_1 : List UInt8) x2 0 ([] : Heap)) ∧
∀ (n2 : Nat) (s_2 : List UInt8) (c1 : List UInt8) (c1p : Nat) (t3 : Heap), I1 n2 s_2 c1 c1p t3 → (c1p < c1.length → (((((Utf8.decode ⟨List.toArray c1⟩ c1p).1 : Nat) : Int) == 114) = true → (0 ≤ i3 ∧
i3 ≤ (IntKind.wrap .i64 (i3 + 1)) ∧
(IntKind.wrap .i64 (i3 + 1)) ≤ ((([97, 98, 99, 100, 101, 102, 103, 104, 105, 106, 107, 108, 120, 121, 116, 110] : List UInt8).length : Nat) : Int)) ∧
((([32] : List UInt8).length + ((([97, 98, 99, 100, 101, 102, 103, 104, 105, 106, 107, 108, 120, 121, 116, 110] : List UInt8).drop (Int.toNat i3)).take (Int.toNat (IntKind.wrap .i64 (i3 + 1)) - Int.toNat i3)).length : Nat) : Int) ≤ 9223372036854775807 ∧
((s_2.length + (([32] : List UInt8) ++ ((([97, 98, 99, 100, 101, 102, 103, 104, 105, 106, 107, 108, 120, 121, 116, 110] : List UInt8).drop (Int.toNat i3)).take (Int.toNat (IntKind.wrap .i64 (i3 + 1)) - Int.toNat i3))).length : Nat) : Int) ≤ 9223372036854775807 ∧
∃ n3, n3 < n2 ∧
I1 n3 ((s_2 ++ (([32] : List UInt8) ++ ((([97, 98, 99, 100, 101, 102, 103, 104, 105, 106, 107, 108, 120, 121, 116, 110] : List UInt8).drop (Int.toNat i3)).take (Int.toNat (IntKind.wrap .i64 (i3 + 1)) - Int.toNat i3)))) : List UInt8) c1 (c1p + (Utf8.decode ⟨List.toArray c1⟩ c1p).2) t3) ∧
(((((Utf8.decode ⟨List.toArray c1⟩ c1p).1 : Nat) : Int) == 114) = false → (((((Utf8.decode ⟨List.toArray c1⟩ c1p).1 : Nat) : Int) == 115) = true →
CallE M 140 [(.agg [(.int .i64 i4), (.int .i64 i5)])] (h ++ (AObj.arr [(.int .i64 i1), (.bool i2), (.int .i64 i3), (.int .i64 i4), (.int .i64 i5), (.int .i64 i6), (.int .i64 i7), (.int .i64 i8), (.int .i64 i9), (.int .i64 i10), (.int .i64 i11)] 11 false :: (AObj.arr [(.str x1), (.str x2)] 2 false :: (t1 ++ (t2 ++ (AObj.iter c1 (c1p + (Utf8.decode ⟨List.toArray c1⟩ c1p).2) :: t3)))))) fun rv2 t4 =>
∃ (w1 : List UInt8), rv2 = (.str w1) ∧
((([32] : List UInt8).length + w1.length : Nat) : Int) ≤ 9223372036854775807 ∧
((s_2.length + (([32] : List UInt8) ++ w1).length : Nat) : Int) ≤ 9223372036854775807 ∧
∃ n3, n3 < n2 ∧
I1 n3 ((s_2 ++ (([32] : List UInt8) ++ w1)) : List UInt8) c1 (c1p + (Utf8.decode ⟨List.toArray c1⟩ c1p).2) (t3 ++ t4)) ∧
(((((Utf8.decode ⟨List.toArray c1⟩ c1p).1 : Nat) : Int) == 115) = false → (((((Utf8.decode ⟨List.toArray c1⟩ c1p).1 : Nat) : Int) == 118) = true →
CallE M 140 [(.agg [(.int .i64 i6), (.int .i64 i7)])] (h ++ (AObj.arr [(.int .i64 i1), (.bool i2), (.int .i64 i3), (.int .i64 i4), (.int .i64 i5), (.int .i64 i6), (.int .i64 i7), (.int .i64 i8), (.int .i64 i9), (.int .i64 i10), (.int .i64 i11)] 11 false :: (AObj.arr [(.str x1), (.str x2)] 2 false :: (t1 ++ (t2 ++ (AObj.iter c1 (c1p + (Utf8.decode ⟨List.toArray c1⟩ c1p).2) :: t3)))))) fun rv3 t5 =>
∃ (w2 : List UInt8), rv3 = (.str w2) ∧
((([32] : List UInt8).length + w2.length : Nat) : Int) ≤ 9223372036854775807 ∧
((s_2.length + (([32] : List UInt8) ++ w2).length : Nat) : Int) ≤ 9223372036854775807 ∧
∃ n3, n3 < n2 ∧
I1 n3 ((s_2 ++ (([32] : List UInt8) ++ w2)) : List UInt8) c1 (c1p + (Utf8.decode ⟨List.toArray c1⟩ c1p).2) (t3 ++ t5)) ∧
(((((Utf8.decode ⟨List.toArray c1⟩ c1p).1 : Nat) : Int) == 118) = false → (((((Utf8.decode ⟨List.toArray c1⟩ c1p).1 : Nat) : Int) == 119) = true →
CallE M 140 [(.agg [(.int .i64 i8), (.int .i64 i9)])] (h ++ (AObj.arr [(.int .i64 i1), (.bool i2), (.int .i64 i3), (.int .i64 i4), (.int .i64 i5), (.int .i64 i6), (.int .i64 i7), (.int .i64 i8), (.int .i64 i9), (.int .i64 i10), (.int .i64 i11)] 11 false :: (AObj.arr [(.str x1), (.str x2)] 2 false :: (t1 ++ (t2 ++ (AObj.iter c1 (c1p + (Utf8.decode ⟨List.toArray c1⟩ c1p).2) :: t3)))))) fun rv4 t6 =>
∃ (w3 : List UInt8), rv4 = (.str w3) ∧
((([32] : List UInt8).length + w3.length : Nat) : Int) ≤ 9223372036854775807 ∧
((s_2.length + (([32] : List UInt8) ++ w3).length : Nat) : Int) ≤ 9223372036854775807 ∧
∃ n3, n3 < n2 ∧
I1 n3 ((s_2 ++ (([32] : List UInt8) ++ w3)) : List UInt8) c1 (c1p + (Utf8.decode ⟨List.toArray c1⟩ c1p).2) (t3 ++ t6)) ∧
(((((Utf8.decode ⟨List.toArray c1⟩ c1p).1 : Nat) : Int) == 119) = false → (((((Utf8.decode ⟨List.toArray c1⟩ c1p).1 : Nat) : Int) == 111) = true →
CallE M 105 [(.int .i64 i10)] (h ++ (AObj.arr [(.int .i64 i1), (.bool i2), (.int .i64 i3), (.int .i64 i4), (.int .i64 i5), (.int .i64 i6), (.int .i64 i7), (.int .i64 i8), (.int .i64 i9), (.int .i64 i10), (.int .i64 i11)] 11 false :: (AObj.arr [(.str x1), (.str x2)] 2 false :: (t1 ++ (t2 ++ (AObj.iter c1 (c1p + (Utf8.decode ⟨List.toArray c1⟩ c1p).2) :: t3)))))) fun rv5 t7 =>
∃ (w4 : List UInt8), rv5 = (.str w4) ∧
((([32] : List UInt8).length + w4.length : Nat) : Int) ≤ 9223372036854775807 ∧
((s_2.length + (([32] : List UInt8) ++ w4).length : Nat) : Int) ≤ 9223372036854775807 ∧
∃ n3, n3 < n2 ∧
I1 n3 ((s_2 ++ (([32] : List UInt8) ++ w4)) : List UInt8) c1 (c1p + (Utf8.decode ⟨List.toArray c1⟩ c1p).2) (t3 ++ t7)) ∧
(((((Utf8.decode ⟨List.toArray c1⟩ c1p).1 : Nat) : Int) == 111) = false →
CallE M 105 [(.int .i64 i11)] (h ++ (AObj.arr [(.int .i64 i1), (.bool i2), (.int .i64 i3), (.int .i64 i4), (.int .i64 i5), (.int .i64 i6), (.int .i64 i7), (.int .i64 i8), (.int .i64 i9), (.int .i64 i10), (.int .i64 i11)] 11 false :: (AObj.arr [(.str x1), (.str x2)] 2 false :: (t1 ++ (t2 ++ (AObj.iter c1 (c1p + (Utf8.decode ⟨List.toArray c1⟩ c1p).2) :: t3)))))) fun rv6 t8 =>
∃ (w5 : List UInt8), rv6 = (.str w5) ∧
((([32, 64] : List UInt8).length + w5.length : Nat) : Int) ≤ 9223372036854775807 ∧
((s_2.length + (([32, 64] : List UInt8) ++ w5).length : Nat) : Int) ≤ 9223372036854775807 ∧
∃ n3, n3 < n2 ∧
I1 n3 ((s_2 ++ (([32, 64] : List UInt8) ++ w5)) : List UInt8) c1 (c1p + (Utf8.decode ⟨List.toArray c1⟩ c1p).2) (t3 ++ t8))))))) ∧
(¬ c1p < c1.length → P (.str s_2) (AObj.arr [(.int .i64 i1), (.bool i2), (.int .i64 i3), (.int .i64 i4), (.int .i64 i5), (.int .i64 i6), (.int .i64 i7), (.int .i64 i8), (.int .i64 i9), (.int .i64 i10), (.int .i64 i11)] 11 false :: (AObj.arr [(.str x1), (.str x2)] 2 false :: (t1 ++ (t2 ++ (AObj.iter c1 c1p :: t3)))))))
theorem d106 {M : Model} (hM : GrowOps M (isG 81)) {i1 : Int} {i2 : Bool} {i3 : Int} {i4 : Int} {i5 : Int} {i6 : Int} {i7 : Int} {i8 : Int} {i9 : Int} {i10 : Int} {i11 : Int} {h : Heap} {P : AV → Heap → Prop} (hF : M.fn 106 = some F106) (ha : D106a M i1 i2 i3 i4 i5 i6 i7 i8 i9 i10 i11 h P) (hb : D106b M i1 i2 i3 i4 i5 i6 i7 i8 i9 i10 i11 h P) : CallE M 106 [(.agg [(.int .i64 i1), (.bool i2), (.int .i64 i3), (.int .i64 i4), (.int .i64 i5), (.int .i64 i6), (.int .i64 i7), (.int .i64 i8), (.int .i64 i9), (.int .i64 i10), (.int .i64 i11)])] h P :=
  callE_of_two hM (i1 := 0) (i2 := 5) (σ := [1, 2, 0, 3, 4, 5, 6]) (τ := [2, 0, 1, 3, 4, 5, 6]) (ς := [1, 2, 5, 0, 3, 4, 6]) (υ := [3, 0, 1, 4, 5, 2, 6]) (hi1 := (rs 4 (.op ⟨.slc, 0, true, 0⟩ (.op ⟨.raw, 0, true, 0⟩ (.op ⟨(.agg [.str, .str]), 3, true, 0⟩ (rs 5 (.join ⟨4, [], [(4, .str)]⟩ (rs 2 (.condS (.op ⟨.raw, 0, true, 0⟩ (.op ⟨.raw, 0, true, 1⟩ (.op ⟨.raw, 0, true, 0⟩ .nil))) .nil)) (rs 3 (.loop ⟨6, [(5, .iter, 0)], [(4, .str)]⟩ (.op2 (.op ⟨.raw, 0, true, 0⟩ (.condL (rs 5 (.condS (rs 7 (.op ⟨.raw, 0, true, 1⟩ (.op ⟨.raw, 0, true, 1⟩ (.op ⟨.raw, 0, true, 0⟩ .nil)))) (rs 2 (.condS (rs 3 (.op ⟨.str, 0, true, 0⟩ (.op ⟨.raw, 0, true, 1⟩ (.op ⟨.raw, 0, true, 1⟩ (.op ⟨.raw, 0, true, 0⟩ .nil))))) (rs 2 (.condS (rs 3 (.op ⟨.str, 0, true, 0⟩ (.op ⟨.raw, 0, true, 1⟩ (.op ⟨.raw, 0, true, 1⟩ (.op ⟨.raw, 0, true, 0⟩ .nil))))) (rs 2 (.condS (rs 3 (.op ⟨.str, 0, true, 0⟩ (.op ⟨.raw, 0, true, 1⟩ (.op ⟨.raw, 0, true, 1⟩ (.op ⟨.raw, 0, true, 0⟩ .nil))))) (rs 2 (.condS (rs 3 (.op ⟨.str, 0, true, 0⟩ (.op ⟨.raw, 0, true, 1⟩ (.op ⟨.raw, 0, true, 1⟩ (.op ⟨.raw, 0, true, 0⟩ .nil))))) (rs 3 (.op ⟨.str, 0, true, 0⟩ (.op ⟨.raw, 0, true, 1⟩ (.op ⟨.raw, 0, true, 1⟩ (.op ⟨.raw, 0, true, 0⟩ .nil))))))))))))))))) (.op ⟨.raw, 0, true, 0⟩ (.condL (rs 2 .nil))))))))))))) (hi2 := (rs 5 (.op ⟨.slc, 0, true, 0⟩ (.op ⟨.raw, 0, true, 0⟩ (.op ⟨(.agg [.str, .str]), 4, true, 0⟩ (rs 4 (.join ⟨4, [], [(4, .str)]⟩ (rs 2 (.condS (.op ⟨.raw, 0, true, 0⟩ (.op ⟨.raw, 0, true, 1⟩ (.op ⟨.raw, 0, true, 0⟩ .nil))) .nil)) (rs 3 (.loop ⟨6, [(5, .iter, 0)], [(4, .str)]⟩ (.op2 (.op ⟨.raw, 0, true, 0⟩ (.condL (rs 5 (.condS (rs 7 (.op ⟨.raw, 0, true, 1⟩ (.op ⟨.raw, 0, true, 1⟩ (.op ⟨.raw, 0, true, 0⟩ .nil)))) (rs 2 (.condS (rs 3 (.op ⟨.str, 0, true, 0⟩ (.op ⟨.raw, 0, true, 1⟩ (.op ⟨.raw, 0, true, 1⟩ (.op ⟨.raw, 0, true, 0⟩ .nil))))) (rs 2 (.condS (rs 3 (.op ⟨.str, 0, true, 0⟩ (.op ⟨.raw, 0, true, 1⟩ (.op ⟨.raw, 0, true, 1⟩ (.op ⟨.raw, 0, true, 0⟩ .nil))))) (rs 2 (.condS (rs 3 (.op ⟨.str, 0, true, 0⟩ (.op ⟨.raw, 0, true, 1⟩ (.op ⟨.raw, 0, true, 1⟩ (.op ⟨.raw, 0, true, 0⟩ .nil))))) (rs 2 (.condS (rs 3 (.op ⟨.str, 0, true, 0⟩ (.op ⟨.raw, 0, true, 1⟩ (.op ⟨.raw, 0, true, 1⟩ (.op ⟨.raw, 0, true, 0⟩ .nil))))) (rs 3 (.op ⟨.str, 0, true, 0⟩ (.op ⟨.raw, 0, true, 1⟩ (.op ⟨.raw, 0, true, 1⟩ (.op ⟨.raw, 0, true, 0⟩ .nil))))))))))))))))) (.op ⟨.raw, 0, true, 0⟩ (.condL (rs 2 .nil))))))))))))) (args := [(.agg [(.av (.int .i64 i1)), (.av (.bool i2)), (.av (.int .i64 i3)), (.av (.int .i64 i4)), (.av (.int .i64 i5)), (.av (.int .i64 i6)), (.av (.int .i64 i7)), (.av (.int .i64 i8)), (.av (.int .i64 i9)), (.av (.int .i64 i10)), (.av (.int .i64 i11))])]) hF rfl (by kernel_rfl) (by kernel_rfl) (by simp [oks, SV.ok]) (Eq.mp (α := D106a M i1 i2 i3 i4 i5 i6 i7 i8 i9 i10 i11 h P) (by kernel_rfl) ha) (Eq.mp (α := D106b M i1 i2 i3 i4 i5 i6 i7 i8 i9 i10 i11 h P) (by kernel_rfl) hb)
def D140 (M : Model) (o1 : Int) (o2 : Int) (h : Heap) (P : AV → Heap → Prop) : Prop :=
((decide (o1 < 0)) = true →
CallE M 105 [(.int .i64 o2)] (h ++ [AObj.arr [(.int .i64 o1), (.int .i64 o2)] 2 false]) fun rv1 t1 =>
∃ (w1 : List UInt8), rv1 = (.str w1) ∧
P (.str w1) (AObj.arr [(.int .i64 o1), (.int .i64 o2)] 2 false :: t1)) ∧
((decide (o1 < 0)) = false → (0 ≤ o1 ∧
o1 ≤ (IntKind.wrap .i64 (o1 + 1)) ∧
(IntKind.wrap .i64 (o1 + 1)) ≤ ((([97, 98, 99, 100, 101, 102, 103, 104, 105, 106, 107, 108, 120, 121, 116, 110] : List UInt8).length : Nat) : Int)) ∧
P (.str ((([97, 98, 99, 100, 101, 102, 103, 104, 105, 106, 107, 108, 120, 121, 116, 110] : List UInt8).drop (Int.toNat o1)).take (Int.toNat (IntKind.wrap .i64 (o1 + 1)) - Int.toNat o1))) [AObj.arr [(.int .i64 o1), (.int .i64 o2)] 2 false])
theorem d140 {M : Model} {o1 : Int} {o2 : Int} {h : Heap} {P : AV → Heap → Prop} (hF : M.fn 140 = some F140) (hd : D140 M o1 o2 h P) : CallE M 140 [(.agg [(.int .i64 o1), (.int .i64 o2)])] h P :=
  callE_of_wp (hi := (rs 5 (.condS (rs 2 (.op ⟨.str, 0, true, 0⟩ (.op ⟨.raw, 0, true, 0⟩ .nil))) (rs 7 .nil)))) (args := [(.agg [(.av (.int .i64 o1)), (.av (.int .i64 o2))])]) hF (by simp [oks, SV.ok]) (Eq.mp (α := D140 M o1 o2 h P) (by kernel_rfl) hd)
def D51 (M : Model) (s : Nat → List UInt8)  (h : Heap) (P : AV → Heap → Prop) : Prop :=
CallE M 36 [(.str (s 0))] h fun rv1 t1 =>
∃ (r1 : List UInt8) (r2 : Int) (r3 : Slc) (r4 : Int) (r5 : Int), rv1 = (.tuple [(.agg [(.str r1), (.int .i64 r2), r3.av]), (.int .i64 r4), (.int .i64 r5)]) ∧
((r5 != 0) = false → ((r4 != 0) = false → ((((r3.len : Nat) : Int) != 1) = false → (0 ≤ (0 : Int) ∧
(0 : Int) < (r3.len : Int)) ∧
∃ (l1 : Slc), rdVar (h ++ (t1 ++ [AObj.arr [(.str r1), (.int .i64 r2), r3.av] 3 false])) none r3.b ((r3.o + (0 : Int).toNat * 2) + 1) = some l1.av ∧
((((l1.len : Nat) : Int) != 3) = true → P (.bool false) (t1 ++ [AObj.arr [(.str r1), (.int .i64 r2), r3.av] 3 false])) ∧
((((l1.len : Nat) : Int) != 3) = false →
CallE M 49 [(.agg [(.str r1), (.int .i64 r2), r3.av])] (h ++ (t1 ++ [AObj.arr [(.str r1), (.int .i64 r2), r3.av] 3 false])) fun rv2 t2 =>
∃ (r6 : List UInt8) (r7 : Int), rv2 = (.tuple [(.str r6), (.int .i64 r7)]) ∧
((r7 == 0) = true → P (.bool (r6 == (s 1))) (t1 ++ (AObj.arr [(.str r1), (.int .i64 r2), r3.av] 3 false :: t2))) ∧
((r7 == 0) = false → P (.bool false) (t1 ++ (AObj.arr [(.str r1), (.int .i64 r2), r3.av] 3 false :: t2))))) ∧
((((r3.len : Nat) : Int) != 1) = true → P (.bool false) (t1 ++ [AObj.arr [(.str r1), (.int .i64 r2), r3.av] 3 false]))) ∧
((r4 != 0) = true → P (.bool false) (t1 ++ [AObj.arr [(.str r1), (.int .i64 r2), r3.av] 3 false]))) ∧
((r5 != 0) = true → P (.bool false) (t1 ++ [AObj.arr [(.str r1), (.int .i64 r2), r3.av] 3 false]))
theorem d51 {M : Model} {s : Nat → List UInt8}  {h : Heap} {P : AV → Heap → Prop} (hF : M.fn 51 = some (F51 s)) (hd : D51 M s  h P) : CallE M 51 [] h P :=
  callE_of_wp (hi := (.op ⟨.raw, 0, true, 0⟩ (.op ⟨(.tup [(.agg [.str, (.int .i64), .slc]), (.int .i64), (.int .i64)]), 0, true, 0⟩ (rs 11 (.split ⟨.raw, 0, true, 0⟩ (rs 3 (.split ⟨.raw, 0, true, 0⟩ (rs 5 (.split ⟨.raw, 0, true, 0⟩ (rs 3 (.op ⟨.slc, 3, true, 0⟩ (rs 3 (.condS (.op ⟨.raw, 0, true, 0⟩ .nil) (.op ⟨.raw, 0, true, 0⟩ (.op ⟨(.tup [.str, (.int .i64)]), 0, true, 0⟩ (rs 8 (.split ⟨.raw, 0, true, 0⟩ (rs 3 .nil) (rs 3 .nil))))))))) (rs 7 (.condL (.op ⟨.raw, 0, true, 0⟩ .nil))))) (rs 13 (.condL (.op ⟨.raw, 0, true, 0⟩ .nil))))) (rs 17 (.condL (.op ⟨.raw, 0, true, 0⟩ .nil)))))))) (args := []) hF (by simp [oks, SV.ok]) (Eq.mp (α := D51 M s  h P) (by kernel_rfl) hd)
def D49 (M : Model) (p1 : List UInt8) (p2 : Int) (p3 : Slc) (h : Heap) (P : AV → Heap → Prop) : Prop :=
CallE M 38 [(.agg [(.str p1), (.int .i64 p2), p3.av])] (h ++ [AObj.arr [(.str p1), (.int .i64 p2), p3.av] 3 false]) fun rv1 t1 =>
∃ (n1 : Int), rv1 = (.int .i64 n1) ∧
((n1 != 0) = true → P (.tuple [(.str []), (.int .i64 n1)]) (AObj.arr [(.str p1), (.int .i64 p2), p3.av] 3 false :: t1)) ∧
((n1 != 0) = false → ((([115, 116, 114, 117, 99, 116, 32] : List UInt8).length + p1.length : Nat) : Int) ≤ 9223372036854775807 ∧
(((([115, 116, 114, 117, 99, 116, 32] : List UInt8) ++ p1).length + ([10, 99, 101, 108, 108, 115, 32] : List UInt8).length : Nat) : Int) ≤ 9223372036854775807 ∧
CallE M 105 [(.int .i64 p2)] (h ++ (AObj.arr [(.str p1), (.int .i64 p2), p3.av] 3 false :: (t1 ++ [AObj.bld 294 .nilslice []]))) fun rv2 t2 =>
∃ (w1 : List UInt8), rv2 = (.str w1) ∧
((((([115, 116, 114, 117, 99, 116, 32] : List UInt8) ++ p1) ++ [10, 99, 101, 108, 108, 115, 32]).length + w1.length : Nat) : Int) ≤ 9223372036854775807 ∧
(((((([115, 116, 114, 117, 99, 116, 32] : List UInt8) ++ p1) ++ [10, 99, 101, 108, 108, 115, 32]) ++ w1).length + ([10] : List UInt8).length : Nat) : Int) ≤ 9223372036854775807 ∧
CallP M 104 [(.ptr (h.length + (1 + t1.length)) 0), (.str ((((([115, 116, 114, 117, 99, 116, 32] : List UInt8) ++ p1) ++ [10, 99, 101, 108, 108, 115, 32]) ++ w1) ++ [10]))] h (AObj.arr [(.str p1), (.int .i64 p2), p3.av] 3 false :: (t1 ++ (AObj.bld 294 .nilslice [] :: t2))) fun rv3 t3 =>
∃ (r1 : Int) (r2n : Bool) (r2t : Nat) (r2 : AV), rv3 = (.tuple [(.int .i64 r1), (cond r2n .niliface (.iface r2t r2))]) ∧
∃ (l1 : Slc), rdVar (h ++ t3) none h.length 2 = some l1.av ∧
∃ (I1 : Nat → Int → Heap → Prop), (∃ n2, I1 n2 (0 : Int) t3) ∧
∀ (n3 : Nat) (x1 : Int) (t4 : Heap), I1 n3 x1 t4 → ((decide (x1 < ((l1.len : Nat) : Int))) = true → (0 ≤ x1 ∧
x1 < (l1.len : Int)) ∧
∃ (x2 : List UInt8) (x3 : Slc), rdVar (h ++ t4) (some 2) l1.b (l1.o + (x1 : Int).toNat * 2) = some (.agg [(.str x2), x3.av]) ∧
((([111, 112, 32] : List UInt8).length + x2.length : Nat) : Int) ≤ 9223372036854775807 ∧
(((([111, 112, 32] : List UInt8) ++ x2).length + ([10] : List UInt8).length : Nat) : Int) ≤ 9223372036854775807 ∧
CallP M 104 [(.ptr (h.length + (1 + t1.length)) 0), (.str ((([111, 112, 32] : List UInt8) ++ x2) ++ [10]))] h (t4 ++ [AObj.arr [(.str x2), x3.av] 2 false]) fun rv4 t5 =>
∃ (r3 : Int) (r4n : Bool) (r4t : Nat) (r4 : AV), rv4 = (.tuple [(.int .i64 r3), (cond r4n .niliface (.iface r4t r4))]) ∧
∃ (l2 : Slc), rdVar (h ++ t5) none (h.length + t4.length) 1 = some l2.av ∧
∃ (I2 : Nat → Int → Heap → Prop), (∃ n5, I2 n5 (0 : Int) t5) ∧
∀ (n6 : Nat) (x4 : Int) (t6 : Heap), I2 n6 x4 t6 → ((decide (x4 < ((l2.len : Nat) : Int))) = true → (0 ≤ x4 ∧
x4 < (l2.len : Int)) ∧
∃ (x5 : Int) (x6 : Bool) (x7 : Int) (x8 : Int) (x9 : Int) (x10 : Int) (x11 : Int) (x12 : Int) (x13 : Int) (x14 : Int) (x15 : Int), rdVar (h ++ t6) (some 11) l2.b (l2.o + (x4 : Int).toNat * 11) = some (.agg [(.int .i64 x5), (.bool x6), (.int .i64 x7), (.int .i64 x8), (.int .i64 x9), (.int .i64 x10), (.int .i64 x11), (.int .i64 x12), (.int .i64 x13), (.int .i64 x14), (.int .i64 x15)]) ∧
CallE M 106 [(.agg [(.int .i64 x5), (.bool x6), (.int .i64 x7), (.int .i64 x8), (.int .i64 x9), (.int .i64 x10), (.int .i64 x11), (.int .i64 x12), (.int .i64 x13), (.int .i64 x14), (.int .i64 x15)])] (h ++ (t6 ++ [AObj.arr [(.int .i64 x5), (.bool x6), (.int .i64 x7), (.int .i64 x8), (.int .i64 x9), (.int .i64 x10), (.int .i64 x11), (.int .i64 x12), (.int .i64 x13), (.int .i64 x14), (.int .i64 x15)] 11 false])) fun rv5 t7 =>
∃ (w2 : List UInt8), rv5 = (.str w2) ∧
((w2.length + ([10] : List UInt8).length : Nat) : Int) ≤ 9223372036854775807 ∧
CallP M 104 [(.ptr (h.length + (1 + t1.length)) 0), (.str (w2 ++ [10]))] h (t6 ++ (AObj.arr [(.int .i64 x5), (.bool x6), (.int .i64 x7), (.int .i64 x8), (.int .i64 x9), (.int .i64 x10), (.int .i64 x11), (.int .i64 x12), (.int .i64 x13), (.int .i64 x14), (.int .i64 x15)] 11 false :: t7)) fun rv6 t8 =>
∃ (r5 : Int) (r6n : Bool) (r6t : Nat) (r6 : AV), rv6 = (.tuple [(.int .i64 r5), (cond r6n .niliface (.iface r6t r6))]) ∧
∃ n7, n7 < n6 ∧
I2 n7 (IntKind.wrap .i64 (x4 + 1)) t8) ∧
((decide (x4 < ((l2.len : Nat) : Int))) = false → ∃ n4, n4 < n3 ∧
I1 n4 (IntKind.wrap .i64 (x1 + 1)) t6)) ∧
((decide (x1 < ((l1.len : Nat) : Int))) = false → CallP M 107 [(.ptr (h.length + (1 + t1.length)) 0)] h t4 fun rv7 t9 =>
∃ (w3 : List UInt8), rv7 = (.str w3) ∧
P (.tuple [(.str w3), (.int .i64 0)]) t9))
set_option maxHeartbeats 2000000 in
theorem d49 {M : Model} (hM : QuietOps M (isQ [105])) {p1 : List UInt8} {p2 : Int} {p3 : Slc} {h : Heap} {P : AV → Heap → Prop} (hF : M.fn 49 = some F49) (hd : D49 M p1 p2 p3 h P) : CallE M 49 [(.agg [(.str p1), (.int .i64 p2), p3.av])] h P :=
  callE_of_wpQ hM (hi := (rs 4 (.op ⟨(.int .i64), 0, true, 0⟩ (rs 3 (.condS (rs 3 .nil) (rs 3 (.op ⟨.raw, 0, true, 1⟩ (.op ⟨.raw, 0, true, 1⟩ (rs 2 (.op ⟨.str, 0, true, 0⟩ (.op ⟨.raw, 0, true, 1⟩ (.op ⟨.raw, 0, true, 1⟩ (.op ⟨(.tup [(.int .i64), .err]), 1, true, 1⟩ (.op ⟨.raw, 0, true, 0⟩ (.op ⟨.slc, 2, true, 0⟩ (rs 2 (.loop ⟨1, [], [(28, (.int .i64))]⟩ (.op ⟨.raw, 0, true, 0⟩ (.condS (.op ⟨.raw, 0, true, 0⟩ (.op ⟨(.agg [.str, .slc]), 2, true, 0⟩ (rs 4 (.op ⟨.raw, 0, true, 1⟩ (.op ⟨.raw, 0, true, 1⟩ (.op ⟨(.tup [(.int .i64), .err]), 1, true, 1⟩ (.op ⟨.raw, 0, true, 0⟩ (.op ⟨.slc, 2, true, 0⟩ (rs 2 (.loop ⟨1, [], [(40, (.int .i64))]⟩ (.op ⟨.raw, 0, true, 0⟩ (.condS (.op ⟨.raw, 0, true, 0⟩ (.op ⟨(.agg [(.int .i64), .bool, (.int .i64), (.int .i64), (.int .i64), (.int .i64), (.int .i64), (.int .i64), (.int .i64), (.int .i64), (.int .i64)]), 2, true, 0⟩ (rs 3 (.op ⟨.str, 0, true, 0⟩ (.op ⟨.raw, 0, true, 1⟩ (.op ⟨(.tup [(.int .i64), .err]), 1, true, 1⟩ (rs 2 .nil))))))) (rs 2 .nil))))))))))))) (.op ⟨.str, 1, true, 1⟩ (rs 2 .nil))))))))))))))))))))) (args := [(.agg [(.av (.str p1)), (.av (.int .i64 p2)), (.slc p3)])]) hF (by simp [oks, SV.ok]) (Eq.mp (α := D49 M p1 p2 p3 h P) (by kernel_rfl) hd)
end Go.Proofs.YtifkphfhadimaaaGreatDoor.Mini

