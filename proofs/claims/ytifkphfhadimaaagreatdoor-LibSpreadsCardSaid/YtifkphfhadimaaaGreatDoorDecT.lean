/- What is left to be shown of functions of the seat: printed by this session's own program; the kernel finds each to be what the residual machine says. -/
import Derived.Test.YtifkphfhadimaaaGreatDoorMiniB
import Derived.Test.YtifkphfhadimaaaGreatDoorAbsG4
import Derived.Test.YtifkphfhadimaaaGreatDoorAbsG6
set_option linter.unusedVariables false
set_option linter.unusedSimpArgs false
set_option maxRecDepth 100000
namespace Go.Proofs.YtifkphfhadimaaaGreatDoor.Mini
open Go.Abs Mini
/-- lockless/locklessref16.Find -/
def D31 (M : Model) (name1 : List UInt8) (h : Heap) (P : AV → Heap → Prop) : Prop :=
CallE M 27 [] (h ++ [AObj.arr [(.str []), (.int .i64 0), .nilslice, (.int .i64 0), (.int .i64 0), (.bool false), (.bool false)] 7 false]) fun rv1 t1 =>
∃ (l1 : Slc), rv1 = l1.av ∧
∃ (I1 : Nat → Int → (List UInt8) → Int → Slc → Int → Int → Bool → Bool → Heap → Prop), (∃ n1, I1 n1 (0 : Int) ([] : List UInt8) (0 : Int) (Slc.mk 0 0 0 true) (0 : Int) (0 : Int) false false ([] : Heap)) ∧
∀ (n2 : Nat) (i1 : Int) (c1 : List UInt8) (c2 : Int) (c3 : Slc) (c4 : Int) (c5 : Int) (c6 : Bool) (c7 : Bool) (t2 : Heap), I1 n2 i1 c1 c2 c3 c4 c5 c6 c7 t2 → ((decide (i1 < ((l1.len : Nat) : Int))) = true → (0 ≤ i1 ∧
i1 < (l1.len : Int)) ∧
∃ (w1 : List UInt8), rdVar (h ++ (AObj.arr [(.str c1), (.int .i64 c2), c3.av, (.int .i64 c4), (.int .i64 c5), (.bool c6), (.bool c7)] 7 false :: (t1 ++ t2))) none l1.b (l1.o + (i1 : Int).toNat * 7) = some (.str w1) ∧
((w1 == name1) = true → (0 ≤ i1 ∧
i1 < (l1.len : Int)) ∧
∃ (x1 : List UInt8) (x2 : Int) (x3 : Slc) (x4 : Int) (x5 : Int) (x6 : Bool) (x7 : Bool), rdVar (h ++ (AObj.arr [(.str c1), (.int .i64 c2), c3.av, (.int .i64 c4), (.int .i64 c5), (.bool c6), (.bool c7)] 7 false :: (t1 ++ t2))) (some 7) l1.b (l1.o + (i1 : Int).toNat * 7) = some (.agg [(.str x1), (.int .i64 x2), x3.av, (.int .i64 x4), (.int .i64 x5), (.bool x6), (.bool x7)]) ∧
P (.tuple [(.agg [(.str x1), (.int .i64 x2), x3.av, (.int .i64 x4), (.int .i64 x5), (.bool x6), (.bool x7)]), (.bool true)]) (AObj.arr [(.str x1), (.int .i64 x2), x3.av, (.int .i64 x4), (.int .i64 x5), (.bool x6), (.bool x7)] 7 false :: (t1 ++ t2))) ∧
((w1 == name1) = false → ∃ n3, n3 < n2 ∧
I1 n3 (IntKind.wrap .i64 (i1 + 1)) (c1 : List UInt8) c2 c3 c4 c5 c6 c7 t2)) ∧
((decide (i1 < ((l1.len : Nat) : Int))) = false → P (.tuple [(.agg [(.str []), (.int .i64 0), .nilslice, (.int .i64 0), (.int .i64 0), (.bool false), (.bool false)]), (.bool false)]) (AObj.arr [(.str []), (.int .i64 0), .nilslice, (.int .i64 0), (.int .i64 0), (.bool false), (.bool false)] 7 false :: (t1 ++ t2)))
theorem d31 {M : Model} {name1 : List UInt8} {h : Heap} {P : AV → Heap → Prop} (hF : M.fn 31 = some F31) (hd : D31 M name1 h P) : CallE M 31 [(.str name1)] h P :=
  callE_of_wp (hi := (.op ⟨.raw, 0, true, 0⟩ (.op ⟨.raw, 0, true, 0⟩ (.op ⟨.slc, 0, true, 0⟩ (.op ⟨.raw, 0, true, 0⟩ (.op ⟨.raw, 0, true, 0⟩ (.loop ⟨3, [(1, (.agg [.str, (.int .i64), .slc, (.int .i64), (.int .i64), .bool, .bool]), 7)], [(5, (.int .i64))]⟩ (.op ⟨.raw, 0, true, 0⟩ (.op ⟨.raw, 0, true, 0⟩ (.op ⟨.raw, 0, true, 0⟩ (.op ⟨.raw, 0, true, 0⟩ (.condS (.op ⟨.raw, 0, true, 0⟩ (.op ⟨.raw, 0, true, 0⟩ (.op ⟨.raw, 0, true, 0⟩ (.op ⟨.raw, 0, true, 0⟩ (.op ⟨.str, 4, true, 0⟩ (.op ⟨.raw, 0, true, 0⟩ (.op ⟨.raw, 0, true, 0⟩ (.condS (.op ⟨.raw, 0, true, 0⟩ (.op ⟨.raw, 0, true, 0⟩ (.op ⟨.raw, 0, true, 0⟩ (.op ⟨(.agg [.str, (.int .i64), .slc, (.int .i64), (.int .i64), .bool, .bool]), 4, true, 0⟩ (.op ⟨.raw, 0, true, 0⟩ (.op ⟨.raw, 0, true, 0⟩ .nil)))))) (.op ⟨.raw, 0, true, 0⟩ (.op ⟨.raw, 0, true, 0⟩ (.op ⟨.raw, 0, true, 0⟩ .nil))))))))))) (.op ⟨.raw, 0, true, 0⟩ (.op ⟨.raw, 0, true, 0⟩ (.op ⟨.raw, 0, true, 0⟩ .nil))))))))))))))) (args := [(.av (.str name1))]) hF (by simp [oks, SV.ok]) (Eq.mp (α := D31 M name1 h P) (by kernel_rfl) hd)
/-- lockless/lib.find -/
def D74 (M : Model) (name1 : List UInt8) (h : Heap) (P : AV → Heap → Prop) : Prop :=
CallE M 75 [] (h ++ (AObj.arr [(.str name1)] 1 false :: [AObj.arr [(.str []), (.str []), (.int .i64 0), .nilslice, (.int .i64 0), (.int .i64 0), (.bool false), (.bool false), (.bool false)] 9 false])) fun rv1 t1 =>
∃ (l1 : Slc), rv1 = l1.av ∧
CallE M 124 [l1.av, (.fn 125 [(.ptr h.length 0)])] (h ++ (AObj.arr [(.str name1)] 1 false :: (AObj.arr [(.str []), (.str []), (.int .i64 0), .nilslice, (.int .i64 0), (.int .i64 0), (.bool false), (.bool false), (.bool false)] 9 false :: t1))) fun rv2 t2 =>
∃ (n1 : Int), rv2 = (.int .i64 n1) ∧
((decide (n1 < 0)) = true → P (.tuple [(.agg [(.str []), (.str []), (.int .i64 0), .nilslice, (.int .i64 0), (.int .i64 0), (.bool false), (.bool false), (.bool false)]), (.bool false)]) (AObj.arr [(.str name1)] 1 false :: (AObj.arr [(.str []), (.str []), (.int .i64 0), .nilslice, (.int .i64 0), (.int .i64 0), (.bool false), (.bool false), (.bool false)] 9 false :: (t1 ++ t2)))) ∧
((decide (n1 < 0)) = false → (0 ≤ n1 ∧
n1 < (l1.len : Int)) ∧
∃ (x1 : List UInt8) (x2 : List UInt8) (x3 : Int) (x4 : Slc) (x5 : Int) (x6 : Int) (x7 : Bool) (x8 : Bool) (x9 : Bool), rdVar (h ++ (AObj.arr [(.str name1)] 1 false :: (AObj.arr [(.str []), (.str []), (.int .i64 0), .nilslice, (.int .i64 0), (.int .i64 0), (.bool false), (.bool false), (.bool false)] 9 false :: (t1 ++ t2)))) (some 9) l1.b (l1.o + (n1 : Int).toNat * 9) = some (.agg [(.str x1), (.str x2), (.int .i64 x3), x4.av, (.int .i64 x5), (.int .i64 x6), (.bool x7), (.bool x8), (.bool x9)]) ∧
P (.tuple [(.agg [(.str x1), (.str x2), (.int .i64 x3), x4.av, (.int .i64 x5), (.int .i64 x6), (.bool x7), (.bool x8), (.bool x9)]), (.bool true)]) (AObj.arr [(.str name1)] 1 false :: (AObj.arr [(.str x1), (.str x2), (.int .i64 x3), x4.av, (.int .i64 x5), (.int .i64 x6), (.bool x7), (.bool x8), (.bool x9)] 9 false :: (t1 ++ t2))))
theorem d74 {M : Model} {name1 : List UInt8} {h : Heap} {P : AV → Heap → Prop} (hF : M.fn 74 = some F74) (hd : D74 M name1 h P) : CallE M 74 [(.str name1)] h P :=
  callE_of_wp (hi := (.op ⟨.raw, 0, true, 0⟩ (.op ⟨.raw, 0, true, 0⟩ (.op ⟨.raw, 0, true, 0⟩ (.op ⟨.slc, 0, true, 0⟩ (.op ⟨.raw, 0, true, 0⟩ (.op ⟨.raw, 0, true, 0⟩ (.op ⟨.raw, 0, true, 0⟩ (.op ⟨(.int .i64), 0, true, 0⟩ (.op ⟨.raw, 0, true, 0⟩ (.op ⟨.raw, 0, true, 0⟩ (.op ⟨.raw, 0, true, 0⟩ (.condS (.op ⟨.raw, 0, true, 0⟩ (.op ⟨.raw, 0, true, 0⟩ (.op ⟨.raw, 0, true, 0⟩ .nil))) (.op ⟨.raw, 0, true, 0⟩ (.op ⟨.raw, 0, true, 0⟩ (.op ⟨.raw, 0, true, 0⟩ (.op ⟨(.agg [.str, .str, (.int .i64), .slc, (.int .i64), (.int .i64), .bool, .bool, .bool]), 5, true, 0⟩ (.op ⟨.raw, 0, true, 0⟩ (.op ⟨.raw, 0, true, 0⟩ .nil))))))))))))))))))) (args := [(.av (.str name1))]) hF (by simp [oks, SV.ok]) (Eq.mp (α := D74 M name1 h P) (by kernel_rfl) hd)
/-- slices.IndexFunc[[]lockless/lib.entry,lockless/lib.entry] -/
def D124 (M : Model) (s_1 : Slc) (f1 : Nat) (f1c : List AV) (h : Heap) (P : AV → Heap → Prop) : Prop :=
∃ (I1 : Nat → Int → Heap → Prop), (∃ n1, I1 n1 (0 : Int) ([] : Heap)) ∧
∀ (n2 : Nat) (x1 : Int) (t1 : Heap), I1 n2 x1 t1 → ((decide (x1 < ((s_1.len : Nat) : Int))) = true → (0 ≤ x1 ∧
x1 < (s_1.len : Int)) ∧
∃ (x2 : List UInt8) (x3 : List UInt8) (x4 : Int) (x5 : Slc) (x6 : Int) (x7 : Int) (x8 : Bool) (x9 : Bool) (x10 : Bool), rdVar h (some 9) s_1.b (s_1.o + (x1 : Int).toNat * 9) = some (.agg [(.str x2), (.str x3), (.int .i64 x4), x5.av, (.int .i64 x6), (.int .i64 x7), (.bool x8), (.bool x9), (.bool x10)]) ∧
CallE M f1 ([(.agg [(.str x2), (.str x3), (.int .i64 x4), x5.av, (.int .i64 x6), (.int .i64 x7), (.bool x8), (.bool x9), (.bool x10)])] ++ f1c) (h ++ t1) fun rv1 t2 =>
∃ (b1 : Bool), rv1 = (.bool b1) ∧
(b1 = true → P (.int .i64 x1) (t1 ++ t2)) ∧
(b1 = false → ∃ n3, n3 < n2 ∧
I1 n3 (IntKind.wrap .i64 (x1 + 1)) (t1 ++ t2))) ∧
((decide (x1 < ((s_1.len : Nat) : Int))) = false → P (.int .i64 (-1)) t1)
theorem d124 {M : Model} {s_1 : Slc} {f1 : Nat} {f1c : List AV} {h : Heap} {P : AV → Heap → Prop} (hF : M.fn 124 = some F124) (hd : D124 M s_1 f1 f1c h P) : CallE M 124 [s_1.av, (.fn f1 f1c)] h P :=
  callE_of_wp (hi := (.op ⟨.raw, 0, true, 0⟩ (.op ⟨.raw, 0, true, 0⟩ (.op ⟨.raw, 0, true, 0⟩ (.op ⟨.raw, 0, true, 0⟩ (.loop ⟨1, [], [(8, (.int .i64))]⟩ (.op ⟨.raw, 0, true, 0⟩ (.condS (.op ⟨.raw, 0, true, 0⟩ (.op ⟨.raw, 0, true, 0⟩ (.op ⟨.raw, 0, true, 0⟩ (.op ⟨.raw, 0, true, 0⟩ (.op ⟨.raw, 0, true, 0⟩ (.op ⟨.raw, 0, true, 0⟩ (.op ⟨(.agg [.str, .str, (.int .i64), .slc, (.int .i64), (.int .i64), .bool, .bool, .bool]), 1, true, 0⟩ (.op ⟨.bool, 0, true, 0⟩ (.condS (.op ⟨.raw, 0, true, 0⟩ (.op ⟨.raw, 0, true, 0⟩ .nil)) (.op ⟨.raw, 0, true, 0⟩ (.op ⟨.raw, 0, true, 0⟩ .nil))))))))))) (.op ⟨.raw, 0, true, 0⟩ .nil))))))))) (args := [(.slc s_1), (.av (.fn f1 f1c))]) hF (by simp [oks, SV.ok]) (Eq.mp (α := D124 M s_1 f1 f1c h P) (by kernel_rfl) hd)
/-- lockless/lib.find$1 -/
def D125 (M : Model) (e_1 : List UInt8) (e_2 : List UInt8) (e_3 : Int) (e_4 : Slc) (e_5 : Int) (e_6 : Int) (e_7 : Bool) (e_8 : Bool) (e_9 : Bool) (a11 : Nat) (a11o : Nat) (h : Heap) (P : AV → Heap → Prop) : Prop :=
∃ (w1 : List UInt8), rdVar h none a11 a11o = some (.str w1) ∧
P (.bool (e_1 == w1)) [AObj.arr [(.str e_1), (.str e_2), (.int .i64 e_3), e_4.av, (.int .i64 e_5), (.int .i64 e_6), (.bool e_7), (.bool e_8), (.bool e_9)] 9 false]
theorem d125 {M : Model} {e_1 : List UInt8} {e_2 : List UInt8} {e_3 : Int} {e_4 : Slc} {e_5 : Int} {e_6 : Int} {e_7 : Bool} {e_8 : Bool} {e_9 : Bool} {a11 : Nat} {a11o : Nat} {h : Heap} {P : AV → Heap → Prop} (hF : M.fn 125 = some F125) (hd : D125 M e_1 e_2 e_3 e_4 e_5 e_6 e_7 e_8 e_9 a11 a11o h P) : CallE M 125 [(.agg [(.str e_1), (.str e_2), (.int .i64 e_3), e_4.av, (.int .i64 e_5), (.int .i64 e_6), (.bool e_7), (.bool e_8), (.bool e_9)]), (.ptr a11 a11o)] h P :=
  callE_of_wp (hi := (.op ⟨.raw, 0, true, 0⟩ (.op ⟨.raw, 0, true, 0⟩ (.op ⟨.raw, 0, true, 0⟩ (.op ⟨.raw, 0, true, 0⟩ (.op ⟨.str, 1, true, 0⟩ (.op ⟨.raw, 0, true, 0⟩ (.op ⟨.raw, 0, true, 0⟩ .nil)))))))) (args := [(.agg [(.av (.str e_1)), (.av (.str e_2)), (.av (.int .i64 e_3)), (.slc e_4), (.av (.int .i64 e_5)), (.av (.int .i64 e_6)), (.av (.bool e_7)), (.av (.bool e_8)), (.av (.bool e_9))]), (.av (.ptr a11 a11o))]) hF (by simp [oks, SV.ok]) (Eq.mp (α := D125 M e_1 e_2 e_3 e_4 e_5 e_6 e_7 e_8 e_9 a11 a11o h P) (by kernel_rfl) hd)
end Go.Proofs.YtifkphfhadimaaaGreatDoor.Mini

