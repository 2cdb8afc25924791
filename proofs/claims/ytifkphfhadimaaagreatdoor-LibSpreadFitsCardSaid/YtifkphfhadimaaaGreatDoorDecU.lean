/- What is left to be shown of functions of the seat: printed by this session's own program; the kernel finds each to be what the residual machine says. -/
import Derived.Test.YtifkphfhadimaaaGreatDoorMiniC
import Derived.Test.YtifkphfhadimaaaGreatDoorAbsG4
import Derived.Test.YtifkphfhadimaaaGreatDoorAbsG7
set_option linter.unusedVariables false
set_option linter.unusedSimpArgs false
set_option maxRecDepth 100000
namespace Go.Proofs.YtifkphfhadimaaaGreatDoor.Mini
open Go.Abs Mini
/-- lockless/lib.Fits -/
def D39 (M : Model) (name1 : List UInt8) (script1 : Slc) (h : Heap) (P : AV → Heap → Prop) : Prop :=
CallE M 74 [(.str name1)] h fun rv1 t1 =>
∃ (r1 : List UInt8) (r2 : List UInt8) (r3 : Int) (r4 : Slc) (r5 : Int) (r6 : Int) (r7 : Bool) (r8 : Bool) (r9 : Bool) (r10 : Bool), rv1 = (.tuple [(.agg [(.str r1), (.str r2), (.int .i64 r3), r4.av, (.int .i64 r5), (.int .i64 r6), (.bool r7), (.bool r8), (.bool r9)]), (.bool r10)]) ∧
((!r10) = true → P (.tuple [(.bool false), (.int .i64 5)]) (t1 ++ [AObj.arr [(.str r1), (.str r2), (.int .i64 r3), r4.av, (.int .i64 r5), (.int .i64 r6), (.bool r7), (.bool r8), (.bool r9)] 9 false])) ∧
((!r10) = false → ∃ (I1 : Nat → Int → Int → Heap → Prop), (∃ n1, I1 n1 (0 : Int) (0 : Int) ([] : Heap)) ∧
∀ (n3 : Nat) (n2 : Int) (x1 : Int) (t2 : Heap), I1 n3 n2 x1 t2 → ((decide (x1 < ((script1.len : Nat) : Int))) = true → (0 ≤ x1 ∧
x1 < (script1.len : Int)) ∧
∃ (l1 : Slc), rdVar h none script1.b (script1.o + (x1 : Int).toNat * 1) = some l1.av ∧
CallE M 95 [l1.av, (.fn 96 [(.ptr (h.length + t1.length) 0), (.ptr (h.length + (t1.length + (1 + t2.length))) 0)])] (h ++ (t1 ++ (AObj.arr [(.str r1), (.str r2), (.int .i64 r3), r4.av, (.int .i64 r5), (.int .i64 r6), (.bool r7), (.bool r8), (.bool r9)] 9 false :: (t2 ++ [AObj.arr [(.int .i64 x1)] 1 false])))) fun rv2 t3 =>
∃ (b1 : Bool), rv2 = (.bool b1) ∧
(b1 = true → P (.tuple [(.bool false), (.int .i64 0)]) (t1 ++ (AObj.arr [(.str r1), (.str r2), (.int .i64 r3), r4.av, (.int .i64 r5), (.int .i64 r6), (.bool r7), (.bool r8), (.bool r9)] 9 false :: (t2 ++ (AObj.arr [(.int .i64 x1)] 1 false :: t3))))) ∧
(b1 = false → ∃ n4, n4 < n3 ∧
I1 n4 (IntKind.wrap .i64 (n2 + ((l1.len : Nat) : Int))) (IntKind.wrap .i64 (x1 + 1)) (t2 ++ (AObj.arr [(.int .i64 x1)] 1 false :: t3)))) ∧
((decide (x1 < ((script1.len : Nat) : Int))) = false → ((decide (((script1.len : Nat) : Int) ≥ 1)) = true → ((decide (((script1.len : Nat) : Int) ≤ 4)) = true → P (.tuple [(.bool (decide (n2 ≤ 12))), (.int .i64 0)]) (t1 ++ (AObj.arr [(.str r1), (.str r2), (.int .i64 r3), r4.av, (.int .i64 r5), (.int .i64 r6), (.bool r7), (.bool r8), (.bool r9)] 9 false :: t2))) ∧
((decide (((script1.len : Nat) : Int) ≤ 4)) = false → P (.tuple [(.bool false), (.int .i64 0)]) (t1 ++ (AObj.arr [(.str r1), (.str r2), (.int .i64 r3), r4.av, (.int .i64 r5), (.int .i64 r6), (.bool r7), (.bool r8), (.bool r9)] 9 false :: t2)))) ∧
((decide (((script1.len : Nat) : Int) ≥ 1)) = false → P (.tuple [(.bool false), (.int .i64 0)]) (t1 ++ (AObj.arr [(.str r1), (.str r2), (.int .i64 r3), r4.av, (.int .i64 r5), (.int .i64 r6), (.bool r7), (.bool r8), (.bool r9)] 9 false :: t2)))))
theorem d39 {M : Model} {name1 : List UInt8} {script1 : Slc} {h : Heap} {P : AV → Heap → Prop} (hF : M.fn 39 = some F39) (hd : D39 M name1 script1 h P) : CallE M 39 [(.str name1), script1.av] h P :=
  callE_of_wp (hi := (rs 3 (.op ⟨(.tup [(.agg [.str, .str, (.int .i64), .slc, (.int .i64), (.int .i64), .bool, .bool, .bool]), .bool]), 0, true, 0⟩ (rs 8 (.condS (rs 2 .nil) (rs 4 (.loop ⟨3, [], [(8, (.int .i64)), (20, (.int .i64))]⟩ (.op ⟨.raw, 0, true, 0⟩ (.condS (rs 2 (.op ⟨.slc, 1, true, 0⟩ (rs 10 (.op ⟨.bool, 0, true, 0⟩ (.condS (rs 2 .nil) (rs 2 .nil)))))) (rs 4 (.split ⟨.raw, 0, true, 0⟩ (rs 4 (.split ⟨.raw, 0, true, 0⟩ (rs 4 .nil) (rs 4 .nil))) (rs 9 .nil)))))))))))) (args := [(.av (.str name1)), (.slc script1)]) hF (by simp [oks, SV.ok]) (Eq.mp (α := D39 M name1 script1 h P) (by kernel_rfl) hd)
/-- slices.ContainsFunc[[]lockless/api.Call,lockless/api.Call] -/
def D95 (M : Model) (s_1 : Slc) (f1 : Nat) (f1c : List AV) (h : Heap) (P : AV → Heap → Prop) : Prop :=
CallE M 135 [s_1.av, (.fn f1 f1c)] h fun rv1 t1 =>
∃ (n1 : Int), rv1 = (.int .i64 n1) ∧
P (.bool (decide (n1 ≥ 0))) t1
theorem d95 {M : Model} {s_1 : Slc} {f1 : Nat} {f1c : List AV} {h : Heap} {P : AV → Heap → Prop} (hF : M.fn 95 = some F95) (hd : D95 M s_1 f1 f1c h P) : CallE M 95 [s_1.av, (.fn f1 f1c)] h P :=
  callE_of_wp (hi := (rs 3 (.op ⟨(.int .i64), 0, true, 0⟩ (rs 2 .nil)))) (args := [(.slc s_1), (.av (.fn f1 f1c))]) hF (by simp [oks, SV.ok]) (Eq.mp (α := D95 M s_1 f1 f1c h P) (by kernel_rfl) hd)
/-- lockless/lib.Fits$1 -/
def D96 (M : Model) (c1 : List UInt8) (c2 : Int) (c3 : Int) (a11 : Nat) (a11o : Nat) (a21 : Nat) (a21o : Nat) (h : Heap) (P : AV → Heap → Prop) : Prop :=
∃ (x1 : List UInt8) (x2 : List UInt8) (x3 : Int) (x4 : Slc) (x5 : Int) (x6 : Int) (x7 : Bool) (x8 : Bool) (x9 : Bool), rdVar h (some 9) a11 a11o = some (.agg [(.str x1), (.str x2), (.int .i64 x3), x4.av, (.int .i64 x5), (.int .i64 x6), (.bool x7), (.bool x8), (.bool x9)]) ∧
∃ (n1 : Int), rdVar h none a21 a21o = some (.int .i64 n1) ∧
CallE M 97 [(.agg [(.str x1), (.str x2), (.int .i64 x3), x4.av, (.int .i64 x5), (.int .i64 x6), (.bool x7), (.bool x8), (.bool x9)]), (.int .i64 n1), (.agg [(.str c1), (.int .i64 c2), (.int .i64 c3)])] (h ++ [AObj.arr [(.str c1), (.int .i64 c2), (.int .i64 c3)] 3 false]) fun rv1 t1 =>
∃ (b1 : Bool), rv1 = (.bool b1) ∧
P (.bool (!b1)) (AObj.arr [(.str c1), (.int .i64 c2), (.int .i64 c3)] 3 false :: t1)
theorem d96 {M : Model} {c1 : List UInt8} {c2 : Int} {c3 : Int} {a11 : Nat} {a11o : Nat} {a21 : Nat} {a21o : Nat} {h : Heap} {P : AV → Heap → Prop} (hF : M.fn 96 = some F96) (hd : D96 M c1 c2 c3 a11 a11o a21 a21o h P) : CallE M 96 [(.agg [(.str c1), (.int .i64 c2), (.int .i64 c3)]), (.ptr a11 a11o), (.ptr a21 a21o)] h P :=
  callE_of_wp (hi := (rs 2 (.op ⟨(.agg [.str, .str, (.int .i64), .slc, (.int .i64), (.int .i64), .bool, .bool, .bool]), 1, true, 0⟩ (.op ⟨(.int .i64), 1, true, 0⟩ (.op ⟨.raw, 0, true, 0⟩ (.op ⟨.bool, 0, true, 0⟩ (rs 2 .nil))))))) (args := [(.agg [(.av (.str c1)), (.av (.int .i64 c2)), (.av (.int .i64 c3))]), (.av (.ptr a11 a11o)), (.av (.ptr a21 a21o))]) hF (by simp [oks, SV.ok]) (Eq.mp (α := D96 M c1 c2 c3 a11 a11o a21 a21o h P) (by kernel_rfl) hd)
/-- (lockless/lib.entry).fits -/
def D97 (M : Model) (e_1 : List UInt8) (e_2 : List UInt8) (e_3 : Int) (e_4 : Slc) (e_5 : Int) (e_6 : Int) (e_7 : Bool) (e_8 : Bool) (e_9 : Bool) (thread1 : Int) (c1 : List UInt8) (c2 : Int) (c3 : Int) (h : Heap) (P : AV → Heap → Prop) : Prop :=
CallE M 76 [e_4.av, (.fn 136 [(.ptr (h.length + 1) 0)])] (h ++ (AObj.arr [(.str e_1), (.str e_2), (.int .i64 e_3), e_4.av, (.int .i64 e_5), (.int .i64 e_6), (.bool e_7), (.bool e_8), (.bool e_9)] 9 false :: [AObj.arr [(.str c1), (.int .i64 c2), (.int .i64 c3)] 3 false])) fun rv1 t1 =>
∃ (n1 : Int), rv1 = (.int .i64 n1) ∧
((decide (n1 < 0)) = false →
CallE M 101 [(.agg [(.str e_1), (.str e_2), (.int .i64 e_3), e_4.av, (.int .i64 e_5), (.int .i64 e_6), (.bool e_7), (.bool e_8), (.bool e_9)]), (.int .i64 thread1), (.str c1)] (h ++ (AObj.arr [(.str e_1), (.str e_2), (.int .i64 e_3), e_4.av, (.int .i64 e_5), (.int .i64 e_6), (.bool e_7), (.bool e_8), (.bool e_9)] 9 false :: (AObj.arr [(.str c1), (.int .i64 c2), (.int .i64 c3)] 3 false :: t1))) fun rv2 t2 =>
∃ (b1 : Bool), rv2 = (.bool b1) ∧
((!b1) = true → P (.bool false) (AObj.arr [(.str e_1), (.str e_2), (.int .i64 e_3), e_4.av, (.int .i64 e_5), (.int .i64 e_6), (.bool e_7), (.bool e_8), (.bool e_9)] 9 false :: (AObj.arr [(.str c1), (.int .i64 c2), (.int .i64 c3)] 3 false :: (t1 ++ t2)))) ∧
((!b1) = false → (0 ≤ n1 ∧
n1 < (e_4.len : Int)) ∧
∃ (n2 : Int), rdVar h none e_4.b ((e_4.o + (n1 : Int).toNat * 2) + 1) = some (.int .i64 n2) ∧
CallE M 137 [(.int .i64 c2), (.bool (decide (n2 > 0))), (.ptr h.length 0)] (h ++ (AObj.arr [(.str e_1), (.str e_2), (.int .i64 e_3), e_4.av, (.int .i64 e_5), (.int .i64 e_6), (.bool e_7), (.bool e_8), (.bool e_9)] 9 false :: (AObj.arr [(.str c1), (.int .i64 c2), (.int .i64 c3)] 3 false :: (t1 ++ t2)))) fun rv3 t3 =>
∃ (b2 : Bool), rv3 = (.bool b2) ∧
(b2 = true → (0 ≤ n1 ∧
n1 < (e_4.len : Int)) ∧
∃ (n3 : Int), rdVar h none e_4.b ((e_4.o + (n1 : Int).toNat * 2) + 1) = some (.int .i64 n3) ∧
CallE M 137 [(.int .i64 c3), (.bool (decide (n3 > 1))), (.ptr h.length 0)] (h ++ (AObj.arr [(.str e_1), (.str e_2), (.int .i64 e_3), e_4.av, (.int .i64 e_5), (.int .i64 e_6), (.bool e_7), (.bool e_8), (.bool e_9)] 9 false :: (AObj.arr [(.str c1), (.int .i64 c2), (.int .i64 c3)] 3 false :: (t1 ++ (t2 ++ t3))))) fun rv4 t4 =>
∃ (b3 : Bool), rv4 = (.bool b3) ∧
P (.bool b3) (AObj.arr [(.str e_1), (.str e_2), (.int .i64 e_3), e_4.av, (.int .i64 e_5), (.int .i64 e_6), (.bool e_7), (.bool e_8), (.bool e_9)] 9 false :: (AObj.arr [(.str c1), (.int .i64 c2), (.int .i64 c3)] 3 false :: (t1 ++ (t2 ++ (t3 ++ t4)))))) ∧
(b2 = false → P (.bool false) (AObj.arr [(.str e_1), (.str e_2), (.int .i64 e_3), e_4.av, (.int .i64 e_5), (.int .i64 e_6), (.bool e_7), (.bool e_8), (.bool e_9)] 9 false :: (AObj.arr [(.str c1), (.int .i64 c2), (.int .i64 c3)] 3 false :: (t1 ++ (t2 ++ t3))))))) ∧
((decide (n1 < 0)) = true → P (.bool false) (AObj.arr [(.str e_1), (.str e_2), (.int .i64 e_3), e_4.av, (.int .i64 e_5), (.int .i64 e_6), (.bool e_7), (.bool e_8), (.bool e_9)] 9 false :: (AObj.arr [(.str c1), (.int .i64 c2), (.int .i64 c3)] 3 false :: t1)))
theorem d97 {M : Model} {e_1 : List UInt8} {e_2 : List UInt8} {e_3 : Int} {e_4 : Slc} {e_5 : Int} {e_6 : Int} {e_7 : Bool} {e_8 : Bool} {e_9 : Bool} {thread1 : Int} {c1 : List UInt8} {c2 : Int} {c3 : Int} {h : Heap} {P : AV → Heap → Prop} (hF : M.fn 97 = some F97) (hd : D97 M e_1 e_2 e_3 e_4 e_5 e_6 e_7 e_8 e_9 thread1 c1 c2 c3 h P) : CallE M 97 [(.agg [(.str e_1), (.str e_2), (.int .i64 e_3), e_4.av, (.int .i64 e_5), (.int .i64 e_6), (.bool e_7), (.bool e_8), (.bool e_9)]), (.int .i64 thread1), (.agg [(.str c1), (.int .i64 c2), (.int .i64 c3)])] h P :=
  callE_of_wp (hi := (rs 6 (.op ⟨(.int .i64), 0, true, 0⟩ (rs 4 (.split ⟨.raw, 0, true, 0⟩ (rs 3 (.op ⟨.bool, 0, true, 0⟩ (rs 2 (.condS (.op ⟨.raw, 0, true, 0⟩ .nil) (rs 10 (.op ⟨(.int .i64), 1, true, 0⟩ (.op ⟨.raw, 0, true, 0⟩ (.op ⟨.bool, 0, true, 0⟩ (.op ⟨.raw, 0, true, 0⟩ (.split ⟨.raw, 0, true, 0⟩ (rs 7 (.op ⟨(.int .i64), 1, true, 0⟩ (.op ⟨.raw, 0, true, 0⟩ (.op ⟨.bool, 0, true, 0⟩ (rs 2 .nil))))) (rs 12 .nil))))))))))) (rs 6 (.condL (.op ⟨.raw, 0, true, 0⟩ .nil)))))))) (args := [(.agg [(.av (.str e_1)), (.av (.str e_2)), (.av (.int .i64 e_3)), (.slc e_4), (.av (.int .i64 e_5)), (.av (.int .i64 e_6)), (.av (.bool e_7)), (.av (.bool e_8)), (.av (.bool e_9))]), (.av (.int .i64 thread1)), (.agg [(.av (.str c1)), (.av (.int .i64 c2)), (.av (.int .i64 c3))])]) hF (by simp [oks, SV.ok]) (Eq.mp (α := D97 M e_1 e_2 e_3 e_4 e_5 e_6 e_7 e_8 e_9 thread1 c1 c2 c3 h P) (by kernel_rfl) hd)
/-- (lockless/lib.entry).by -/
def D101 (M : Model) (e_1 : List UInt8) (e_2 : List UInt8) (e_3 : Int) (e_4 : Slc) (e_5 : Int) (e_6 : Int) (e_7 : Bool) (e_8 : Bool) (e_9 : Bool) (thread1 : Int) (op1 : List UInt8) (h : Heap) (P : AV → Heap → Prop) : Prop :=
((e_1.length + ([32] : List UInt8).length : Nat) : Int) ≤ 9223372036854775807 ∧
(((e_1 ++ [32]).length + op1.length : Nat) : Int) ≤ 9223372036854775807 ∧
∃ (J1 : Bool → Heap → Prop), (((((e_1 ++ [32]) ++ op1) == [100, 101, 113, 117, 101, 32, 112, 117, 115, 104]) = true → J1 (((e_1 ++ [32]) ++ op1) == [100, 101, 113, 117, 101, 32, 112, 117, 115, 104]) ([] : Heap)) ∧
((((e_1 ++ [32]) ++ op1) == [100, 101, 113, 117, 101, 32, 112, 117, 115, 104]) = false → J1 (((e_1 ++ [32]) ++ op1) == [100, 101, 113, 117, 101, 32, 112, 111, 112]) ([] : Heap))) ∧
(∀ (x1 : Bool) (t1 : Heap), J1 x1 t1 → (x1 = true → P (.bool (thread1 == 0)) (AObj.arr [(.str e_1), (.str e_2), (.int .i64 e_3), e_4.av, (.int .i64 e_5), (.int .i64 e_6), (.bool e_7), (.bool e_8), (.bool e_9)] 9 false :: t1)) ∧
(x1 = false → ((((e_1 ++ [32]) ++ op1) == [115, 110, 97, 112, 32, 117, 112, 100, 97, 116, 101]) = true → P (.bool (decide (thread1 < 2))) (AObj.arr [(.str e_1), (.str e_2), (.int .i64 e_3), e_4.av, (.int .i64 e_5), (.int .i64 e_6), (.bool e_7), (.bool e_8), (.bool e_9)] 9 false :: t1)) ∧
((((e_1 ++ [32]) ++ op1) == [115, 110, 97, 112, 32, 117, 112, 100, 97, 116, 101]) = false → ((((e_1 ++ [32]) ++ op1) == [117, 110, 105, 32, 97, 100, 100]) = true → P (.bool (decide (thread1 < 3))) (AObj.arr [(.str e_1), (.str e_2), (.int .i64 e_3), e_4.av, (.int .i64 e_5), (.int .i64 e_6), (.bool e_7), (.bool e_8), (.bool e_9)] 9 false :: t1)) ∧
((((e_1 ++ [32]) ++ op1) == [117, 110, 105, 32, 97, 100, 100]) = false → P (.bool true) (AObj.arr [(.str e_1), (.str e_2), (.int .i64 e_3), e_4.av, (.int .i64 e_5), (.int .i64 e_6), (.bool e_7), (.bool e_8), (.bool e_9)] 9 false :: t1)))))
theorem d101 {M : Model} {e_1 : List UInt8} {e_2 : List UInt8} {e_3 : Int} {e_4 : Slc} {e_5 : Int} {e_6 : Int} {e_7 : Bool} {e_8 : Bool} {e_9 : Bool} {thread1 : Int} {op1 : List UInt8} {h : Heap} {P : AV → Heap → Prop} (hF : M.fn 101 = some F101) (hd : D101 M e_1 e_2 e_3 e_4 e_5 e_6 e_7 e_8 e_9 thread1 op1 h P) : CallE M 101 [(.agg [(.str e_1), (.str e_2), (.int .i64 e_3), e_4.av, (.int .i64 e_5), (.int .i64 e_6), (.bool e_7), (.bool e_8), (.bool e_9)]), (.int .i64 thread1), (.str op1)] h P :=
  callE_of_wp (hi := (rs 4 (.op ⟨.raw, 0, true, 1⟩ (.op ⟨.raw, 0, true, 0⟩ (.op ⟨.raw, 0, true, 1⟩ (.join ⟨2, [], [(12, .bool)]⟩ (rs 2 (.condS .nil (rs 2 .nil))) (.condS (rs 3 .nil) (rs 2 (.condS (rs 3 .nil) (rs 2 (.condS (rs 3 .nil) (.op ⟨.raw, 0, true, 0⟩ .nil)))))))))))) (args := [(.agg [(.av (.str e_1)), (.av (.str e_2)), (.av (.int .i64 e_3)), (.slc e_4), (.av (.int .i64 e_5)), (.av (.int .i64 e_6)), (.av (.bool e_7)), (.av (.bool e_8)), (.av (.bool e_9))]), (.av (.int .i64 thread1)), (.av (.str op1))]) hF (by simp [oks, SV.ok]) (Eq.mp (α := D101 M e_1 e_2 e_3 e_4 e_5 e_6 e_7 e_8 e_9 thread1 op1 h P) (by kernel_rfl) hd)
/-- slices.IndexFunc[[]lockless/api.Call,lockless/api.Call] -/
def D135 (M : Model) (s_1 : Slc) (f1 : Nat) (f1c : List AV) (h : Heap) (P : AV → Heap → Prop) : Prop :=
∃ (I1 : Nat → Int → Heap → Prop), (∃ n1, I1 n1 (0 : Int) ([] : Heap)) ∧
∀ (n2 : Nat) (x1 : Int) (t1 : Heap), I1 n2 x1 t1 → ((decide (x1 < ((s_1.len : Nat) : Int))) = true → (0 ≤ x1 ∧
x1 < (s_1.len : Int)) ∧
∃ (x2 : List UInt8) (x3 : Int) (x4 : Int), rdVar h (some 3) s_1.b (s_1.o + (x1 : Int).toNat * 3) = some (.agg [(.str x2), (.int .i64 x3), (.int .i64 x4)]) ∧
CallE M f1 ([(.agg [(.str x2), (.int .i64 x3), (.int .i64 x4)])] ++ f1c) (h ++ t1) fun rv1 t2 =>
∃ (b1 : Bool), rv1 = (.bool b1) ∧
(b1 = true → P (.int .i64 x1) (t1 ++ t2)) ∧
(b1 = false → ∃ n3, n3 < n2 ∧
I1 n3 (IntKind.wrap .i64 (x1 + 1)) (t1 ++ t2))) ∧
((decide (x1 < ((s_1.len : Nat) : Int))) = false → P (.int .i64 (-1)) t1)
theorem d135 {M : Model} {s_1 : Slc} {f1 : Nat} {f1c : List AV} {h : Heap} {P : AV → Heap → Prop} (hF : M.fn 135 = some F135) (hd : D135 M s_1 f1 f1c h P) : CallE M 135 [s_1.av, (.fn f1 f1c)] h P :=
  callE_of_wp (hi := (rs 4 (.loop ⟨1, [], [(8, (.int .i64))]⟩ (.op ⟨.raw, 0, true, 0⟩ (.condS (rs 6 (.op ⟨(.agg [.str, (.int .i64), (.int .i64)]), 1, true, 0⟩ (.op ⟨.bool, 0, true, 0⟩ (.condS (rs 2 .nil) (rs 2 .nil))))) (.op ⟨.raw, 0, true, 0⟩ .nil)))))) (args := [(.slc s_1), (.av (.fn f1 f1c))]) hF (by simp [oks, SV.ok]) (Eq.mp (α := D135 M s_1 f1 f1c h P) (by kernel_rfl) hd)
/-- (lockless/lib.entry).fits$1 -/
def D136 (M : Model) (k1 : List UInt8) (k2 : Int) (a11 : Nat) (a11o : Nat) (h : Heap) (P : AV → Heap → Prop) : Prop :=
∃ (w1 : List UInt8), rdVar h none a11 a11o = some (.str w1) ∧
P (.bool (k1 == w1)) [AObj.arr [(.str k1), (.int .i64 k2)] 2 false]
theorem d136 {M : Model} {k1 : List UInt8} {k2 : Int} {a11 : Nat} {a11o : Nat} {h : Heap} {P : AV → Heap → Prop} (hF : M.fn 136 = some F136) (hd : D136 M k1 k2 a11 a11o h P) : CallE M 136 [(.agg [(.str k1), (.int .i64 k2)]), (.ptr a11 a11o)] h P :=
  callE_of_wp (hi := (rs 5 (.op ⟨.str, 1, true, 0⟩ (rs 2 .nil)))) (args := [(.agg [(.av (.str k1)), (.av (.int .i64 k2))]), (.av (.ptr a11 a11o))]) hF (by simp [oks, SV.ok]) (Eq.mp (α := D136 M k1 k2 a11 a11o h P) (by kernel_rfl) hd)
/-- (lockless/lib.entry).fits$2 -/
def D137 (M : Model) (n1 : Int) (is1 : Bool) (a21 : Nat) (a21o : Nat) (h : Heap) (P : AV → Heap → Prop) : Prop :=
((!is1) = true → P (.bool (n1 == 0)) ([] : Heap)) ∧
((!is1) = false → ∃ (n2 : Int), rdVar h none a21 (a21o + 4) = some (.int .i64 n2) ∧
((decide (n1 ≥ n2)) = true → ∃ (n3 : Int), rdVar h none a21 (a21o + 5) = some (.int .i64 n3) ∧
P (.bool (decide (n1 ≤ n3))) ([] : Heap)) ∧
((decide (n1 ≥ n2)) = false → P (.bool false) ([] : Heap)))
theorem d137 {M : Model} {n1 : Int} {is1 : Bool} {a21 : Nat} {a21o : Nat} {h : Heap} {P : AV → Heap → Prop} (hF : M.fn 137 = some F137) (hd : D137 M n1 is1 a21 a21o h P) : CallE M 137 [(.int .i64 n1), (.bool is1), (.ptr a21 a21o)] h P :=
  callE_of_wp (hi := (rs 3 (.condS (rs 3 .nil) (rs 2 (.op ⟨(.int .i64), 1, true, 0⟩ (rs 2 (.split ⟨.raw, 0, true, 0⟩ (.op ⟨.raw, 0, true, 0⟩ (.op ⟨(.int .i64), 1, true, 0⟩ (rs 3 .nil))) (rs 5 .nil)))))))) (args := [(.av (.int .i64 n1)), (.av (.bool is1)), (.av (.ptr a21 a21o))]) hF (by simp [oks, SV.ok]) (Eq.mp (α := D137 M n1 is1 a21 a21o h P) (by kernel_rfl) hd)
end Go.Proofs.YtifkphfhadimaaaGreatDoor.Mini

