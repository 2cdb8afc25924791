/- What is left to be shown of functions of the seat: printed by this session's own program; the kernel finds each to be what the residual machine says. -/
import Derived.Test.YtifkphfhadimaaaGreatDoorMiniB
import Derived.Test.YtifkphfhadimaaaGreatDoorAbsG4
import Derived.Test.YtifkphfhadimaaaGreatDoorAbsG6
set_option linter.unusedVariables false
set_option linter.unusedSimpArgs false
set_option maxRecDepth 100000
namespace Go.Proofs.YtifkphfhadimaaaGreatDoor.Mini
open Go.Abs Mini
/-- lockless/locklesslaw16.LibNames -/
def D4 (M : Model) (at_1 : Int) (h : Heap) (P : AV → Heap → Prop) : Prop :=
CallE M 24 [] h fun rv1 t1 =>
∃ (b1 : Bool), rv1 = (.bool b1) ∧
((!b1) = true → P (.bool false) t1) ∧
((!b1) = false →
CallE M 27 [] (h ++ t1) fun rv2 t2 =>
∃ (l1 : Slc), rv2 = l1.av ∧
CallE M 28 [] (h ++ (t1 ++ t2)) fun rv3 t3 =>
∃ (l2 : Slc), rv3 = l2.av ∧
((((l2.len : Nat) : Int) != ((l1.len : Nat) : Int)) = true → P (.bool false) (t1 ++ (t2 ++ t3))) ∧
((((l2.len : Nat) : Int) != ((l1.len : Nat) : Int)) = false → (IntKind.wrap .u64 ((l1.len : Nat) : Int)) ≠ 0 ∧
(0 ≤ (IntKind.wrap .i64 (Int.tmod (IntKind.wrap .u64 at_1) (IntKind.wrap .u64 ((l1.len : Nat) : Int)))) ∧
(IntKind.wrap .i64 (Int.tmod (IntKind.wrap .u64 at_1) (IntKind.wrap .u64 ((l1.len : Nat) : Int)))) < (l2.len : Int)) ∧
∃ (w1 : List UInt8), rdVar (h ++ (t1 ++ (t2 ++ t3))) none l2.b (l2.o + ((IntKind.wrap .i64 (Int.tmod (IntKind.wrap .u64 at_1) (IntKind.wrap .u64 ((l1.len : Nat) : Int)))) : Int).toNat * 1) = some (.str w1) ∧
(0 ≤ (IntKind.wrap .i64 (Int.tmod (IntKind.wrap .u64 at_1) (IntKind.wrap .u64 ((l1.len : Nat) : Int)))) ∧
(IntKind.wrap .i64 (Int.tmod (IntKind.wrap .u64 at_1) (IntKind.wrap .u64 ((l1.len : Nat) : Int)))) < (l1.len : Int)) ∧
∃ (w2 : List UInt8), rdVar (h ++ (t1 ++ (t2 ++ t3))) none l1.b (l1.o + ((IntKind.wrap .i64 (Int.tmod (IntKind.wrap .u64 at_1) (IntKind.wrap .u64 ((l1.len : Nat) : Int)))) : Int).toNat * 7) = some (.str w2) ∧
P (.bool (w1 == w2)) (t1 ++ (t2 ++ t3))))
theorem d4 {M : Model} {at_1 : Int} {h : Heap} {P : AV → Heap → Prop} (hF : M.fn 4 = some F4) (hd : D4 M at_1 h P) : CallE M 4 [(.int .i64 at_1)] h P :=
  callE_of_wp (hi := (.op ⟨.raw, 0, true, 0⟩ (.op ⟨.bool, 0, true, 0⟩ (.op ⟨.raw, 0, true, 0⟩ (.condS (.op ⟨.raw, 0, true, 0⟩ .nil) (.op ⟨.slc, 0, true, 0⟩ (.op ⟨.raw, 0, true, 0⟩ (.op ⟨.slc, 0, true, 0⟩ (.op ⟨.raw, 0, true, 0⟩ (.op ⟨.raw, 0, true, 0⟩ (.op ⟨.raw, 0, true, 0⟩ (.op ⟨.raw, 0, true, 0⟩ (.op ⟨.raw, 0, true, 0⟩ (.op ⟨.raw, 0, true, 0⟩ (.condS (.op ⟨.raw, 0, true, 0⟩ .nil) (.op ⟨.raw, 0, true, 0⟩ (.op ⟨.raw, 0, true, 0⟩ (.op ⟨.raw, 0, true, 0⟩ (.op ⟨.raw, 0, true, 0⟩ (.op ⟨.raw, 0, true, 0⟩ (.op ⟨.raw, 0, true, 1⟩ (.op ⟨.raw, 0, true, 0⟩ (.op ⟨.raw, 0, true, 0⟩ (.op ⟨.raw, 0, true, 0⟩ (.op ⟨.raw, 0, true, 0⟩ (.op ⟨.raw, 0, true, 0⟩ (.op ⟨.str, 4, true, 0⟩ (.op ⟨.raw, 0, true, 0⟩ (.op ⟨.raw, 0, true, 0⟩ (.op ⟨.raw, 0, true, 0⟩ (.op ⟨.raw, 0, true, 0⟩ (.op ⟨.str, 4, true, 0⟩ (.op ⟨.raw, 0, true, 0⟩ (.op ⟨.raw, 0, true, 0⟩ .nil)))))))))))))))))))))))))))))))))) (args := [(.av (.int .i64 at_1))]) hF (by simp [oks, SV.ok]) (Eq.mp (α := D4 M at_1 h P) (by kernel_rfl) hd)
/-- lockless/locklesslaw16.LibEach -/
def D11 (M : Model) (which1 : Int) (h : Heap) (P : AV → Heap → Prop) : Prop :=
CallE M 26 [(.int .i64 which1)] h fun rv1 t1 =>
∃ (w1 : List UInt8), rv1 = (.str w1) ∧
CallE M 10 [(.str w1)] (h ++ t1) fun rv2 t2 =>
∃ (b1 : Bool), rv2 = (.bool b1) ∧
(b1 = true →
CallE M 24 [] (h ++ (t1 ++ t2)) fun rv3 t3 =>
∃ (b2 : Bool), rv3 = (.bool b2) ∧
P (.bool b2) (t1 ++ (t2 ++ t3))) ∧
(b1 = false → P (.bool false) (t1 ++ t2))
theorem d11 {M : Model} {which1 : Int} {h : Heap} {P : AV → Heap → Prop} (hF : M.fn 11 = some F11) (hd : D11 M which1 h P) : CallE M 11 [(.int .i64 which1)] h P :=
  callE_of_wp (hi := (.op ⟨.raw, 0, true, 0⟩ (.op ⟨.raw, 0, true, 0⟩ (.op ⟨.str, 0, true, 0⟩ (.op ⟨.bool, 0, true, 0⟩ (.op ⟨.raw, 0, true, 0⟩ (.split ⟨.bool, 0, true, 0⟩ (.op ⟨.raw, 0, true, 0⟩ (.op ⟨.raw, 0, true, 0⟩ .nil)) (.op ⟨.raw, 0, true, 0⟩ (.op ⟨.raw, 0, true, 0⟩ .nil))))))))) (args := [(.av (.int .i64 which1))]) hF (by simp [oks, SV.ok]) (Eq.mp (α := D11 M which1 h P) (by kernel_rfl) hd)
/-- lockless/locklesslaw16.nameOf -/
def D26 (M : Model) (n1 : Int) (h : Heap) (P : AV → Heap → Prop) : Prop :=
CallE M 27 [] h fun rv1 t1 =>
∃ (l1 : Slc), rv1 = l1.av ∧
(IntKind.wrap .u64 ((l1.len : Nat) : Int)) ≠ 0 ∧
(0 ≤ (IntKind.wrap .i64 (Int.tmod (IntKind.wrap .u64 n1) (IntKind.wrap .u64 ((l1.len : Nat) : Int)))) ∧
(IntKind.wrap .i64 (Int.tmod (IntKind.wrap .u64 n1) (IntKind.wrap .u64 ((l1.len : Nat) : Int)))) < (l1.len : Int)) ∧
∃ (w1 : List UInt8), rdVar (h ++ t1) none l1.b (l1.o + ((IntKind.wrap .i64 (Int.tmod (IntKind.wrap .u64 n1) (IntKind.wrap .u64 ((l1.len : Nat) : Int)))) : Int).toNat * 7) = some (.str w1) ∧
P (.str w1) t1
theorem d26 {M : Model} {n1 : Int} {h : Heap} {P : AV → Heap → Prop} (hF : M.fn 26 = some F26) (hd : D26 M n1 h P) : CallE M 26 [(.int .i64 n1)] h P :=
  callE_of_wp (hi := (.op ⟨.raw, 0, true, 0⟩ (.op ⟨.slc, 0, true, 0⟩ (.op ⟨.raw, 0, true, 0⟩ (.op ⟨.raw, 0, true, 0⟩ (.op ⟨.raw, 0, true, 0⟩ (.op ⟨.raw, 0, true, 0⟩ (.op ⟨.raw, 0, true, 0⟩ (.op ⟨.raw, 0, true, 0⟩ (.op ⟨.raw, 0, true, 0⟩ (.op ⟨.raw, 0, true, 1⟩ (.op ⟨.raw, 0, true, 0⟩ (.op ⟨.raw, 0, true, 0⟩ (.op ⟨.raw, 0, true, 0⟩ (.op ⟨.str, 2, true, 0⟩ (.op ⟨.raw, 0, true, 0⟩ .nil)))))))))))))))) (args := [(.av (.int .i64 n1))]) hF (by simp [oks, SV.ok]) (Eq.mp (α := D26 M n1 h P) (by kernel_rfl) hd)
/-- lockless/locklesslaw16.LibTable -/
def D10 (M : Model) (name1 : List UInt8) (h : Heap) (P : AV → Heap → Prop) : Prop :=
CallE M 24 [] h fun rv1 t1 =>
∃ (b1 : Bool), rv1 = (.bool b1) ∧
((!b1) = true → P (.bool false) t1) ∧
((!b1) = false →
CallE M 31 [(.str name1)] (h ++ t1) fun rv2 t2 =>
∃ (r1 : List UInt8) (r2 : Int) (r3 : Slc) (r4 : Int) (r5 : Int) (r6 : Bool) (r7 : Bool) (r8 : Bool), rv2 = (.tuple [(.agg [(.str r1), (.int .i64 r2), r3.av, (.int .i64 r4), (.int .i64 r5), (.bool r6), (.bool r7)]), (.bool r8)]) ∧
CallE M 41 [(.str name1)] (h ++ (t1 ++ (t2 ++ [AObj.arr [(.str r1), (.int .i64 r2), r3.av, (.int .i64 r4), (.int .i64 r5), (.bool r6), (.bool r7)] 7 false]))) fun rv3 t3 =>
∃ (r9 : Int) (r10 : Int), rv3 = (.tuple [(.int .i64 r9), (.int .i64 r10)]) ∧
CallE M 42 [(.str name1)] (h ++ (t1 ++ (t2 ++ (AObj.arr [(.str r1), (.int .i64 r2), r3.av, (.int .i64 r4), (.int .i64 r5), (.bool r6), (.bool r7)] 7 false :: t3)))) fun rv4 t4 =>
∃ (r11 : Int) (r12 : Int) (r13 : Int), rv4 = (.tuple [(.int .i64 r11), (.int .i64 r12), (.int .i64 r13)]) ∧
CallE M 43 [(.str name1)] (h ++ (t1 ++ (t2 ++ (AObj.arr [(.str r1), (.int .i64 r2), r3.av, (.int .i64 r4), (.int .i64 r5), (.bool r6), (.bool r7)] 7 false :: (t3 ++ t4))))) fun rv5 t5 =>
∃ (r14 : Bool) (r15 : Int), rv5 = (.tuple [(.bool r14), (.int .i64 r15)]) ∧
CallE M 44 [(.str name1)] (h ++ (t1 ++ (t2 ++ (AObj.arr [(.str r1), (.int .i64 r2), r3.av, (.int .i64 r4), (.int .i64 r5), (.bool r6), (.bool r7)] 7 false :: (t3 ++ (t4 ++ t5)))))) fun rv6 t6 =>
∃ (r16 : Bool) (r17 : Int), rv6 = (.tuple [(.bool r16), (.int .i64 r17)]) ∧
CallE M 45 [(.str name1)] (h ++ (t1 ++ (t2 ++ (AObj.arr [(.str r1), (.int .i64 r2), r3.av, (.int .i64 r4), (.int .i64 r5), (.bool r6), (.bool r7)] 7 false :: (t3 ++ (t4 ++ (t5 ++ t6))))))) fun rv7 t7 =>
∃ (r18 : Bool) (r19 : Int), rv7 = (.tuple [(.bool r18), (.int .i64 r19)]) ∧
CallE M 34 [(.str name1)] (h ++ (t1 ++ (t2 ++ (AObj.arr [(.str r1), (.int .i64 r2), r3.av, (.int .i64 r4), (.int .i64 r5), (.bool r6), (.bool r7)] 7 false :: (t3 ++ (t4 ++ (t5 ++ (t6 ++ t7)))))))) fun rv8 t8 =>
∃ (r20 : Slc) (r21 : Int), rv8 = (.tuple [r20.av, (.int .i64 r21)]) ∧
∃ (J1 : Int → Heap → Prop), (((!r8) = true → J1 (5 : Int) ([] : Heap)) ∧
((!r8) = false → J1 (0 : Int) ([] : Heap))) ∧
(∀ (want1 : Int) (t9 : Heap), J1 want1 t9 → ((r10 != want1) = false → ((r13 != want1) = false → ((r15 != want1) = false → ((r17 != want1) = false → ((r19 != want1) = false → ((r21 != want1) = false → ((((r20.len : Nat) : Int) != ((r3.len : Nat) : Int)) = true → P (.bool false) (t1 ++ (t2 ++ (AObj.arr [(.str r1), (.int .i64 r2), r3.av, (.int .i64 r4), (.int .i64 r5), (.bool r6), (.bool r7)] 7 false :: (t3 ++ (t4 ++ (t5 ++ (t6 ++ (t7 ++ (t8 ++ t9)))))))))) ∧
((((r20.len : Nat) : Int) != ((r3.len : Nat) : Int)) = false → ∃ (I1 : Nat → Int → Heap → Prop), (∃ n1, I1 n1 (0 : Int) ([] : Heap)) ∧
∀ (n2 : Nat) (k1 : Int) (t10 : Heap), I1 n2 k1 t10 → ((decide (k1 < ((r20.len : Nat) : Int))) = true → (0 ≤ k1 ∧
k1 < (r20.len : Int)) ∧
∃ (w1 : List UInt8), rdVar (h ++ (t1 ++ (t2 ++ (AObj.arr [(.str r1), (.int .i64 r2), r3.av, (.int .i64 r4), (.int .i64 r5), (.bool r6), (.bool r7)] 7 false :: (t3 ++ (t4 ++ (t5 ++ (t6 ++ (t7 ++ (t8 ++ (t9 ++ t10))))))))))) none r20.b (r20.o + (k1 : Int).toNat * 1) = some (.str w1) ∧
(0 ≤ k1 ∧
k1 < (r3.len : Int)) ∧
∃ (w2 : List UInt8), rdVar (h ++ (t1 ++ (t2 ++ (AObj.arr [(.str r1), (.int .i64 r2), r3.av, (.int .i64 r4), (.int .i64 r5), (.bool r6), (.bool r7)] 7 false :: (t3 ++ (t4 ++ (t5 ++ (t6 ++ (t7 ++ (t8 ++ (t9 ++ t10))))))))))) none r3.b (r3.o + (k1 : Int).toNat * 3) = some (.str w2) ∧
((!(w1 == w2)) = true → P (.bool false) (t1 ++ (t2 ++ (AObj.arr [(.str r1), (.int .i64 r2), r3.av, (.int .i64 r4), (.int .i64 r5), (.bool r6), (.bool r7)] 7 false :: (t3 ++ (t4 ++ (t5 ++ (t6 ++ (t7 ++ (t8 ++ (t9 ++ t10))))))))))) ∧
((!(w1 == w2)) = false → ∃ n3, n3 < n2 ∧
I1 n3 (IntKind.wrap .i64 (k1 + 1)) t10)) ∧
((decide (k1 < ((r20.len : Nat) : Int))) = false → ((r9 == r2) = true → ((r11 == r4) = true → ((r12 == r5) = true → (r8 = true → (((r14 == (!(name1 == [98, 97, 114, 101]))) != false) = true → (((r16 == r6) != false) = true → P (.bool ((r18 == r7) != false)) (t1 ++ (t2 ++ (AObj.arr [(.str r1), (.int .i64 r2), r3.av, (.int .i64 r4), (.int .i64 r5), (.bool r6), (.bool r7)] 7 false :: (t3 ++ (t4 ++ (t5 ++ (t6 ++ (t7 ++ (t8 ++ (t9 ++ t10))))))))))) ∧
(((r16 == r6) != false) = false → P (.bool false) (t1 ++ (t2 ++ (AObj.arr [(.str r1), (.int .i64 r2), r3.av, (.int .i64 r4), (.int .i64 r5), (.bool r6), (.bool r7)] 7 false :: (t3 ++ (t4 ++ (t5 ++ (t6 ++ (t7 ++ (t8 ++ (t9 ++ t10)))))))))))) ∧
(((r14 == (!(name1 == [98, 97, 114, 101]))) != false) = false → P (.bool false) (t1 ++ (t2 ++ (AObj.arr [(.str r1), (.int .i64 r2), r3.av, (.int .i64 r4), (.int .i64 r5), (.bool r6), (.bool r7)] 7 false :: (t3 ++ (t4 ++ (t5 ++ (t6 ++ (t7 ++ (t8 ++ (t9 ++ t10)))))))))))) ∧
(r8 = false → (((r14 == false) != false) = true → (((r16 == r6) != false) = true → P (.bool ((r18 == r7) != false)) (t1 ++ (t2 ++ (AObj.arr [(.str r1), (.int .i64 r2), r3.av, (.int .i64 r4), (.int .i64 r5), (.bool r6), (.bool r7)] 7 false :: (t3 ++ (t4 ++ (t5 ++ (t6 ++ (t7 ++ (t8 ++ (t9 ++ t10))))))))))) ∧
(((r16 == r6) != false) = false → P (.bool false) (t1 ++ (t2 ++ (AObj.arr [(.str r1), (.int .i64 r2), r3.av, (.int .i64 r4), (.int .i64 r5), (.bool r6), (.bool r7)] 7 false :: (t3 ++ (t4 ++ (t5 ++ (t6 ++ (t7 ++ (t8 ++ (t9 ++ t10)))))))))))) ∧
(((r14 == false) != false) = false → P (.bool false) (t1 ++ (t2 ++ (AObj.arr [(.str r1), (.int .i64 r2), r3.av, (.int .i64 r4), (.int .i64 r5), (.bool r6), (.bool r7)] 7 false :: (t3 ++ (t4 ++ (t5 ++ (t6 ++ (t7 ++ (t8 ++ (t9 ++ t10))))))))))))) ∧
((r12 == r5) = false → P (.bool false) (t1 ++ (t2 ++ (AObj.arr [(.str r1), (.int .i64 r2), r3.av, (.int .i64 r4), (.int .i64 r5), (.bool r6), (.bool r7)] 7 false :: (t3 ++ (t4 ++ (t5 ++ (t6 ++ (t7 ++ (t8 ++ (t9 ++ t10)))))))))))) ∧
((r11 == r4) = false → P (.bool false) (t1 ++ (t2 ++ (AObj.arr [(.str r1), (.int .i64 r2), r3.av, (.int .i64 r4), (.int .i64 r5), (.bool r6), (.bool r7)] 7 false :: (t3 ++ (t4 ++ (t5 ++ (t6 ++ (t7 ++ (t8 ++ (t9 ++ t10)))))))))))) ∧
((r9 == r2) = false → P (.bool false) (t1 ++ (t2 ++ (AObj.arr [(.str r1), (.int .i64 r2), r3.av, (.int .i64 r4), (.int .i64 r5), (.bool r6), (.bool r7)] 7 false :: (t3 ++ (t4 ++ (t5 ++ (t6 ++ (t7 ++ (t8 ++ (t9 ++ t10)))))))))))))) ∧
((r21 != want1) = true → P (.bool false) (t1 ++ (t2 ++ (AObj.arr [(.str r1), (.int .i64 r2), r3.av, (.int .i64 r4), (.int .i64 r5), (.bool r6), (.bool r7)] 7 false :: (t3 ++ (t4 ++ (t5 ++ (t6 ++ (t7 ++ (t8 ++ t9))))))))))) ∧
((r19 != want1) = true → P (.bool false) (t1 ++ (t2 ++ (AObj.arr [(.str r1), (.int .i64 r2), r3.av, (.int .i64 r4), (.int .i64 r5), (.bool r6), (.bool r7)] 7 false :: (t3 ++ (t4 ++ (t5 ++ (t6 ++ (t7 ++ (t8 ++ t9))))))))))) ∧
((r17 != want1) = true → P (.bool false) (t1 ++ (t2 ++ (AObj.arr [(.str r1), (.int .i64 r2), r3.av, (.int .i64 r4), (.int .i64 r5), (.bool r6), (.bool r7)] 7 false :: (t3 ++ (t4 ++ (t5 ++ (t6 ++ (t7 ++ (t8 ++ t9))))))))))) ∧
((r15 != want1) = true → P (.bool false) (t1 ++ (t2 ++ (AObj.arr [(.str r1), (.int .i64 r2), r3.av, (.int .i64 r4), (.int .i64 r5), (.bool r6), (.bool r7)] 7 false :: (t3 ++ (t4 ++ (t5 ++ (t6 ++ (t7 ++ (t8 ++ t9))))))))))) ∧
((r13 != want1) = true → P (.bool false) (t1 ++ (t2 ++ (AObj.arr [(.str r1), (.int .i64 r2), r3.av, (.int .i64 r4), (.int .i64 r5), (.bool r6), (.bool r7)] 7 false :: (t3 ++ (t4 ++ (t5 ++ (t6 ++ (t7 ++ (t8 ++ t9))))))))))) ∧
((r10 != want1) = true → P (.bool false) (t1 ++ (t2 ++ (AObj.arr [(.str r1), (.int .i64 r2), r3.av, (.int .i64 r4), (.int .i64 r5), (.bool r6), (.bool r7)] 7 false :: (t3 ++ (t4 ++ (t5 ++ (t6 ++ (t7 ++ (t8 ++ t9))))))))))))
theorem d10 {M : Model} {name1 : List UInt8} {h : Heap} {P : AV → Heap → Prop} (hF : M.fn 10 = some F10) (hd : D10 M name1 h P) : CallE M 10 [(.str name1)] h P :=
  callE_of_wp (hi := (.op ⟨.raw, 0, true, 0⟩ (.op ⟨.bool, 0, true, 0⟩ (.op ⟨.raw, 0, true, 0⟩ (.condS (.op ⟨.raw, 0, true, 0⟩ .nil) (.op ⟨.raw, 0, true, 0⟩ (.op ⟨(.tup [(.agg [.str, (.int .i64), .slc, (.int .i64), (.int .i64), .bool, .bool]), .bool]), 0, true, 0⟩ (.op ⟨.raw, 0, true, 0⟩ (.op ⟨.raw, 0, true, 0⟩ (.op ⟨.raw, 0, true, 0⟩ (.op ⟨.raw, 0, true, 0⟩ (.op ⟨.raw, 0, true, 0⟩ (.op ⟨.raw, 0, true, 0⟩ (.op ⟨.raw, 0, true, 0⟩ (.op ⟨(.tup [(.int .i64), (.int .i64)]), 0, true, 0⟩ (.op ⟨.raw, 0, true, 0⟩ (.op ⟨.raw, 0, true, 0⟩ (.op ⟨.raw, 0, true, 0⟩ (.op ⟨.raw, 0, true, 0⟩ (.op ⟨.raw, 0, true, 0⟩ (.op ⟨.raw, 0, true, 0⟩ (.op ⟨(.tup [(.int .i64), (.int .i64), (.int .i64)]), 0, true, 0⟩ (.op ⟨.raw, 0, true, 0⟩ (.op ⟨.raw, 0, true, 0⟩ (.op ⟨.raw, 0, true, 0⟩ (.op ⟨.raw, 0, true, 0⟩ (.op ⟨.raw, 0, true, 0⟩ (.op ⟨.raw, 0, true, 0⟩ (.op ⟨.raw, 0, true, 0⟩ (.op ⟨.raw, 0, true, 0⟩ (.op ⟨(.tup [.bool, (.int .i64)]), 0, true, 0⟩ (.op ⟨.raw, 0, true, 0⟩ (.op ⟨.raw, 0, true, 0⟩ (.op ⟨.raw, 0, true, 0⟩ (.op ⟨.raw, 0, true, 0⟩ (.op ⟨.raw, 0, true, 0⟩ (.op ⟨.raw, 0, true, 0⟩ (.op ⟨(.tup [.bool, (.int .i64)]), 0, true, 0⟩ (.op ⟨.raw, 0, true, 0⟩ (.op ⟨.raw, 0, true, 0⟩ (.op ⟨.raw, 0, true, 0⟩ (.op ⟨.raw, 0, true, 0⟩ (.op ⟨.raw, 0, true, 0⟩ (.op ⟨.raw, 0, true, 0⟩ (.op ⟨(.tup [.bool, (.int .i64)]), 0, true, 0⟩ (.op ⟨.raw, 0, true, 0⟩ (.op ⟨.raw, 0, true, 0⟩ (.op ⟨.raw, 0, true, 0⟩ (.op ⟨.raw, 0, true, 0⟩ (.op ⟨.raw, 0, true, 0⟩ (.op ⟨.raw, 0, true, 0⟩ (.op ⟨(.tup [.slc, (.int .i64)]), 0, true, 0⟩ (.op ⟨.raw, 0, true, 0⟩ (.op ⟨.raw, 0, true, 0⟩ (.op ⟨.raw, 0, true, 0⟩ (.op ⟨.raw, 0, true, 0⟩ (.op ⟨.raw, 0, true, 0⟩ (.op ⟨.raw, 0, true, 0⟩ (.join ⟨10, [], [(18, (.int .i64))]⟩ (.op ⟨.raw, 0, true, 0⟩ (.op ⟨.raw, 0, true, 0⟩ (.condS (.op ⟨.raw, 0, true, 0⟩ .nil) .nil))) (.op ⟨.raw, 0, true, 0⟩ (.op ⟨.raw, 0, true, 0⟩ (.op ⟨.raw, 0, true, 0⟩ (.op ⟨.raw, 0, true, 0⟩ (.split ⟨.raw, 0, true, 0⟩ (.op ⟨.raw, 0, true, 0⟩ (.op ⟨.raw, 0, true, 0⟩ (.op ⟨.raw, 0, true, 0⟩ (.op ⟨.raw, 0, true, 0⟩ (.split ⟨.raw, 0, true, 0⟩ (.op ⟨.raw, 0, true, 0⟩ (.op ⟨.raw, 0, true, 0⟩ (.op ⟨.raw, 0, true, 0⟩ (.op ⟨.raw, 0, true, 0⟩ (.split ⟨.raw, 0, true, 0⟩ (.op ⟨.raw, 0, true, 0⟩ (.op ⟨.raw, 0, true, 0⟩ (.op ⟨.raw, 0, true, 0⟩ (.op ⟨.raw, 0, true, 0⟩ (.split ⟨.raw, 0, true, 0⟩ (.op ⟨.raw, 0, true, 0⟩ (.op ⟨.raw, 0, true, 0⟩ (.op ⟨.raw, 0, true, 0⟩ (.op ⟨.raw, 0, true, 0⟩ (.split ⟨.raw, 0, true, 0⟩ (.op ⟨.raw, 0, true, 0⟩ (.op ⟨.raw, 0, true, 0⟩ (.op ⟨.raw, 0, true, 0⟩ (.op ⟨.raw, 0, true, 0⟩ (.split ⟨.raw, 0, true, 0⟩ (.op ⟨.raw, 0, true, 0⟩ (.op ⟨.raw, 0, true, 0⟩ (.op ⟨.raw, 0, true, 0⟩ (.op ⟨.raw, 0, true, 0⟩ (.op ⟨.raw, 0, true, 0⟩ (.op ⟨.raw, 0, true, 0⟩ (.condS (.op ⟨.raw, 0, true, 0⟩ .nil) (.op ⟨.raw, 0, true, 0⟩ (.loop ⟨11, [], [(19, (.int .i64))]⟩ (.op ⟨.raw, 0, true, 0⟩ (.op ⟨.raw, 0, true, 0⟩ (.op ⟨.raw, 0, true, 0⟩ (.op ⟨.raw, 0, true, 0⟩ (.condS (.op ⟨.raw, 0, true, 0⟩ (.op ⟨.raw, 0, true, 0⟩ (.op ⟨.raw, 0, true, 0⟩ (.op ⟨.str, 12, true, 0⟩ (.op ⟨.raw, 0, true, 0⟩ (.op ⟨.raw, 0, true, 0⟩ (.op ⟨.raw, 0, true, 0⟩ (.op ⟨.raw, 0, true, 0⟩ (.op ⟨.raw, 0, true, 0⟩ (.op ⟨.str, 12, true, 0⟩ (.op ⟨.raw, 0, true, 0⟩ (.condS (.op ⟨.raw, 0, true, 0⟩ .nil) (.op ⟨.raw, 0, true, 0⟩ (.op ⟨.raw, 0, true, 0⟩ (.op ⟨.raw, 0, true, 0⟩ .nil))))))))))))))) (.op ⟨.raw, 0, true, 0⟩ (.op ⟨.raw, 0, true, 0⟩ (.op ⟨.raw, 0, true, 0⟩ (.op ⟨.raw, 0, true, 0⟩ (.op ⟨.raw, 0, true, 0⟩ (.split ⟨.raw, 0, true, 0⟩ (.op ⟨.raw, 0, true, 0⟩ (.op ⟨.raw, 0, true, 0⟩ (.op ⟨.raw, 0, true, 0⟩ (.op ⟨.raw, 0, true, 0⟩ (.op ⟨.raw, 0, true, 0⟩ (.split ⟨.raw, 0, true, 0⟩ (.op ⟨.raw, 0, true, 0⟩ (.op ⟨.raw, 0, true, 0⟩ (.op ⟨.raw, 0, true, 0⟩ (.op ⟨.raw, 0, true, 0⟩ (.op ⟨.raw, 0, true, 0⟩ (.split ⟨.raw, 0, true, 0⟩ (.op ⟨.raw, 0, true, 0⟩ (.op ⟨.raw, 0, true, 0⟩ (.split ⟨.raw, 0, true, 0⟩ (.op ⟨.raw, 0, true, 0⟩ (.op ⟨.raw, 0, true, 0⟩ (.op ⟨.raw, 0, true, 0⟩ (.op ⟨.raw, 0, true, 0⟩ (.op ⟨.raw, 0, true, 0⟩ (.split ⟨.raw, 0, true, 0⟩ (.op ⟨.raw, 0, true, 0⟩ (.op ⟨.raw, 0, true, 0⟩ (.op ⟨.raw, 0, true, 0⟩ (.op ⟨.raw, 0, true, 0⟩ (.op ⟨.raw, 0, true, 0⟩ (.split ⟨.raw, 0, true, 0⟩ (.op ⟨.raw, 0, true, 0⟩ (.op ⟨.raw, 0, true, 0⟩ (.op ⟨.raw, 0, true, 0⟩ (.op ⟨.raw, 0, true, 0⟩ (.op ⟨.raw, 0, true, 0⟩ .nil))))) (.op ⟨.raw, 0, true, 0⟩ (.op ⟨.raw, 0, true, 0⟩ (.op ⟨.raw, 0, true, 0⟩ (.op ⟨.raw, 0, true, 0⟩ (.op ⟨.raw, 0, true, 0⟩ .nil))))))))))) (.op ⟨.raw, 0, true, 0⟩ (.op ⟨.raw, 0, true, 0⟩ (.op ⟨.raw, 0, true, 0⟩ (.op ⟨.raw, 0, true, 0⟩ (.op ⟨.raw, 0, true, 0⟩ (.op ⟨.raw, 0, true, 0⟩ (.op ⟨.raw, 0, true, 0⟩ (.op ⟨.raw, 0, true, 0⟩ (.op ⟨.raw, 0, true, 0⟩ (.op ⟨.raw, 0, true, 0⟩ (.op ⟨.raw, 0, true, 0⟩ .nil))))))))))))))))) (.op ⟨.raw, 0, true, 0⟩ (.op ⟨.raw, 0, true, 0⟩ (.op ⟨.raw, 0, true, 0⟩ (.op ⟨.raw, 0, true, 0⟩ (.op ⟨.raw, 0, true, 0⟩ (.split ⟨.raw, 0, true, 0⟩ (.op ⟨.raw, 0, true, 0⟩ (.op ⟨.raw, 0, true, 0⟩ (.op ⟨.raw, 0, true, 0⟩ (.op ⟨.raw, 0, true, 0⟩ (.op ⟨.raw, 0, true, 0⟩ (.split ⟨.raw, 0, true, 0⟩ (.op ⟨.raw, 0, true, 0⟩ (.op ⟨.raw, 0, true, 0⟩ (.op ⟨.raw, 0, true, 0⟩ (.op ⟨.raw, 0, true, 0⟩ (.op ⟨.raw, 0, true, 0⟩ .nil))))) (.op ⟨.raw, 0, true, 0⟩ (.op ⟨.raw, 0, true, 0⟩ (.op ⟨.raw, 0, true, 0⟩ (.op ⟨.raw, 0, true, 0⟩ (.op ⟨.raw, 0, true, 0⟩ .nil))))))))))) (.op ⟨.raw, 0, true, 0⟩ (.op ⟨.raw, 0, true, 0⟩ (.op ⟨.raw, 0, true, 0⟩ (.op ⟨.raw, 0, true, 0⟩ (.op ⟨.raw, 0, true, 0⟩ (.op ⟨.raw, 0, true, 0⟩ (.op ⟨.raw, 0, true, 0⟩ (.op ⟨.raw, 0, true, 0⟩ (.op ⟨.raw, 0, true, 0⟩ (.op ⟨.raw, 0, true, 0⟩ (.op ⟨.raw, 0, true, 0⟩ .nil)))))))))))))))))))) (.op ⟨.raw, 0, true, 0⟩ (.op ⟨.raw, 0, true, 0⟩ (.op ⟨.raw, 0, true, 0⟩ (.op ⟨.raw, 0, true, 0⟩ (.op ⟨.raw, 0, true, 0⟩ (.op ⟨.raw, 0, true, 0⟩ (.op ⟨.raw, 0, true, 0⟩ (.op ⟨.raw, 0, true, 0⟩ (.op ⟨.raw, 0, true, 0⟩ (.op ⟨.raw, 0, true, 0⟩ (.op ⟨.raw, 0, true, 0⟩ (.op ⟨.raw, 0, true, 0⟩ (.op ⟨.raw, 0, true, 0⟩ (.op ⟨.raw, 0, true, 0⟩ (.op ⟨.raw, 0, true, 0⟩ (.op ⟨.raw, 0, true, 0⟩ (.op ⟨.raw, 0, true, 0⟩ (.op ⟨.raw, 0, true, 0⟩ (.op ⟨.raw, 0, true, 0⟩ (.op ⟨.raw, 0, true, 0⟩ .nil)))))))))))))))))))))))))) (.op ⟨.raw, 0, true, 0⟩ (.op ⟨.raw, 0, true, 0⟩ (.op ⟨.raw, 0, true, 0⟩ (.op ⟨.raw, 0, true, 0⟩ (.op ⟨.raw, 0, true, 0⟩ (.op ⟨.raw, 0, true, 0⟩ (.op ⟨.raw, 0, true, 0⟩ (.op ⟨.raw, 0, true, 0⟩ (.op ⟨.raw, 0, true, 0⟩ (.op ⟨.raw, 0, true, 0⟩ (.op ⟨.raw, 0, true, 0⟩ (.op ⟨.raw, 0, true, 0⟩ (.op ⟨.raw, 0, true, 0⟩ (.op ⟨.raw, 0, true, 0⟩ (.op ⟨.raw, 0, true, 0⟩ (.op ⟨.raw, 0, true, 0⟩ (.op ⟨.raw, 0, true, 0⟩ (.op ⟨.raw, 0, true, 0⟩ (.op ⟨.raw, 0, true, 0⟩ (.op ⟨.raw, 0, true, 0⟩ (.op ⟨.raw, 0, true, 0⟩ (.op ⟨.raw, 0, true, 0⟩ (.op ⟨.raw, 0, true, 0⟩ (.op ⟨.raw, 0, true, 0⟩ (.op ⟨.raw, 0, true, 0⟩ (.op ⟨.raw, 0, true, 0⟩ .nil)))))))))))))))))))))))))))))))) (.op ⟨.raw, 0, true, 0⟩ (.op ⟨.raw, 0, true, 0⟩ (.op ⟨.raw, 0, true, 0⟩ (.op ⟨.raw, 0, true, 0⟩ (.op ⟨.raw, 0, true, 0⟩ (.op ⟨.raw, 0, true, 0⟩ (.op ⟨.raw, 0, true, 0⟩ (.op ⟨.raw, 0, true, 0⟩ (.op ⟨.raw, 0, true, 0⟩ (.op ⟨.raw, 0, true, 0⟩ (.op ⟨.raw, 0, true, 0⟩ (.op ⟨.raw, 0, true, 0⟩ (.op ⟨.raw, 0, true, 0⟩ (.op ⟨.raw, 0, true, 0⟩ (.op ⟨.raw, 0, true, 0⟩ (.op ⟨.raw, 0, true, 0⟩ (.op ⟨.raw, 0, true, 0⟩ (.op ⟨.raw, 0, true, 0⟩ (.op ⟨.raw, 0, true, 0⟩ (.op ⟨.raw, 0, true, 0⟩ (.op ⟨.raw, 0, true, 0⟩ (.op ⟨.raw, 0, true, 0⟩ (.op ⟨.raw, 0, true, 0⟩ (.op ⟨.raw, 0, true, 0⟩ (.op ⟨.raw, 0, true, 0⟩ (.op ⟨.raw, 0, true, 0⟩ (.op ⟨.raw, 0, true, 0⟩ (.op ⟨.raw, 0, true, 0⟩ (.op ⟨.raw, 0, true, 0⟩ (.op ⟨.raw, 0, true, 0⟩ (.op ⟨.raw, 0, true, 0⟩ (.op ⟨.raw, 0, true, 0⟩ .nil)))))))))))))))))))))))))))))))))))))))))))))))))))) (.op ⟨.raw, 0, true, 0⟩ (.op ⟨.raw, 0, true, 0⟩ (.op ⟨.raw, 0, true, 0⟩ (.op ⟨.raw, 0, true, 0⟩ (.op ⟨.raw, 0, true, 0⟩ (.op ⟨.raw, 0, true, 0⟩ (.condL (.op ⟨.raw, 0, true, 0⟩ .nil))))))))))))) (.op ⟨.raw, 0, true, 0⟩ (.op ⟨.raw, 0, true, 0⟩ (.op ⟨.raw, 0, true, 0⟩ (.op ⟨.raw, 0, true, 0⟩ (.op ⟨.raw, 0, true, 0⟩ (.op ⟨.raw, 0, true, 0⟩ (.op ⟨.raw, 0, true, 0⟩ (.op ⟨.raw, 0, true, 0⟩ (.op ⟨.raw, 0, true, 0⟩ (.op ⟨.raw, 0, true, 0⟩ (.op ⟨.raw, 0, true, 0⟩ (.condL (.op ⟨.raw, 0, true, 0⟩ .nil)))))))))))))))))) (.op ⟨.raw, 0, true, 0⟩ (.op ⟨.raw, 0, true, 0⟩ (.op ⟨.raw, 0, true, 0⟩ (.op ⟨.raw, 0, true, 0⟩ (.op ⟨.raw, 0, true, 0⟩ (.op ⟨.raw, 0, true, 0⟩ (.op ⟨.raw, 0, true, 0⟩ (.op ⟨.raw, 0, true, 0⟩ (.op ⟨.raw, 0, true, 0⟩ (.op ⟨.raw, 0, true, 0⟩ (.op ⟨.raw, 0, true, 0⟩ (.op ⟨.raw, 0, true, 0⟩ (.op ⟨.raw, 0, true, 0⟩ (.op ⟨.raw, 0, true, 0⟩ (.op ⟨.raw, 0, true, 0⟩ (.op ⟨.raw, 0, true, 0⟩ (.condL (.op ⟨.raw, 0, true, 0⟩ .nil))))))))))))))))))))))) (.op ⟨.raw, 0, true, 0⟩ (.op ⟨.raw, 0, true, 0⟩ (.op ⟨.raw, 0, true, 0⟩ (.op ⟨.raw, 0, true, 0⟩ (.op ⟨.raw, 0, true, 0⟩ (.op ⟨.raw, 0, true, 0⟩ (.op ⟨.raw, 0, true, 0⟩ (.op ⟨.raw, 0, true, 0⟩ (.op ⟨.raw, 0, true, 0⟩ (.op ⟨.raw, 0, true, 0⟩ (.op ⟨.raw, 0, true, 0⟩ (.op ⟨.raw, 0, true, 0⟩ (.op ⟨.raw, 0, true, 0⟩ (.op ⟨.raw, 0, true, 0⟩ (.op ⟨.raw, 0, true, 0⟩ (.op ⟨.raw, 0, true, 0⟩ (.op ⟨.raw, 0, true, 0⟩ (.op ⟨.raw, 0, true, 0⟩ (.op ⟨.raw, 0, true, 0⟩ (.op ⟨.raw, 0, true, 0⟩ (.op ⟨.raw, 0, true, 0⟩ (.condL (.op ⟨.raw, 0, true, 0⟩ .nil)))))))))))))))))))))))))))) (.op ⟨.raw, 0, true, 0⟩ (.op ⟨.raw, 0, true, 0⟩ (.op ⟨.raw, 0, true, 0⟩ (.op ⟨.raw, 0, true, 0⟩ (.op ⟨.raw, 0, true, 0⟩ (.op ⟨.raw, 0, true, 0⟩ (.op ⟨.raw, 0, true, 0⟩ (.op ⟨.raw, 0, true, 0⟩ (.op ⟨.raw, 0, true, 0⟩ (.op ⟨.raw, 0, true, 0⟩ (.op ⟨.raw, 0, true, 0⟩ (.op ⟨.raw, 0, true, 0⟩ (.op ⟨.raw, 0, true, 0⟩ (.op ⟨.raw, 0, true, 0⟩ (.op ⟨.raw, 0, true, 0⟩ (.op ⟨.raw, 0, true, 0⟩ (.op ⟨.raw, 0, true, 0⟩ (.op ⟨.raw, 0, true, 0⟩ (.op ⟨.raw, 0, true, 0⟩ (.op ⟨.raw, 0, true, 0⟩ (.op ⟨.raw, 0, true, 0⟩ (.op ⟨.raw, 0, true, 0⟩ (.op ⟨.raw, 0, true, 0⟩ (.op ⟨.raw, 0, true, 0⟩ (.op ⟨.raw, 0, true, 0⟩ (.op ⟨.raw, 0, true, 0⟩ (.condL (.op ⟨.raw, 0, true, 0⟩ .nil))))))))))))))))))))))))))))))))) (.op ⟨.raw, 0, true, 0⟩ (.op ⟨.raw, 0, true, 0⟩ (.op ⟨.raw, 0, true, 0⟩ (.op ⟨.raw, 0, true, 0⟩ (.op ⟨.raw, 0, true, 0⟩ (.op ⟨.raw, 0, true, 0⟩ (.op ⟨.raw, 0, true, 0⟩ (.op ⟨.raw, 0, true, 0⟩ (.op ⟨.raw, 0, true, 0⟩ (.op ⟨.raw, 0, true, 0⟩ (.op ⟨.raw, 0, true, 0⟩ (.op ⟨.raw, 0, true, 0⟩ (.op ⟨.raw, 0, true, 0⟩ (.op ⟨.raw, 0, true, 0⟩ (.op ⟨.raw, 0, true, 0⟩ (.op ⟨.raw, 0, true, 0⟩ (.op ⟨.raw, 0, true, 0⟩ (.op ⟨.raw, 0, true, 0⟩ (.op ⟨.raw, 0, true, 0⟩ (.op ⟨.raw, 0, true, 0⟩ (.op ⟨.raw, 0, true, 0⟩ (.op ⟨.raw, 0, true, 0⟩ (.op ⟨.raw, 0, true, 0⟩ (.op ⟨.raw, 0, true, 0⟩ (.op ⟨.raw, 0, true, 0⟩ (.op ⟨.raw, 0, true, 0⟩ (.op ⟨.raw, 0, true, 0⟩ (.op ⟨.raw, 0, true, 0⟩ (.op ⟨.raw, 0, true, 0⟩ (.op ⟨.raw, 0, true, 0⟩ (.op ⟨.raw, 0, true, 0⟩ (.condL (.op ⟨.raw, 0, true, 0⟩ .nil))))))))))))))))))))))))))))))))))))))))))))))))))))))))))))))))))))))))))))))))))))))))))))))))) (args := [(.av (.str name1))]) hF (by simp [oks, SV.ok]) (Eq.mp (α := D10 M name1 h P) (by kernel_rfl) hd)
/-- lockless/locklesslaw16.LibSources -/
def D5 (M : Model) (which1 : Int) (name1 : List UInt8) (h : Heap) (P : AV → Heap → Prop) : Prop :=
CallE M 24 [] h fun rv1 t1 =>
∃ (b1 : Bool), rv1 = (.bool b1) ∧
((!b1) = true → P (.bool false) t1) ∧
((!b1) = false →
CallE M 26 [(.int .i64 which1)] (h ++ t1) fun rv2 t2 =>
∃ (w1 : List UInt8), rv2 = (.str w1) ∧
CallE M 29 [(.str w1)] (h ++ (t1 ++ t2)) fun rv3 t3 =>
∃ (r1 : List UInt8) (r2 : Int), rv3 = (.tuple [(.str r1), (.int .i64 r2)]) ∧
CallE M 29 [(.str name1)] (h ++ (t1 ++ (t2 ++ t3))) fun rv4 t4 =>
∃ (r3 : List UInt8) (r4 : Int), rv4 = (.tuple [(.str r3), (.int .i64 r4)]) ∧
CallE M 30 [(.str name1)] (h ++ (t1 ++ (t2 ++ (t3 ++ t4)))) fun rv5 t5 =>
∃ (w2 : List UInt8), rv5 = (.str w2) ∧
((w2 == []) = true →
CallE M 26 [(.int .i64 which1)] (h ++ (t1 ++ (t2 ++ (t3 ++ (t4 ++ t5))))) fun rv6 t6 =>
∃ (w3 : List UInt8), rv6 = (.str w3) ∧
CallE M 30 [(.str w3)] (h ++ (t1 ++ (t2 ++ (t3 ++ (t4 ++ (t5 ++ t6)))))) fun rv7 t7 =>
∃ (w4 : List UInt8), rv7 = (.str w4) ∧
((r1 == w4) = true → ((r2 == 0) = true → ((r3 == []) = true → P (.bool (r4 == 5)) (t1 ++ (t2 ++ (t3 ++ (t4 ++ (t5 ++ (t6 ++ t7))))))) ∧
((r3 == []) = false → P (.bool false) (t1 ++ (t2 ++ (t3 ++ (t4 ++ (t5 ++ (t6 ++ t7)))))))) ∧
((r2 == 0) = false → P (.bool false) (t1 ++ (t2 ++ (t3 ++ (t4 ++ (t5 ++ (t6 ++ t7)))))))) ∧
((r1 == w4) = false → P (.bool false) (t1 ++ (t2 ++ (t3 ++ (t4 ++ (t5 ++ (t6 ++ t7)))))))) ∧
((w2 == []) = false →
CallE M 26 [(.int .i64 which1)] (h ++ (t1 ++ (t2 ++ (t3 ++ (t4 ++ t5))))) fun rv8 t8 =>
∃ (w5 : List UInt8), rv8 = (.str w5) ∧
CallE M 30 [(.str w5)] (h ++ (t1 ++ (t2 ++ (t3 ++ (t4 ++ (t5 ++ t8)))))) fun rv9 t9 =>
∃ (w6 : List UInt8), rv9 = (.str w6) ∧
((r1 == w6) = true → ((r2 == 0) = true → ((r3 == w2) = true → P (.bool (r4 == 0)) (t1 ++ (t2 ++ (t3 ++ (t4 ++ (t5 ++ (t8 ++ t9))))))) ∧
((r3 == w2) = false → P (.bool false) (t1 ++ (t2 ++ (t3 ++ (t4 ++ (t5 ++ (t8 ++ t9)))))))) ∧
((r2 == 0) = false → P (.bool false) (t1 ++ (t2 ++ (t3 ++ (t4 ++ (t5 ++ (t8 ++ t9)))))))) ∧
((r1 == w6) = false → P (.bool false) (t1 ++ (t2 ++ (t3 ++ (t4 ++ (t5 ++ (t8 ++ t9)))))))))
theorem d5 {M : Model} {which1 : Int} {name1 : List UInt8} {h : Heap} {P : AV → Heap → Prop} (hF : M.fn 5 = some F5) (hd : D5 M which1 name1 h P) : CallE M 5 [(.int .i64 which1), (.str name1)] h P :=
  callE_of_wp (hi := (.op ⟨.raw, 0, true, 0⟩ (.op ⟨.bool, 0, true, 0⟩ (.op ⟨.raw, 0, true, 0⟩ (.condS (.op ⟨.raw, 0, true, 0⟩ .nil) (.op ⟨.raw, 0, true, 0⟩ (.op ⟨.str, 0, true, 0⟩ (.op ⟨(.tup [.str, (.int .i64)]), 0, true, 0⟩ (.op ⟨.raw, 0, true, 0⟩ (.op ⟨.raw, 0, true, 0⟩ (.op ⟨.raw, 0, true, 0⟩ (.op ⟨.raw, 0, true, 0⟩ (.op ⟨.raw, 0, true, 0⟩ (.op ⟨.raw, 0, true, 0⟩ (.op ⟨(.tup [.str, (.int .i64)]), 0, true, 0⟩ (.op ⟨.raw, 0, true, 0⟩ (.op ⟨.raw, 0, true, 0⟩ (.op ⟨.raw, 0, true, 0⟩ (.op ⟨.raw, 0, true, 0⟩ (.op ⟨.raw, 0, true, 0⟩ (.op ⟨.raw, 0, true, 0⟩ (.op ⟨.str, 0, true, 0⟩ (.op ⟨.raw, 0, true, 0⟩ (.op ⟨.raw, 0, true, 0⟩ (.op ⟨.raw, 0, true, 0⟩ (.condS (.op ⟨.raw, 0, true, 0⟩ (.op ⟨.raw, 0, true, 0⟩ (.op ⟨.str, 0, true, 0⟩ (.op ⟨.str, 0, true, 0⟩ (.op ⟨.raw, 0, true, 0⟩ (.op ⟨.raw, 0, true, 0⟩ (.split ⟨.raw, 0, true, 0⟩ (.op ⟨.raw, 0, true, 0⟩ (.op ⟨.raw, 0, true, 0⟩ (.op ⟨.raw, 0, true, 0⟩ (.split ⟨.raw, 0, true, 0⟩ (.op ⟨.raw, 0, true, 0⟩ (.op ⟨.raw, 0, true, 0⟩ (.op ⟨.raw, 0, true, 0⟩ (.split ⟨.raw, 0, true, 0⟩ (.op ⟨.raw, 0, true, 0⟩ (.op ⟨.raw, 0, true, 0⟩ (.op ⟨.raw, 0, true, 0⟩ .nil))) (.op ⟨.raw, 0, true, 0⟩ (.op ⟨.raw, 0, true, 0⟩ (.op ⟨.raw, 0, true, 0⟩ .nil))))))) (.op ⟨.raw, 0, true, 0⟩ (.op ⟨.raw, 0, true, 0⟩ (.op ⟨.raw, 0, true, 0⟩ (.op ⟨.raw, 0, true, 0⟩ (.op ⟨.raw, 0, true, 0⟩ (.op ⟨.raw, 0, true, 0⟩ (.op ⟨.raw, 0, true, 0⟩ .nil))))))))))) (.op ⟨.raw, 0, true, 0⟩ (.op ⟨.raw, 0, true, 0⟩ (.op ⟨.raw, 0, true, 0⟩ (.op ⟨.raw, 0, true, 0⟩ (.op ⟨.raw, 0, true, 0⟩ (.op ⟨.raw, 0, true, 0⟩ (.op ⟨.raw, 0, true, 0⟩ (.op ⟨.raw, 0, true, 0⟩ (.op ⟨.raw, 0, true, 0⟩ (.op ⟨.raw, 0, true, 0⟩ (.op ⟨.raw, 0, true, 0⟩ .nil)))))))))))))))))) (.op ⟨.raw, 0, true, 0⟩ (.op ⟨.raw, 0, true, 0⟩ (.op ⟨.str, 0, true, 0⟩ (.op ⟨.str, 0, true, 0⟩ (.op ⟨.raw, 0, true, 0⟩ (.op ⟨.raw, 0, true, 0⟩ (.split ⟨.raw, 0, true, 0⟩ (.op ⟨.raw, 0, true, 0⟩ (.op ⟨.raw, 0, true, 0⟩ (.op ⟨.raw, 0, true, 0⟩ (.split ⟨.raw, 0, true, 0⟩ (.op ⟨.raw, 0, true, 0⟩ (.op ⟨.raw, 0, true, 0⟩ (.op ⟨.raw, 0, true, 0⟩ (.op ⟨.raw, 0, true, 0⟩ (.split ⟨.raw, 0, true, 0⟩ (.op ⟨.raw, 0, true, 0⟩ (.op ⟨.raw, 0, true, 0⟩ (.op ⟨.raw, 0, true, 0⟩ .nil))) (.op ⟨.raw, 0, true, 0⟩ (.op ⟨.raw, 0, true, 0⟩ (.op ⟨.raw, 0, true, 0⟩ .nil)))))))) (.op ⟨.raw, 0, true, 0⟩ (.op ⟨.raw, 0, true, 0⟩ (.op ⟨.raw, 0, true, 0⟩ (.op ⟨.raw, 0, true, 0⟩ (.op ⟨.raw, 0, true, 0⟩ (.op ⟨.raw, 0, true, 0⟩ (.op ⟨.raw, 0, true, 0⟩ (.op ⟨.raw, 0, true, 0⟩ .nil)))))))))))) (.op ⟨.raw, 0, true, 0⟩ (.op ⟨.raw, 0, true, 0⟩ (.op ⟨.raw, 0, true, 0⟩ (.op ⟨.raw, 0, true, 0⟩ (.op ⟨.raw, 0, true, 0⟩ (.op ⟨.raw, 0, true, 0⟩ (.op ⟨.raw, 0, true, 0⟩ (.op ⟨.raw, 0, true, 0⟩ (.op ⟨.raw, 0, true, 0⟩ (.op ⟨.raw, 0, true, 0⟩ (.op ⟨.raw, 0, true, 0⟩ (.op ⟨.raw, 0, true, 0⟩ .nil))))))))))))))))))))))))))))))))))))))))))))) (args := [(.av (.int .i64 which1)), (.av (.str name1))]) hF (by simp [oks, SV.ok]) (Eq.mp (α := D5 M which1 name1 h P) (by kernel_rfl) hd)
/-- lockless/locklesslaw16.LibTakes -/
def D6 (M : Model) (which1 : Int) (op1 : List UInt8) (h : Heap) (P : AV → Heap → Prop) : Prop :=
CallE M 24 [] h fun rv1 t1 =>
∃ (b1 : Bool), rv1 = (.bool b1) ∧
((!b1) = true → P (.bool false) t1) ∧
((!b1) = false →
CallE M 26 [(.int .i64 which1)] (h ++ t1) fun rv2 t2 =>
∃ (w1 : List UInt8), rv2 = (.str w1) ∧
CallE M 31 [(.str w1)] (h ++ (t1 ++ t2)) fun rv3 t3 =>
∃ (r1 : List UInt8) (r2 : Int) (r3 : Slc) (r4 : Int) (r5 : Int) (r6 : Bool) (r7 : Bool) (r8 : Bool), rv3 = (.tuple [(.agg [(.str r1), (.int .i64 r2), r3.av, (.int .i64 r4), (.int .i64 r5), (.bool r6), (.bool r7)]), (.bool r8)]) ∧
CallE M 32 [(.str r1), (.str op1)] (h ++ (t1 ++ (t2 ++ (t3 ++ [AObj.arr [(.str r1), (.int .i64 r2), r3.av, (.int .i64 r4), (.int .i64 r5), (.bool r6), (.bool r7)] 7 false])))) fun rv4 t4 =>
∃ (r9 : Int) (r10 : Int), rv4 = (.tuple [(.int .i64 r9), (.int .i64 r10)]) ∧
CallE M 33 [(.agg [(.str r1), (.int .i64 r2), r3.av, (.int .i64 r4), (.int .i64 r5), (.bool r6), (.bool r7)]), (.str op1)] (h ++ (t1 ++ (t2 ++ (t3 ++ (AObj.arr [(.str r1), (.int .i64 r2), r3.av, (.int .i64 r4), (.int .i64 r5), (.bool r6), (.bool r7)] 7 false :: t4))))) fun rv5 t5 =>
∃ (n1 : Int), rv5 = (.int .i64 n1) ∧
((op1.length + ([42] : List UInt8).length : Nat) : Int) ≤ 9223372036854775807 ∧
CallE M 32 [(.str (op1 ++ [42])), (.str op1)] (h ++ (t1 ++ (t2 ++ (t3 ++ (AObj.arr [(.str r1), (.int .i64 r2), r3.av, (.int .i64 r4), (.int .i64 r5), (.bool r6), (.bool r7)] 7 false :: (t4 ++ t5)))))) fun rv6 t6 =>
∃ (r11 : Int) (r12 : Int), rv6 = (.tuple [(.int .i64 r11), (.int .i64 r12)]) ∧
((r11 != 0) = false → ((r12 != 5) = true → P (.bool false) (t1 ++ (t2 ++ (t3 ++ (AObj.arr [(.str r1), (.int .i64 r2), r3.av, (.int .i64 r4), (.int .i64 r5), (.bool r6), (.bool r7)] 7 false :: (t4 ++ (t5 ++ t6))))))) ∧
((r12 != 5) = false → ∃ (I1 : Nat → Int → Heap → Prop), (∃ n2, I1 n2 (0 : Int) ([] : Heap)) ∧
∀ (n3 : Nat) (i1 : Int) (t7 : Heap), I1 n3 i1 t7 → ((decide (i1 < ((r3.len : Nat) : Int))) = true → (0 ≤ i1 ∧
i1 < (r3.len : Int)) ∧
∃ (w2 : List UInt8), rdVar (h ++ (t1 ++ (t2 ++ (t3 ++ (AObj.arr [(.str r1), (.int .i64 r2), r3.av, (.int .i64 r4), (.int .i64 r5), (.bool r6), (.bool r7)] 7 false :: (t4 ++ (t5 ++ (t6 ++ t7)))))))) none r3.b (r3.o + (i1 : Int).toNat * 3) = some (.str w2) ∧
CallE M 32 [(.str r1), (.str w2)] (h ++ (t1 ++ (t2 ++ (t3 ++ (AObj.arr [(.str r1), (.int .i64 r2), r3.av, (.int .i64 r4), (.int .i64 r5), (.bool r6), (.bool r7)] 7 false :: (t4 ++ (t5 ++ (t6 ++ t7)))))))) fun rv7 t8 =>
∃ (r13 : Int) (r14 : Int), rv7 = (.tuple [(.int .i64 r13), (.int .i64 r14)]) ∧
(0 ≤ i1 ∧
i1 < (r3.len : Int)) ∧
∃ (n5 : Int), rdVar (h ++ (t1 ++ (t2 ++ (t3 ++ (AObj.arr [(.str r1), (.int .i64 r2), r3.av, (.int .i64 r4), (.int .i64 r5), (.bool r6), (.bool r7)] 7 false :: (t4 ++ (t5 ++ (t6 ++ (t7 ++ t8))))))))) none r3.b ((r3.o + (i1 : Int).toNat * 3) + 1) = some (.int .i64 n5) ∧
((r13 != n5) = false → ((r14 != 0) = true → P (.bool false) (t1 ++ (t2 ++ (t3 ++ (AObj.arr [(.str r1), (.int .i64 r2), r3.av, (.int .i64 r4), (.int .i64 r5), (.bool r6), (.bool r7)] 7 false :: (t4 ++ (t5 ++ (t6 ++ (t7 ++ t8))))))))) ∧
((r14 != 0) = false → ∃ n4, n4 < n3 ∧
I1 n4 (IntKind.wrap .i64 (i1 + 1)) (t7 ++ t8))) ∧
((r13 != n5) = true → P (.bool false) (t1 ++ (t2 ++ (t3 ++ (AObj.arr [(.str r1), (.int .i64 r2), r3.av, (.int .i64 r4), (.int .i64 r5), (.bool r6), (.bool r7)] 7 false :: (t4 ++ (t5 ++ (t6 ++ (t7 ++ t8)))))))))) ∧
((decide (i1 < ((r3.len : Nat) : Int))) = false → ((decide (n1 < 0)) = true → ((r9 == 0) = true → P (.bool (r10 == 1)) (t1 ++ (t2 ++ (t3 ++ (AObj.arr [(.str r1), (.int .i64 r2), r3.av, (.int .i64 r4), (.int .i64 r5), (.bool r6), (.bool r7)] 7 false :: (t4 ++ (t5 ++ (t6 ++ t7)))))))) ∧
((r9 == 0) = false → P (.bool false) (t1 ++ (t2 ++ (t3 ++ (AObj.arr [(.str r1), (.int .i64 r2), r3.av, (.int .i64 r4), (.int .i64 r5), (.bool r6), (.bool r7)] 7 false :: (t4 ++ (t5 ++ (t6 ++ t7))))))))) ∧
((decide (n1 < 0)) = false → ((r9 == n1) = true → P (.bool (r10 == 0)) (t1 ++ (t2 ++ (t3 ++ (AObj.arr [(.str r1), (.int .i64 r2), r3.av, (.int .i64 r4), (.int .i64 r5), (.bool r6), (.bool r7)] 7 false :: (t4 ++ (t5 ++ (t6 ++ t7)))))))) ∧
((r9 == n1) = false → P (.bool false) (t1 ++ (t2 ++ (t3 ++ (AObj.arr [(.str r1), (.int .i64 r2), r3.av, (.int .i64 r4), (.int .i64 r5), (.bool r6), (.bool r7)] 7 false :: (t4 ++ (t5 ++ (t6 ++ t7)))))))))))) ∧
((r11 != 0) = true → P (.bool false) (t1 ++ (t2 ++ (t3 ++ (AObj.arr [(.str r1), (.int .i64 r2), r3.av, (.int .i64 r4), (.int .i64 r5), (.bool r6), (.bool r7)] 7 false :: (t4 ++ (t5 ++ t6))))))))
theorem d6 {M : Model} {which1 : Int} {op1 : List UInt8} {h : Heap} {P : AV → Heap → Prop} (hF : M.fn 6 = some F6) (hd : D6 M which1 op1 h P) : CallE M 6 [(.int .i64 which1), (.str op1)] h P :=
  callE_of_wp (hi := (.op ⟨.raw, 0, true, 0⟩ (.op ⟨.bool, 0, true, 0⟩ (.op ⟨.raw, 0, true, 0⟩ (.condS (.op ⟨.raw, 0, true, 0⟩ .nil) (.op ⟨.raw, 0, true, 0⟩ (.op ⟨.str, 0, true, 0⟩ (.op ⟨(.tup [(.agg [.str, (.int .i64), .slc, (.int .i64), (.int .i64), .bool, .bool]), .bool]), 0, true, 0⟩ (.op ⟨.raw, 0, true, 0⟩ (.op ⟨.raw, 0, true, 0⟩ (.op ⟨.raw, 0, true, 0⟩ (.op ⟨.raw, 0, true, 0⟩ (.op ⟨.raw, 0, true, 0⟩ (.op ⟨.raw, 0, true, 0⟩ (.op ⟨.raw, 0, true, 0⟩ (.op ⟨.raw, 0, true, 0⟩ (.op ⟨.raw, 0, true, 0⟩ (.op ⟨(.tup [(.int .i64), (.int .i64)]), 0, true, 0⟩ (.op ⟨.raw, 0, true, 0⟩ (.op ⟨.raw, 0, true, 0⟩ (.op ⟨.raw, 0, true, 0⟩ (.op ⟨.raw, 0, true, 0⟩ (.op ⟨.raw, 0, true, 0⟩ (.op ⟨.raw, 0, true, 0⟩ (.op ⟨.raw, 0, true, 0⟩ (.op ⟨(.int .i64), 0, true, 0⟩ (.op ⟨.raw, 0, true, 0⟩ (.op ⟨.raw, 0, true, 0⟩ (.op ⟨.raw, 0, true, 1⟩ (.op ⟨.raw, 0, true, 0⟩ (.op ⟨(.tup [(.int .i64), (.int .i64)]), 0, true, 0⟩ (.op ⟨.raw, 0, true, 0⟩ (.op ⟨.raw, 0, true, 0⟩ (.op ⟨.raw, 0, true, 0⟩ (.op ⟨.raw, 0, true, 0⟩ (.op ⟨.raw, 0, true, 0⟩ (.op ⟨.raw, 0, true, 0⟩ (.op ⟨.raw, 0, true, 0⟩ (.op ⟨.raw, 0, true, 0⟩ (.split ⟨.raw, 0, true, 0⟩ (.op ⟨.raw, 0, true, 0⟩ (.op ⟨.raw, 0, true, 0⟩ (.condS (.op ⟨.raw, 0, true, 0⟩ .nil) (.op ⟨.raw, 0, true, 0⟩ (.loop ⟨8, [], [(12, (.int .i64))]⟩ (.op ⟨.raw, 0, true, 0⟩ (.op ⟨.raw, 0, true, 0⟩ (.op ⟨.raw, 0, true, 0⟩ (.op ⟨.raw, 0, true, 0⟩ (.op ⟨.raw, 0, true, 0⟩ (.condS (.op ⟨.raw, 0, true, 0⟩ (.op ⟨.raw, 0, true, 0⟩ (.op ⟨.raw, 0, true, 0⟩ (.op ⟨.raw, 0, true, 0⟩ (.op ⟨.raw, 0, true, 0⟩ (.op ⟨.raw, 0, true, 0⟩ (.op ⟨.raw, 0, true, 0⟩ (.op ⟨.str, 9, true, 0⟩ (.op ⟨(.tup [(.int .i64), (.int .i64)]), 0, true, 0⟩ (.op ⟨.raw, 0, true, 0⟩ (.op ⟨.raw, 0, true, 0⟩ (.op ⟨.raw, 0, true, 0⟩ (.op ⟨.raw, 0, true, 0⟩ (.op ⟨.raw, 0, true, 0⟩ (.op ⟨.raw, 0, true, 0⟩ (.op ⟨.raw, 0, true, 0⟩ (.op ⟨.raw, 0, true, 0⟩ (.op ⟨.raw, 0, true, 0⟩ (.op ⟨.raw, 0, true, 0⟩ (.op ⟨.raw, 0, true, 0⟩ (.op ⟨(.int .i64), 10, true, 0⟩ (.op ⟨.raw, 0, true, 0⟩ (.op ⟨.raw, 0, true, 0⟩ (.split ⟨.raw, 0, true, 0⟩ (.op ⟨.raw, 0, true, 0⟩ (.op ⟨.raw, 0, true, 0⟩ (.condS (.op ⟨.raw, 0, true, 0⟩ .nil) (.op ⟨.raw, 0, true, 0⟩ (.op ⟨.raw, 0, true, 0⟩ (.op ⟨.raw, 0, true, 0⟩ .nil)))))) (.op ⟨.raw, 0, true, 0⟩ (.op ⟨.raw, 0, true, 0⟩ (.condL (.op ⟨.raw, 0, true, 0⟩ .nil)))))))))))))))))))))))))))) (.op ⟨.raw, 0, true, 0⟩ (.op ⟨.raw, 0, true, 0⟩ (.condS (.op ⟨.raw, 0, true, 0⟩ (.op ⟨.raw, 0, true, 0⟩ (.op ⟨.raw, 0, true, 0⟩ (.split ⟨.raw, 0, true, 0⟩ (.op ⟨.raw, 0, true, 0⟩ (.op ⟨.raw, 0, true, 0⟩ (.op ⟨.raw, 0, true, 0⟩ .nil))) (.op ⟨.raw, 0, true, 0⟩ (.op ⟨.raw, 0, true, 0⟩ (.op ⟨.raw, 0, true, 0⟩ .nil))))))) (.op ⟨.raw, 0, true, 0⟩ (.op ⟨.raw, 0, true, 0⟩ (.op ⟨.raw, 0, true, 0⟩ (.op ⟨.raw, 0, true, 0⟩ (.split ⟨.raw, 0, true, 0⟩ (.op ⟨.raw, 0, true, 0⟩ (.op ⟨.raw, 0, true, 0⟩ (.op ⟨.raw, 0, true, 0⟩ .nil))) (.op ⟨.raw, 0, true, 0⟩ (.op ⟨.raw, 0, true, 0⟩ (.op ⟨.raw, 0, true, 0⟩ .nil)))))))))))))))))))))) (.op ⟨.raw, 0, true, 0⟩ (.op ⟨.raw, 0, true, 0⟩ (.condL (.op ⟨.raw, 0, true, 0⟩ .nil)))))))))))))))))))))))))))))))))))))))))))) (args := [(.av (.int .i64 which1)), (.av (.str op1))]) hF (by simp [oks, SV.ok]) (Eq.mp (α := D6 M which1 op1 h P) (by kernel_rfl) hd)
/-- lockless/lib.Source -/
def D29 (M : Model) (name1 : List UInt8) (h : Heap) (P : AV → Heap → Prop) : Prop :=
CallE M 74 [(.str name1)] h fun rv1 t1 =>
∃ (r1 : List UInt8) (r2 : List UInt8) (r3 : Int) (r4 : Slc) (r5 : Int) (r6 : Int) (r7 : Bool) (r8 : Bool) (r9 : Bool) (r10 : Bool), rv1 = (.tuple [(.agg [(.str r1), (.str r2), (.int .i64 r3), r4.av, (.int .i64 r5), (.int .i64 r6), (.bool r7), (.bool r8), (.bool r9)]), (.bool r10)]) ∧
((!r10) = true → P (.tuple [(.str []), (.int .i64 5)]) (t1 ++ [AObj.arr [(.str r1), (.str r2), (.int .i64 r3), r4.av, (.int .i64 r5), (.int .i64 r6), (.bool r7), (.bool r8), (.bool r9)] 9 false])) ∧
((!r10) = false → P (.tuple [(.str r2), (.int .i64 0)]) (t1 ++ [AObj.arr [(.str r1), (.str r2), (.int .i64 r3), r4.av, (.int .i64 r5), (.int .i64 r6), (.bool r7), (.bool r8), (.bool r9)] 9 false]))
theorem d29 {M : Model} {name1 : List UInt8} {h : Heap} {P : AV → Heap → Prop} (hF : M.fn 29 = some F29) (hd : D29 M name1 h P) : CallE M 29 [(.str name1)] h P :=
  callE_of_wp (hi := (.op ⟨.raw, 0, true, 0⟩ (.op ⟨.raw, 0, true, 0⟩ (.op ⟨.raw, 0, true, 0⟩ (.op ⟨(.tup [(.agg [.str, .str, (.int .i64), .slc, (.int .i64), (.int .i64), .bool, .bool, .bool]), .bool]), 0, true, 0⟩ (.op ⟨.raw, 0, true, 0⟩ (.op ⟨.raw, 0, true, 0⟩ (.op ⟨.raw, 0, true, 0⟩ (.op ⟨.raw, 0, true, 0⟩ (.op ⟨.raw, 0, true, 0⟩ (.op ⟨.raw, 0, true, 0⟩ (.op ⟨.raw, 0, true, 0⟩ (.op ⟨.raw, 0, true, 0⟩ (.condS (.op ⟨.raw, 0, true, 0⟩ (.op ⟨.raw, 0, true, 0⟩ .nil)) (.op ⟨.raw, 0, true, 0⟩ (.op ⟨.raw, 0, true, 0⟩ (.op ⟨.raw, 0, true, 0⟩ (.op ⟨.raw, 0, true, 0⟩ .nil)))))))))))))))))) (args := [(.av (.str name1))]) hF (by simp [oks, SV.ok]) (Eq.mp (α := D29 M name1 h P) (by kernel_rfl) hd)
/-- lockless/locklessref16.Source -/
def D30 (M : Model) (s : Nat → List UInt8) (name1 : List UInt8) (h : Heap) (P : AV → Heap → Prop) : Prop :=
((name1 == [115, 116, 97, 99, 107]) = true → P (.str (s 0)) ([] : Heap)) ∧
((name1 == [115, 116, 97, 99, 107]) = false → ((name1 == [101, 108, 105, 109]) = true → P (.str (s 1)) ([] : Heap)) ∧
((name1 == [101, 108, 105, 109]) = false → ((name1 == [113, 117, 101, 117, 101]) = true → P (.str (s 2)) ([] : Heap)) ∧
((name1 == [113, 117, 101, 117, 101]) = false → ((name1 == [114, 105, 110, 103]) = true → P (.str (s 3)) ([] : Heap)) ∧
((name1 == [114, 105, 110, 103]) = false → ((name1 == [100, 101, 113, 117, 101]) = true → P (.str (s 4)) ([] : Heap)) ∧
((name1 == [100, 101, 113, 117, 101]) = false → ((name1 == [112, 113]) = true → P (.str (s 5)) ([] : Heap)) ∧
((name1 == [112, 113]) = false → ((name1 == [108, 97, 110, 101, 115]) = true → P (.str (s 6)) ([] : Heap)) ∧
((name1 == [108, 97, 110, 101, 115]) = false → ((name1 == [108, 105, 115, 116]) = true → P (.str (s 7)) ([] : Heap)) ∧
((name1 == [108, 105, 115, 116]) = false → ((name1 == [115, 107, 105, 112]) = true → P (.str (s 8)) ([] : Heap)) ∧
((name1 == [115, 107, 105, 112]) = false → ((name1 == [116, 114, 101, 101]) = true → P (.str (s 9)) ([] : Heap)) ∧
((name1 == [116, 114, 101, 101]) = false → ((name1 == [116, 114, 105, 101]) = true → P (.str (s 10)) ([] : Heap)) ∧
((name1 == [116, 114, 105, 101]) = false → ((name1 == [104, 97, 115, 104]) = true → P (.str (s 11)) ([] : Heap)) ∧
((name1 == [104, 97, 115, 104]) = false → ((name1 == [110, 101, 116]) = true → P (.str (s 12)) ([] : Heap)) ∧
((name1 == [110, 101, 116]) = false → ((name1 == [119, 105, 100, 101]) = true → P (.str (s 13)) ([] : Heap)) ∧
((name1 == [119, 105, 100, 101]) = false → ((name1 == [115, 110, 97, 112]) = true → P (.str (s 14)) ([] : Heap)) ∧
((name1 == [115, 110, 97, 112]) = false → ((name1 == [117, 110, 105, 111, 110]) = true → P (.str (s 15)) ([] : Heap)) ∧
((name1 == [117, 110, 105, 111, 110]) = false → ((name1 == [112, 97, 105, 114]) = true → P (.str (s 16)) ([] : Heap)) ∧
((name1 == [112, 97, 105, 114]) = false → ((name1 == [117, 110, 105]) = true → P (.str (s 17)) ([] : Heap)) ∧
((name1 == [117, 110, 105]) = false → ((name1 == [116, 119, 105, 110]) = true → P (.str (s 18)) ([] : Heap)) ∧
((name1 == [116, 119, 105, 110]) = false → ((name1 == [116, 97, 108, 108, 121]) = true → P (.str (s 19)) ([] : Heap)) ∧
((name1 == [116, 97, 108, 108, 121]) = false → ((name1 == [98, 97, 114, 101]) = true → P (.str (s 20)) ([] : Heap)) ∧
((name1 == [98, 97, 114, 101]) = false → P (.str []) ([] : Heap))))))))))))))))))))))
theorem d30 {M : Model} {s : Nat → List UInt8} {name1 : List UInt8} {h : Heap} {P : AV → Heap → Prop} (hF : M.fn 30 = some (F30 s)) (hd : D30 M s name1 h P) : CallE M 30 [(.str name1)] h P :=
  callE_of_wp (hi := (.op ⟨.raw, 0, true, 0⟩ (.op ⟨.raw, 0, true, 0⟩ (.op ⟨.raw, 0, true, 0⟩ (.op ⟨.raw, 0, true, 0⟩ (.condS (.op ⟨.raw, 0, true, 0⟩ .nil) (.op ⟨.raw, 0, true, 0⟩ (.op ⟨.raw, 0, true, 0⟩ (.condS (.op ⟨.raw, 0, true, 0⟩ .nil) (.op ⟨.raw, 0, true, 0⟩ (.op ⟨.raw, 0, true, 0⟩ (.condS (.op ⟨.raw, 0, true, 0⟩ .nil) (.op ⟨.raw, 0, true, 0⟩ (.op ⟨.raw, 0, true, 0⟩ (.condS (.op ⟨.raw, 0, true, 0⟩ .nil) (.op ⟨.raw, 0, true, 0⟩ (.op ⟨.raw, 0, true, 0⟩ (.condS (.op ⟨.raw, 0, true, 0⟩ .nil) (.op ⟨.raw, 0, true, 0⟩ (.op ⟨.raw, 0, true, 0⟩ (.condS (.op ⟨.raw, 0, true, 0⟩ .nil) (.op ⟨.raw, 0, true, 0⟩ (.op ⟨.raw, 0, true, 0⟩ (.condS (.op ⟨.raw, 0, true, 0⟩ .nil) (.op ⟨.raw, 0, true, 0⟩ (.op ⟨.raw, 0, true, 0⟩ (.condS (.op ⟨.raw, 0, true, 0⟩ .nil) (.op ⟨.raw, 0, true, 0⟩ (.op ⟨.raw, 0, true, 0⟩ (.condS (.op ⟨.raw, 0, true, 0⟩ .nil) (.op ⟨.raw, 0, true, 0⟩ (.op ⟨.raw, 0, true, 0⟩ (.condS (.op ⟨.raw, 0, true, 0⟩ .nil) (.op ⟨.raw, 0, true, 0⟩ (.op ⟨.raw, 0, true, 0⟩ (.condS (.op ⟨.raw, 0, true, 0⟩ .nil) (.op ⟨.raw, 0, true, 0⟩ (.op ⟨.raw, 0, true, 0⟩ (.condS (.op ⟨.raw, 0, true, 0⟩ .nil) (.op ⟨.raw, 0, true, 0⟩ (.op ⟨.raw, 0, true, 0⟩ (.condS (.op ⟨.raw, 0, true, 0⟩ .nil) (.op ⟨.raw, 0, true, 0⟩ (.op ⟨.raw, 0, true, 0⟩ (.condS (.op ⟨.raw, 0, true, 0⟩ .nil) (.op ⟨.raw, 0, true, 0⟩ (.op ⟨.raw, 0, true, 0⟩ (.condS (.op ⟨.raw, 0, true, 0⟩ .nil) (.op ⟨.raw, 0, true, 0⟩ (.op ⟨.raw, 0, true, 0⟩ (.condS (.op ⟨.raw, 0, true, 0⟩ .nil) (.op ⟨.raw, 0, true, 0⟩ (.op ⟨.raw, 0, true, 0⟩ (.condS (.op ⟨.raw, 0, true, 0⟩ .nil) (.op ⟨.raw, 0, true, 0⟩ (.op ⟨.raw, 0, true, 0⟩ (.condS (.op ⟨.raw, 0, true, 0⟩ .nil) (.op ⟨.raw, 0, true, 0⟩ (.op ⟨.raw, 0, true, 0⟩ (.condS (.op ⟨.raw, 0, true, 0⟩ .nil) (.op ⟨.raw, 0, true, 0⟩ (.op ⟨.raw, 0, true, 0⟩ (.condS (.op ⟨.raw, 0, true, 0⟩ .nil) (.op ⟨.raw, 0, true, 0⟩ (.op ⟨.raw, 0, true, 0⟩ (.condS (.op ⟨.raw, 0, true, 0⟩ .nil) (.op ⟨.raw, 0, true, 0⟩ .nil))))))))))))))))))))))))))))))))))))))))))))))))))))))))))))))))))) (args := [(.av (.str name1))]) hF (by simp [oks, SV.ok]) (Eq.mp (α := D30 M s name1 h P) (by kernel_rfl) hd)
/-- lockless/locklessref16.Find -/
def D31 (M : Model) (name1 : List UInt8) (h : Heap) (P : AV → Heap → Prop) : Prop :=
CallE M 27 [] (h ++ [AObj.arr [(.str []), (.int .i64 0), .nilslice, (.int .i64 0), (.int .i64 0), (.bool false), (.bool false)] 7 false]) fun rv1 t1 =>
∃ (l1 : Slc), rv1 = l1.av ∧
∃ (I1 : Nat → Int → (List UInt8) → Int → Slc → Int → Int → Bool → Bool → Heap → Prop), (∃ n1, I1 n1 (0 : Int) ([] : List UInt8) (0 : Int) (Slc.mk 0 0 0 true) (0 : Int) (0 : Int) false false ([] : Heap)) ∧
∀ (n2 : Nat) (i1 : Int) (c1 : List UInt8) (c2 : Int) (c3 : Slc) (c4 : Int) (c5 : Int) (c6 : Bool) (c7 : Bool) (t2 : Heap), I1 n2 i1 c1 c2 c3 c4 c5 c6 c7 t2 → ((decide (i1 < ((l1.len : Nat) : Int))) = true → (0 ≤ i1 ∧
i1 < (l1.len : Int)) ∧
∃ (w1 : List UInt8), rdVar (h ++ (AObj.arr [(.str c1), (.int .i64 c2), c3.av, (.int .i64 c4), (.int .i64 c5), (.bool c6), (.bool c7)] 7 false :: (t1 ++ t2))) none l1.b (l1.o + (i1 : Int).toNat * 7) = some (.str w1) ∧
((w1 == name1) = true → (0 ≤ i1 ∧
i1 < (l1.len : Int)) ∧
∃ (x1 : List UInt8) (x2 : Int) (x3 : Slc) (x4 : Int) (x5 : Int) (x6 : Bool) (x7 : Bool), rdVar (h ++ (AObj.arr [(.str c1), (.int .i64 c2), c3.av, (.int .i64 c4), (.int .i64 c5), (.bool c6), (.bool c7)] 7 false :: (t1 ++ t2))) (some 7) l1.b (l1.o + (i1 : Int).toNat * 7) = some (.agg [(.str x1), (.int .i64 x2), x3.av, (.int .i64 x4), (.int .i64 x5), (.bool x6), (.bool x7)]) ∧
P (.tuple [(.agg [(.str x1), (.int .i64 x2), x3.av, (.int .i64 x4), (.int .i64 x5), (.bool x6), (.bool x7)]), (.bool true)]) (AObj.arr [(.str x1), (.int .i64 x2), x3.av, (.int .i64 x4), (.int .i64 x5), (.bool x6), (.bool x7)] 7 false :: (t1 ++ t2))) ∧
((w1 == name1) = false → ∃ n3, n3 < n2 ∧
I1 n3 (IntKind.wrap .i64 (i1 + 1)) (c1 : List UInt8) c2 c3 c4 c5 c6 c7 t2)) ∧
((decide (i1 < ((l1.len : Nat) : Int))) = false → P (.tuple [(.agg [(.str []), (.int .i64 0), .nilslice, (.int .i64 0), (.int .i64 0), (.bool false), (.bool false)]), (.bool false)]) (AObj.arr [(.str []), (.int .i64 0), .nilslice, (.int .i64 0), (.int .i64 0), (.bool false), (.bool false)] 7 false :: (t1 ++ t2)))
theorem d31 {M : Model} {name1 : List UInt8} {h : Heap} {P : AV → Heap → Prop} (hF : M.fn 31 = some F31) (hd : D31 M name1 h P) : CallE M 31 [(.str name1)] h P :=
  callE_of_wp (hi := (.op ⟨.raw, 0, true, 0⟩ (.op ⟨.raw, 0, true, 0⟩ (.op ⟨.slc, 0, true, 0⟩ (.op ⟨.raw, 0, true, 0⟩ (.op ⟨.raw, 0, true, 0⟩ (.loop ⟨3, [(1, (.agg [.str, (.int .i64), .slc, (.int .i64), (.int .i64), .bool, .bool]), 7)], [(5, (.int .i64))]⟩ (.op ⟨.raw, 0, true, 0⟩ (.op ⟨.raw, 0, true, 0⟩ (.op ⟨.raw, 0, true, 0⟩ (.op ⟨.raw, 0, true, 0⟩ (.condS (.op ⟨.raw, 0, true, 0⟩ (.op ⟨.raw, 0, true, 0⟩ (.op ⟨.raw, 0, true, 0⟩ (.op ⟨.raw, 0, true, 0⟩ (.op ⟨.str, 4, true, 0⟩ (.op ⟨.raw, 0, true, 0⟩ (.op ⟨.raw, 0, true, 0⟩ (.condS (.op ⟨.raw, 0, true, 0⟩ (.op ⟨.raw, 0, true, 0⟩ (.op ⟨.raw, 0, true, 0⟩ (.op ⟨(.agg [.str, (.int .i64), .slc, (.int .i64), (.int .i64), .bool, .bool]), 4, true, 0⟩ (.op ⟨.raw, 0, true, 0⟩ (.op ⟨.raw, 0, true, 0⟩ .nil)))))) (.op ⟨.raw, 0, true, 0⟩ (.op ⟨.raw, 0, true, 0⟩ (.op ⟨.raw, 0, true, 0⟩ .nil))))))))))) (.op ⟨.raw, 0, true, 0⟩ (.op ⟨.raw, 0, true, 0⟩ (.op ⟨.raw, 0, true, 0⟩ .nil))))))))))))))) (args := [(.av (.str name1))]) hF (by simp [oks, SV.ok]) (Eq.mp (α := D31 M name1 h P) (by kernel_rfl) hd)
/-- lockless/lib.Takes -/
def D32 (M : Model) (name1 : List UInt8) (op1 : List UInt8) (h : Heap) (P : AV → Heap → Prop) : Prop :=
CallE M 74 [(.str name1)] (h ++ [AObj.arr [(.str op1)] 1 false]) fun rv1 t1 =>
∃ (r1 : List UInt8) (r2 : List UInt8) (r3 : Int) (r4 : Slc) (r5 : Int) (r6 : Int) (r7 : Bool) (r8 : Bool) (r9 : Bool) (r10 : Bool), rv1 = (.tuple [(.agg [(.str r1), (.str r2), (.int .i64 r3), r4.av, (.int .i64 r5), (.int .i64 r6), (.bool r7), (.bool r8), (.bool r9)]), (.bool r10)]) ∧
((!r10) = true → P (.tuple [(.int .i64 0), (.int .i64 5)]) (AObj.arr [(.str op1)] 1 false :: (t1 ++ [AObj.arr [(.str r1), (.str r2), (.int .i64 r3), r4.av, (.int .i64 r5), (.int .i64 r6), (.bool r7), (.bool r8), (.bool r9)] 9 false]))) ∧
((!r10) = false →
CallE M 76 [r4.av, (.fn 77 [(.ptr h.length 0)])] (h ++ (AObj.arr [(.str op1)] 1 false :: (t1 ++ [AObj.arr [(.str r1), (.str r2), (.int .i64 r3), r4.av, (.int .i64 r5), (.int .i64 r6), (.bool r7), (.bool r8), (.bool r9)] 9 false]))) fun rv2 t2 =>
∃ (n1 : Int), rv2 = (.int .i64 n1) ∧
((decide (n1 < 0)) = true → P (.tuple [(.int .i64 0), (.int .i64 1)]) (AObj.arr [(.str op1)] 1 false :: (t1 ++ (AObj.arr [(.str r1), (.str r2), (.int .i64 r3), r4.av, (.int .i64 r5), (.int .i64 r6), (.bool r7), (.bool r8), (.bool r9)] 9 false :: t2)))) ∧
((decide (n1 < 0)) = false → (0 ≤ n1 ∧
n1 < (r4.len : Int)) ∧
∃ (n2 : Int), rdVar (h ++ (AObj.arr [(.str op1)] 1 false :: (t1 ++ (AObj.arr [(.str r1), (.str r2), (.int .i64 r3), r4.av, (.int .i64 r5), (.int .i64 r6), (.bool r7), (.bool r8), (.bool r9)] 9 false :: t2)))) none r4.b ((r4.o + (n1 : Int).toNat * 2) + 1) = some (.int .i64 n2) ∧
P (.tuple [(.int .i64 n2), (.int .i64 0)]) (AObj.arr [(.str op1)] 1 false :: (t1 ++ (AObj.arr [(.str r1), (.str r2), (.int .i64 r3), r4.av, (.int .i64 r5), (.int .i64 r6), (.bool r7), (.bool r8), (.bool r9)] 9 false :: t2)))))
theorem d32 {M : Model} {name1 : List UInt8} {op1 : List UInt8} {h : Heap} {P : AV → Heap → Prop} (hF : M.fn 32 = some F32) (hd : D32 M name1 op1 h P) : CallE M 32 [(.str name1), (.str op1)] h P :=
  callE_of_wp (hi := (.op ⟨.raw, 0, true, 0⟩ (.op ⟨.raw, 0, true, 0⟩ (.op ⟨.raw, 0, true, 0⟩ (.op ⟨.raw, 0, true, 0⟩ (.op ⟨(.tup [(.agg [.str, .str, (.int .i64), .slc, (.int .i64), (.int .i64), .bool, .bool, .bool]), .bool]), 0, true, 0⟩ (.op ⟨.raw, 0, true, 0⟩ (.op ⟨.raw, 0, true, 0⟩ (.op ⟨.raw, 0, true, 0⟩ (.op ⟨.raw, 0, true, 0⟩ (.op ⟨.raw, 0, true, 0⟩ (.op ⟨.raw, 0, true, 0⟩ (.op ⟨.raw, 0, true, 0⟩ (.op ⟨.raw, 0, true, 0⟩ (.condS (.op ⟨.raw, 0, true, 0⟩ (.op ⟨.raw, 0, true, 0⟩ .nil)) (.op ⟨.raw, 0, true, 0⟩ (.op ⟨.raw, 0, true, 0⟩ (.op ⟨.raw, 0, true, 0⟩ (.op ⟨(.int .i64), 0, true, 0⟩ (.op ⟨.raw, 0, true, 0⟩ (.op ⟨.raw, 0, true, 0⟩ (.op ⟨.raw, 0, true, 0⟩ (.condS (.op ⟨.raw, 0, true, 0⟩ (.op ⟨.raw, 0, true, 0⟩ .nil)) (.op ⟨.raw, 0, true, 0⟩ (.op ⟨.raw, 0, true, 0⟩ (.op ⟨.raw, 0, true, 0⟩ (.op ⟨.raw, 0, true, 0⟩ (.op ⟨.raw, 0, true, 0⟩ (.op ⟨(.int .i64), 5, true, 0⟩ (.op ⟨.raw, 0, true, 0⟩ (.op ⟨.raw, 0, true, 0⟩ .nil))))))))))))))))))))))))))))))) (args := [(.av (.str name1)), (.av (.str op1))]) hF (by simp [oks, SV.ok]) (Eq.mp (α := D32 M name1 op1 h P) (by kernel_rfl) hd)
/-- lockless/locklessref16.Takes -/
def D33 (M : Model) (r1 : List UInt8) (r2 : Int) (r3 : Slc) (r4 : Int) (r5 : Int) (r6 : Bool) (r7 : Bool) (op1 : List UInt8) (h : Heap) (P : AV → Heap → Prop) : Prop :=
∃ (I1 : Nat → Int → Heap → Prop), (∃ n1, I1 n1 (0 : Int) ([] : Heap)) ∧
∀ (n2 : Nat) (i1 : Int) (t1 : Heap), I1 n2 i1 t1 → ((decide (i1 < ((r3.len : Nat) : Int))) = true → (0 ≤ i1 ∧
i1 < (r3.len : Int)) ∧
∃ (w1 : List UInt8), rdVar h none r3.b (r3.o + (i1 : Int).toNat * 3) = some (.str w1) ∧
((w1 == op1) = true → (0 ≤ i1 ∧
i1 < (r3.len : Int)) ∧
∃ (n4 : Int), rdVar h none r3.b ((r3.o + (i1 : Int).toNat * 3) + 1) = some (.int .i64 n4) ∧
P (.int .i64 n4) (AObj.arr [(.str r1), (.int .i64 r2), r3.av, (.int .i64 r4), (.int .i64 r5), (.bool r6), (.bool r7)] 7 false :: t1)) ∧
((w1 == op1) = false → ∃ n3, n3 < n2 ∧
I1 n3 (IntKind.wrap .i64 (i1 + 1)) t1)) ∧
((decide (i1 < ((r3.len : Nat) : Int))) = false → P (.int .i64 (-1)) (AObj.arr [(.str r1), (.int .i64 r2), r3.av, (.int .i64 r4), (.int .i64 r5), (.bool r6), (.bool r7)] 7 false :: t1))
theorem d33 {M : Model} {r1 : List UInt8} {r2 : Int} {r3 : Slc} {r4 : Int} {r5 : Int} {r6 : Bool} {r7 : Bool} {op1 : List UInt8} {h : Heap} {P : AV → Heap → Prop} (hF : M.fn 33 = some F33) (hd : D33 M r1 r2 r3 r4 r5 r6 r7 op1 h P) : CallE M 33 [(.agg [(.str r1), (.int .i64 r2), r3.av, (.int .i64 r4), (.int .i64 r5), (.bool r6), (.bool r7)]), (.str op1)] h P :=
  callE_of_wp (hi := (.op ⟨.raw, 0, true, 0⟩ (.op ⟨.raw, 0, true, 0⟩ (.op ⟨.raw, 0, true, 0⟩ (.loop ⟨2, [], [(5, (.int .i64))]⟩ (.op ⟨.raw, 0, true, 0⟩ (.op ⟨.raw, 0, true, 0⟩ (.op ⟨.raw, 0, true, 0⟩ (.op ⟨.raw, 0, true, 0⟩ (.op ⟨.raw, 0, true, 0⟩ (.condS (.op ⟨.raw, 0, true, 0⟩ (.op ⟨.raw, 0, true, 0⟩ (.op ⟨.raw, 0, true, 0⟩ (.op ⟨.raw, 0, true, 0⟩ (.op ⟨.raw, 0, true, 0⟩ (.op ⟨.str, 1, true, 0⟩ (.op ⟨.raw, 0, true, 0⟩ (.op ⟨.raw, 0, true, 0⟩ (.condS (.op ⟨.raw, 0, true, 0⟩ (.op ⟨.raw, 0, true, 0⟩ (.op ⟨.raw, 0, true, 0⟩ (.op ⟨.raw, 0, true, 0⟩ (.op ⟨.raw, 0, true, 0⟩ (.op ⟨(.int .i64), 1, true, 0⟩ (.op ⟨.raw, 0, true, 0⟩ .nil))))))) (.op ⟨.raw, 0, true, 0⟩ (.op ⟨.raw, 0, true, 0⟩ (.op ⟨.raw, 0, true, 0⟩ .nil)))))))))))) (.op ⟨.raw, 0, true, 0⟩ .nil)))))))))))) (args := [(.agg [(.av (.str r1)), (.av (.int .i64 r2)), (.slc r3), (.av (.int .i64 r4)), (.av (.int .i64 r5)), (.av (.bool r6)), (.av (.bool r7))]), (.av (.str op1))]) hF (by simp [oks, SV.ok]) (Eq.mp (α := D33 M r1 r2 r3 r4 r5 r6 r7 op1 h P) (by kernel_rfl) hd)
/-- lockless/lib.Calls -/
def D34 (M : Model) (name1 : List UInt8) (h : Heap) (P : AV → Heap → Prop) : Prop :=
CallE M 74 [(.str name1)] h fun rv1 t1 =>
∃ (r1 : List UInt8) (r2 : List UInt8) (r3 : Int) (r4 : Slc) (r5 : Int) (r6 : Int) (r7 : Bool) (r8 : Bool) (r9 : Bool) (r10 : Bool), rv1 = (.tuple [(.agg [(.str r1), (.str r2), (.int .i64 r3), r4.av, (.int .i64 r5), (.int .i64 r6), (.bool r7), (.bool r8), (.bool r9)]), (.bool r10)]) ∧
((!r10) = true → P (.tuple [.nilslice, (.int .i64 5)]) (t1 ++ [AObj.arr [(.str r1), (.str r2), (.int .i64 r3), r4.av, (.int .i64 r5), (.int .i64 r6), (.bool r7), (.bool r8), (.bool r9)] 9 false])) ∧
((!r10) = false → ∃ (I1 : Nat → Slc → Int → Heap → Prop), (∃ n1, I1 n1 (Slc.mk 0 0 0 true) (0 : Int) ([] : Heap)) ∧
∀ (n2 : Nat) (l1 : Slc) (x1 : Int) (t2 : Heap), I1 n2 l1 x1 t2 → ((decide (x1 < ((r4.len : Nat) : Int))) = true → (0 ≤ x1 ∧
x1 < (r4.len : Int)) ∧
∃ (x2 : List UInt8) (x3 : Int), rdVar (h ++ (t1 ++ (AObj.arr [(.str r1), (.str r2), (.int .i64 r3), r4.av, (.int .i64 r5), (.int .i64 r6), (.bool r7), (.bool r8), (.bool r9)] 9 false :: t2))) (some 2) r4.b (r4.o + (x1 : Int).toNat * 2) = some (.agg [(.str x2), (.int .i64 x3)]) ∧
∃ (old1 : List AV) (g1 : Heap), ((l1.nil = true ∧
old1 = [] ∧
g1 = t2) ∨ (l1.nil = false ∧
∃ (k1 : Nat) (c1 : List AV), l1.b = (h.length + (t1.length + 1)) + k1 ∧
(t2)[k1]? = some (.arr c1 1 false) ∧
l1.o + l1.n * 1 ≤ c1.length ∧
old1 = (c1.drop l1.o).take (l1.n * 1) ∧
g1 = t2.set k1 .dead)) ∧
(l1.len + 1) * 16 ≤ 140737488355328 ∧
∃ n3, n3 < n2 ∧
I1 n3 (Slc.mk (h.length + (t1.length + (1 + (g1.length + (1 + 1))))) 0 (l1.len + 1) false) (IntKind.wrap .i64 (x1 + 1)) (g1 ++ (AObj.arr [(.str x2), (.int .i64 x3)] 2 false :: (AObj.arr [(.str x2)] 1 false :: [AObj.arr (old1 ++ [(.str x2)]) 1 false])))) ∧
((decide (x1 < ((r4.len : Nat) : Int))) = false → P (.tuple [l1.av, (.int .i64 0)]) (t1 ++ (AObj.arr [(.str r1), (.str r2), (.int .i64 r3), r4.av, (.int .i64 r5), (.int .i64 r6), (.bool r7), (.bool r8), (.bool r9)] 9 false :: t2))))
theorem d34 {M : Model} {name1 : List UInt8} {h : Heap} {P : AV → Heap → Prop} (hF : M.fn 34 = some F34) (hd : D34 M name1 h P) : CallE M 34 [(.str name1)] h P :=
  callE_of_wp (hi := (.op ⟨.raw, 0, true, 0⟩ (.op ⟨.raw, 0, true, 0⟩ (.op ⟨.raw, 0, true, 0⟩ (.op ⟨(.tup [(.agg [.str, .str, (.int .i64), .slc, (.int .i64), (.int .i64), .bool, .bool, .bool]), .bool]), 0, true, 0⟩ (.op ⟨.raw, 0, true, 0⟩ (.op ⟨.raw, 0, true, 0⟩ (.op ⟨.raw, 0, true, 0⟩ (.op ⟨.raw, 0, true, 0⟩ (.op ⟨.raw, 0, true, 0⟩ (.op ⟨.raw, 0, true, 0⟩ (.op ⟨.raw, 0, true, 0⟩ (.op ⟨.raw, 0, true, 0⟩ (.condS (.op ⟨.raw, 0, true, 0⟩ (.op ⟨.raw, 0, true, 0⟩ .nil)) (.op ⟨.raw, 0, true, 0⟩ (.op ⟨.raw, 0, true, 0⟩ (.op ⟨.raw, 0, true, 0⟩ (.op ⟨.raw, 0, true, 0⟩ (.op ⟨.raw, 0, true, 0⟩ (.loop ⟨3, [], [(6, .slc), (19, (.int .i64))]⟩ (.op ⟨.raw, 0, true, 0⟩ (.condS (.op ⟨.raw, 0, true, 0⟩ (.op ⟨(.agg [.str, (.int .i64)]), 4, true, 0⟩ (.op ⟨.raw, 0, true, 0⟩ (.op ⟨.raw, 0, true, 0⟩ (.op ⟨.raw, 0, true, 0⟩ (.op ⟨.raw, 0, true, 0⟩ (.op ⟨.raw, 0, true, 0⟩ (.op ⟨.raw, 0, true, 0⟩ (.op ⟨.raw, 3, true, 0⟩ (.op ⟨.raw, 0, true, 0⟩ (.op ⟨.raw, 0, true, 0⟩ (.op ⟨.raw, 0, true, 0⟩ .nil)))))))))))) (.op ⟨.raw, 0, true, 0⟩ (.op ⟨.raw, 0, true, 0⟩ (.op ⟨.raw, 0, true, 0⟩ .nil))))))))))))))))))))))))) (args := [(.av (.str name1))]) hF (by simp [oks, SV.ok]) (Eq.mp (α := D34 M name1 h P) (by kernel_rfl) hd)
/-- lockless/lib.Rule -/
def D41 (M : Model) (name1 : List UInt8) (h : Heap) (P : AV → Heap → Prop) : Prop :=
CallE M 74 [(.str name1)] h fun rv1 t1 =>
∃ (r1 : List UInt8) (r2 : List UInt8) (r3 : Int) (r4 : Slc) (r5 : Int) (r6 : Int) (r7 : Bool) (r8 : Bool) (r9 : Bool) (r10 : Bool), rv1 = (.tuple [(.agg [(.str r1), (.str r2), (.int .i64 r3), r4.av, (.int .i64 r5), (.int .i64 r6), (.bool r7), (.bool r8), (.bool r9)]), (.bool r10)]) ∧
((!r10) = true → P (.tuple [(.int .i64 0), (.int .i64 5)]) (t1 ++ [AObj.arr [(.str r1), (.str r2), (.int .i64 r3), r4.av, (.int .i64 r5), (.int .i64 r6), (.bool r7), (.bool r8), (.bool r9)] 9 false])) ∧
((!r10) = false → P (.tuple [(.int .i64 r3), (.int .i64 0)]) (t1 ++ [AObj.arr [(.str r1), (.str r2), (.int .i64 r3), r4.av, (.int .i64 r5), (.int .i64 r6), (.bool r7), (.bool r8), (.bool r9)] 9 false]))
theorem d41 {M : Model} {name1 : List UInt8} {h : Heap} {P : AV → Heap → Prop} (hF : M.fn 41 = some F41) (hd : D41 M name1 h P) : CallE M 41 [(.str name1)] h P :=
  callE_of_wp (hi := (.op ⟨.raw, 0, true, 0⟩ (.op ⟨.raw, 0, true, 0⟩ (.op ⟨.raw, 0, true, 0⟩ (.op ⟨(.tup [(.agg [.str, .str, (.int .i64), .slc, (.int .i64), (.int .i64), .bool, .bool, .bool]), .bool]), 0, true, 0⟩ (.op ⟨.raw, 0, true, 0⟩ (.op ⟨.raw, 0, true, 0⟩ (.op ⟨.raw, 0, true, 0⟩ (.op ⟨.raw, 0, true, 0⟩ (.op ⟨.raw, 0, true, 0⟩ (.op ⟨.raw, 0, true, 0⟩ (.op ⟨.raw, 0, true, 0⟩ (.op ⟨.raw, 0, true, 0⟩ (.condS (.op ⟨.raw, 0, true, 0⟩ (.op ⟨.raw, 0, true, 0⟩ .nil)) (.op ⟨.raw, 0, true, 0⟩ (.op ⟨.raw, 0, true, 0⟩ (.op ⟨.raw, 0, true, 0⟩ (.op ⟨.raw, 0, true, 0⟩ .nil)))))))))))))))))) (args := [(.av (.str name1))]) hF (by simp [oks, SV.ok]) (Eq.mp (α := D41 M name1 h P) (by kernel_rfl) hd)
/-- lockless/lib.Range -/
def D42 (M : Model) (name1 : List UInt8) (h : Heap) (P : AV → Heap → Prop) : Prop :=
CallE M 74 [(.str name1)] h fun rv1 t1 =>
∃ (r1 : List UInt8) (r2 : List UInt8) (r3 : Int) (r4 : Slc) (r5 : Int) (r6 : Int) (r7 : Bool) (r8 : Bool) (r9 : Bool) (r10 : Bool), rv1 = (.tuple [(.agg [(.str r1), (.str r2), (.int .i64 r3), r4.av, (.int .i64 r5), (.int .i64 r6), (.bool r7), (.bool r8), (.bool r9)]), (.bool r10)]) ∧
((!r10) = true → P (.tuple [(.int .i64 0), (.int .i64 0), (.int .i64 5)]) (t1 ++ [AObj.arr [(.str r1), (.str r2), (.int .i64 r3), r4.av, (.int .i64 r5), (.int .i64 r6), (.bool r7), (.bool r8), (.bool r9)] 9 false])) ∧
((!r10) = false → P (.tuple [(.int .i64 r5), (.int .i64 r6), (.int .i64 0)]) (t1 ++ [AObj.arr [(.str r1), (.str r2), (.int .i64 r3), r4.av, (.int .i64 r5), (.int .i64 r6), (.bool r7), (.bool r8), (.bool r9)] 9 false]))
theorem d42 {M : Model} {name1 : List UInt8} {h : Heap} {P : AV → Heap → Prop} (hF : M.fn 42 = some F42) (hd : D42 M name1 h P) : CallE M 42 [(.str name1)] h P :=
  callE_of_wp (hi := (.op ⟨.raw, 0, true, 0⟩ (.op ⟨.raw, 0, true, 0⟩ (.op ⟨.raw, 0, true, 0⟩ (.op ⟨.raw, 0, true, 0⟩ (.op ⟨(.tup [(.agg [.str, .str, (.int .i64), .slc, (.int .i64), (.int .i64), .bool, .bool, .bool]), .bool]), 0, true, 0⟩ (.op ⟨.raw, 0, true, 0⟩ (.op ⟨.raw, 0, true, 0⟩ (.op ⟨.raw, 0, true, 0⟩ (.op ⟨.raw, 0, true, 0⟩ (.op ⟨.raw, 0, true, 0⟩ (.op ⟨.raw, 0, true, 0⟩ (.op ⟨.raw, 0, true, 0⟩ (.op ⟨.raw, 0, true, 0⟩ (.condS (.op ⟨.raw, 0, true, 0⟩ (.op ⟨.raw, 0, true, 0⟩ (.op ⟨.raw, 0, true, 0⟩ .nil))) (.op ⟨.raw, 0, true, 0⟩ (.op ⟨.raw, 0, true, 0⟩ (.op ⟨.raw, 0, true, 0⟩ (.op ⟨.raw, 0, true, 0⟩ (.op ⟨.raw, 0, true, 0⟩ (.op ⟨.raw, 0, true, 0⟩ (.op ⟨.raw, 0, true, 0⟩ .nil)))))))))))))))))))))) (args := [(.av (.str name1))]) hF (by simp [oks, SV.ok]) (Eq.mp (α := D42 M name1 h P) (by kernel_rfl) hd)
/-- lockless/lib.Safe -/
def D43 (M : Model) (name1 : List UInt8) (h : Heap) (P : AV → Heap → Prop) : Prop :=
CallE M 74 [(.str name1)] h fun rv1 t1 =>
∃ (r1 : List UInt8) (r2 : List UInt8) (r3 : Int) (r4 : Slc) (r5 : Int) (r6 : Int) (r7 : Bool) (r8 : Bool) (r9 : Bool) (r10 : Bool), rv1 = (.tuple [(.agg [(.str r1), (.str r2), (.int .i64 r3), r4.av, (.int .i64 r5), (.int .i64 r6), (.bool r7), (.bool r8), (.bool r9)]), (.bool r10)]) ∧
((!r10) = true → P (.tuple [(.bool false), (.int .i64 5)]) (t1 ++ [AObj.arr [(.str r1), (.str r2), (.int .i64 r3), r4.av, (.int .i64 r5), (.int .i64 r6), (.bool r7), (.bool r8), (.bool r9)] 9 false])) ∧
((!r10) = false → P (.tuple [(.bool r7), (.int .i64 0)]) (t1 ++ [AObj.arr [(.str r1), (.str r2), (.int .i64 r3), r4.av, (.int .i64 r5), (.int .i64 r6), (.bool r7), (.bool r8), (.bool r9)] 9 false]))
theorem d43 {M : Model} {name1 : List UInt8} {h : Heap} {P : AV → Heap → Prop} (hF : M.fn 43 = some F43) (hd : D43 M name1 h P) : CallE M 43 [(.str name1)] h P :=
  callE_of_wp (hi := (.op ⟨.raw, 0, true, 0⟩ (.op ⟨.raw, 0, true, 0⟩ (.op ⟨.raw, 0, true, 0⟩ (.op ⟨(.tup [(.agg [.str, .str, (.int .i64), .slc, (.int .i64), (.int .i64), .bool, .bool, .bool]), .bool]), 0, true, 0⟩ (.op ⟨.raw, 0, true, 0⟩ (.op ⟨.raw, 0, true, 0⟩ (.op ⟨.raw, 0, true, 0⟩ (.op ⟨.raw, 0, true, 0⟩ (.op ⟨.raw, 0, true, 0⟩ (.op ⟨.raw, 0, true, 0⟩ (.op ⟨.raw, 0, true, 0⟩ (.op ⟨.raw, 0, true, 0⟩ (.condS (.op ⟨.raw, 0, true, 0⟩ (.op ⟨.raw, 0, true, 0⟩ .nil)) (.op ⟨.raw, 0, true, 0⟩ (.op ⟨.raw, 0, true, 0⟩ (.op ⟨.raw, 0, true, 0⟩ (.op ⟨.raw, 0, true, 0⟩ .nil)))))))))))))))))) (args := [(.av (.str name1))]) hF (by simp [oks, SV.ok]) (Eq.mp (α := D43 M name1 h P) (by kernel_rfl) hd)
/-- lockless/lib.Strict -/
def D44 (M : Model) (name1 : List UInt8) (h : Heap) (P : AV → Heap → Prop) : Prop :=
CallE M 74 [(.str name1)] h fun rv1 t1 =>
∃ (r1 : List UInt8) (r2 : List UInt8) (r3 : Int) (r4 : Slc) (r5 : Int) (r6 : Int) (r7 : Bool) (r8 : Bool) (r9 : Bool) (r10 : Bool), rv1 = (.tuple [(.agg [(.str r1), (.str r2), (.int .i64 r3), r4.av, (.int .i64 r5), (.int .i64 r6), (.bool r7), (.bool r8), (.bool r9)]), (.bool r10)]) ∧
((!r10) = true → P (.tuple [(.bool false), (.int .i64 5)]) (t1 ++ [AObj.arr [(.str r1), (.str r2), (.int .i64 r3), r4.av, (.int .i64 r5), (.int .i64 r6), (.bool r7), (.bool r8), (.bool r9)] 9 false])) ∧
((!r10) = false → P (.tuple [(.bool r8), (.int .i64 0)]) (t1 ++ [AObj.arr [(.str r1), (.str r2), (.int .i64 r3), r4.av, (.int .i64 r5), (.int .i64 r6), (.bool r7), (.bool r8), (.bool r9)] 9 false]))
theorem d44 {M : Model} {name1 : List UInt8} {h : Heap} {P : AV → Heap → Prop} (hF : M.fn 44 = some F44) (hd : D44 M name1 h P) : CallE M 44 [(.str name1)] h P :=
  callE_of_wp (hi := (.op ⟨.raw, 0, true, 0⟩ (.op ⟨.raw, 0, true, 0⟩ (.op ⟨.raw, 0, true, 0⟩ (.op ⟨(.tup [(.agg [.str, .str, (.int .i64), .slc, (.int .i64), (.int .i64), .bool, .bool, .bool]), .bool]), 0, true, 0⟩ (.op ⟨.raw, 0, true, 0⟩ (.op ⟨.raw, 0, true, 0⟩ (.op ⟨.raw, 0, true, 0⟩ (.op ⟨.raw, 0, true, 0⟩ (.op ⟨.raw, 0, true, 0⟩ (.op ⟨.raw, 0, true, 0⟩ (.op ⟨.raw, 0, true, 0⟩ (.op ⟨.raw, 0, true, 0⟩ (.condS (.op ⟨.raw, 0, true, 0⟩ (.op ⟨.raw, 0, true, 0⟩ .nil)) (.op ⟨.raw, 0, true, 0⟩ (.op ⟨.raw, 0, true, 0⟩ (.op ⟨.raw, 0, true, 0⟩ (.op ⟨.raw, 0, true, 0⟩ .nil)))))))))))))))))) (args := [(.av (.str name1))]) hF (by simp [oks, SV.ok]) (Eq.mp (α := D44 M name1 h P) (by kernel_rfl) hd)
/-- lockless/lib.Points -/
def D45 (M : Model) (name1 : List UInt8) (h : Heap) (P : AV → Heap → Prop) : Prop :=
CallE M 74 [(.str name1)] h fun rv1 t1 =>
∃ (r1 : List UInt8) (r2 : List UInt8) (r3 : Int) (r4 : Slc) (r5 : Int) (r6 : Int) (r7 : Bool) (r8 : Bool) (r9 : Bool) (r10 : Bool), rv1 = (.tuple [(.agg [(.str r1), (.str r2), (.int .i64 r3), r4.av, (.int .i64 r5), (.int .i64 r6), (.bool r7), (.bool r8), (.bool r9)]), (.bool r10)]) ∧
((!r10) = true → P (.tuple [(.bool false), (.int .i64 5)]) (t1 ++ [AObj.arr [(.str r1), (.str r2), (.int .i64 r3), r4.av, (.int .i64 r5), (.int .i64 r6), (.bool r7), (.bool r8), (.bool r9)] 9 false])) ∧
((!r10) = false → P (.tuple [(.bool r9), (.int .i64 0)]) (t1 ++ [AObj.arr [(.str r1), (.str r2), (.int .i64 r3), r4.av, (.int .i64 r5), (.int .i64 r6), (.bool r7), (.bool r8), (.bool r9)] 9 false]))
theorem d45 {M : Model} {name1 : List UInt8} {h : Heap} {P : AV → Heap → Prop} (hF : M.fn 45 = some F45) (hd : D45 M name1 h P) : CallE M 45 [(.str name1)] h P :=
  callE_of_wp (hi := (.op ⟨.raw, 0, true, 0⟩ (.op ⟨.raw, 0, true, 0⟩ (.op ⟨.raw, 0, true, 0⟩ (.op ⟨(.tup [(.agg [.str, .str, (.int .i64), .slc, (.int .i64), (.int .i64), .bool, .bool, .bool]), .bool]), 0, true, 0⟩ (.op ⟨.raw, 0, true, 0⟩ (.op ⟨.raw, 0, true, 0⟩ (.op ⟨.raw, 0, true, 0⟩ (.op ⟨.raw, 0, true, 0⟩ (.op ⟨.raw, 0, true, 0⟩ (.op ⟨.raw, 0, true, 0⟩ (.op ⟨.raw, 0, true, 0⟩ (.op ⟨.raw, 0, true, 0⟩ (.condS (.op ⟨.raw, 0, true, 0⟩ (.op ⟨.raw, 0, true, 0⟩ .nil)) (.op ⟨.raw, 0, true, 0⟩ (.op ⟨.raw, 0, true, 0⟩ (.op ⟨.raw, 0, true, 0⟩ (.op ⟨.raw, 0, true, 0⟩ .nil)))))))))))))))))) (args := [(.av (.str name1))]) hF (by simp [oks, SV.ok]) (Eq.mp (α := D45 M name1 h P) (by kernel_rfl) hd)
/-- lockless/lib.find -/
def D74 (M : Model) (name1 : List UInt8) (h : Heap) (P : AV → Heap → Prop) : Prop :=
CallE M 75 [] (h ++ (AObj.arr [(.str name1)] 1 false :: [AObj.arr [(.str []), (.str []), (.int .i64 0), .nilslice, (.int .i64 0), (.int .i64 0), (.bool false), (.bool false), (.bool false)] 9 false])) fun rv1 t1 =>
∃ (l1 : Slc), rv1 = l1.av ∧
CallE M 124 [l1.av, (.fn 125 [(.ptr h.length 0)])] (h ++ (AObj.arr [(.str name1)] 1 false :: (AObj.arr [(.str []), (.str []), (.int .i64 0), .nilslice, (.int .i64 0), (.int .i64 0), (.bool false), (.bool false), (.bool false)] 9 false :: t1))) fun rv2 t2 =>
∃ (n1 : Int), rv2 = (.int .i64 n1) ∧
((decide (n1 < 0)) = true → P (.tuple [(.agg [(.str []), (.str []), (.int .i64 0), .nilslice, (.int .i64 0), (.int .i64 0), (.bool false), (.bool false), (.bool false)]), (.bool false)]) (AObj.arr [(.str name1)] 1 false :: (AObj.arr [(.str []), (.str []), (.int .i64 0), .nilslice, (.int .i64 0), (.int .i64 0), (.bool false), (.bool false), (.bool false)] 9 false :: (t1 ++ t2)))) ∧
((decide (n1 < 0)) = false → (0 ≤ n1 ∧
n1 < (l1.len : Int)) ∧
∃ (x1 : List UInt8) (x2 : List UInt8) (x3 : Int) (x4 : Slc) (x5 : Int) (x6 : Int) (x7 : Bool) (x8 : Bool) (x9 : Bool), rdVar (h ++ (AObj.arr [(.str name1)] 1 false :: (AObj.arr [(.str []), (.str []), (.int .i64 0), .nilslice, (.int .i64 0), (.int .i64 0), (.bool false), (.bool false), (.bool false)] 9 false :: (t1 ++ t2)))) (some 9) l1.b (l1.o + (n1 : Int).toNat * 9) = some (.agg [(.str x1), (.str x2), (.int .i64 x3), x4.av, (.int .i64 x5), (.int .i64 x6), (.bool x7), (.bool x8), (.bool x9)]) ∧
P (.tuple [(.agg [(.str x1), (.str x2), (.int .i64 x3), x4.av, (.int .i64 x5), (.int .i64 x6), (.bool x7), (.bool x8), (.bool x9)]), (.bool true)]) (AObj.arr [(.str name1)] 1 false :: (AObj.arr [(.str x1), (.str x2), (.int .i64 x3), x4.av, (.int .i64 x5), (.int .i64 x6), (.bool x7), (.bool x8), (.bool x9)] 9 false :: (t1 ++ t2))))
theorem d74 {M : Model} {name1 : List UInt8} {h : Heap} {P : AV → Heap → Prop} (hF : M.fn 74 = some F74) (hd : D74 M name1 h P) : CallE M 74 [(.str name1)] h P :=
  callE_of_wp (hi := (.op ⟨.raw, 0, true, 0⟩ (.op ⟨.raw, 0, true, 0⟩ (.op ⟨.raw, 0, true, 0⟩ (.op ⟨.slc, 0, true, 0⟩ (.op ⟨.raw, 0, true, 0⟩ (.op ⟨.raw, 0, true, 0⟩ (.op ⟨.raw, 0, true, 0⟩ (.op ⟨(.int .i64), 0, true, 0⟩ (.op ⟨.raw, 0, true, 0⟩ (.op ⟨.raw, 0, true, 0⟩ (.op ⟨.raw, 0, true, 0⟩ (.condS (.op ⟨.raw, 0, true, 0⟩ (.op ⟨.raw, 0, true, 0⟩ (.op ⟨.raw, 0, true, 0⟩ .nil))) (.op ⟨.raw, 0, true, 0⟩ (.op ⟨.raw, 0, true, 0⟩ (.op ⟨.raw, 0, true, 0⟩ (.op ⟨(.agg [.str, .str, (.int .i64), .slc, (.int .i64), (.int .i64), .bool, .bool, .bool]), 5, true, 0⟩ (.op ⟨.raw, 0, true, 0⟩ (.op ⟨.raw, 0, true, 0⟩ .nil))))))))))))))))))) (args := [(.av (.str name1))]) hF (by simp [oks, SV.ok]) (Eq.mp (α := D74 M name1 h P) (by kernel_rfl) hd)
/-- slices.IndexFunc[[]lockless/lib.entry,lockless/lib.entry] -/
def D124 (M : Model) (s_1 : Slc) (f1 : Nat) (f1c : List AV) (h : Heap) (P : AV → Heap → Prop) : Prop :=
∃ (I1 : Nat → Int → Heap → Prop), (∃ n1, I1 n1 (0 : Int) ([] : Heap)) ∧
∀ (n2 : Nat) (x1 : Int) (t1 : Heap), I1 n2 x1 t1 → ((decide (x1 < ((s_1.len : Nat) : Int))) = true → (0 ≤ x1 ∧
x1 < (s_1.len : Int)) ∧
∃ (x2 : List UInt8) (x3 : List UInt8) (x4 : Int) (x5 : Slc) (x6 : Int) (x7 : Int) (x8 : Bool) (x9 : Bool) (x10 : Bool), rdVar h (some 9) s_1.b (s_1.o + (x1 : Int).toNat * 9) = some (.agg [(.str x2), (.str x3), (.int .i64 x4), x5.av, (.int .i64 x6), (.int .i64 x7), (.bool x8), (.bool x9), (.bool x10)]) ∧
CallE M f1 ([(.agg [(.str x2), (.str x3), (.int .i64 x4), x5.av, (.int .i64 x6), (.int .i64 x7), (.bool x8), (.bool x9), (.bool x10)])] ++ f1c) (h ++ t1) fun rv1 t2 =>
∃ (b1 : Bool), rv1 = (.bool b1) ∧
(b1 = true → P (.int .i64 x1) (t1 ++ t2)) ∧
(b1 = false → ∃ n3, n3 < n2 ∧
I1 n3 (IntKind.wrap .i64 (x1 + 1)) (t1 ++ t2))) ∧
((decide (x1 < ((s_1.len : Nat) : Int))) = false → P (.int .i64 (-1)) t1)
theorem d124 {M : Model} {s_1 : Slc} {f1 : Nat} {f1c : List AV} {h : Heap} {P : AV → Heap → Prop} (hF : M.fn 124 = some F124) (hd : D124 M s_1 f1 f1c h P) : CallE M 124 [s_1.av, (.fn f1 f1c)] h P :=
  callE_of_wp (hi := (.op ⟨.raw, 0, true, 0⟩ (.op ⟨.raw, 0, true, 0⟩ (.op ⟨.raw, 0, true, 0⟩ (.op ⟨.raw, 0, true, 0⟩ (.loop ⟨1, [], [(8, (.int .i64))]⟩ (.op ⟨.raw, 0, true, 0⟩ (.condS (.op ⟨.raw, 0, true, 0⟩ (.op ⟨.raw, 0, true, 0⟩ (.op ⟨.raw, 0, true, 0⟩ (.op ⟨.raw, 0, true, 0⟩ (.op ⟨.raw, 0, true, 0⟩ (.op ⟨.raw, 0, true, 0⟩ (.op ⟨(.agg [.str, .str, (.int .i64), .slc, (.int .i64), (.int .i64), .bool, .bool, .bool]), 1, true, 0⟩ (.op ⟨.bool, 0, true, 0⟩ (.condS (.op ⟨.raw, 0, true, 0⟩ (.op ⟨.raw, 0, true, 0⟩ .nil)) (.op ⟨.raw, 0, true, 0⟩ (.op ⟨.raw, 0, true, 0⟩ .nil))))))))))) (.op ⟨.raw, 0, true, 0⟩ .nil))))))))) (args := [(.slc s_1), (.av (.fn f1 f1c))]) hF (by simp [oks, SV.ok]) (Eq.mp (α := D124 M s_1 f1 f1c h P) (by kernel_rfl) hd)
/-- lockless/lib.find$1 -/
def D125 (M : Model) (e_1 : List UInt8) (e_2 : List UInt8) (e_3 : Int) (e_4 : Slc) (e_5 : Int) (e_6 : Int) (e_7 : Bool) (e_8 : Bool) (e_9 : Bool) (a11 : Nat) (a11o : Nat) (h : Heap) (P : AV → Heap → Prop) : Prop :=
∃ (w1 : List UInt8), rdVar h none a11 a11o = some (.str w1) ∧
P (.bool (e_1 == w1)) [AObj.arr [(.str e_1), (.str e_2), (.int .i64 e_3), e_4.av, (.int .i64 e_5), (.int .i64 e_6), (.bool e_7), (.bool e_8), (.bool e_9)] 9 false]
theorem d125 {M : Model} {e_1 : List UInt8} {e_2 : List UInt8} {e_3 : Int} {e_4 : Slc} {e_5 : Int} {e_6 : Int} {e_7 : Bool} {e_8 : Bool} {e_9 : Bool} {a11 : Nat} {a11o : Nat} {h : Heap} {P : AV → Heap → Prop} (hF : M.fn 125 = some F125) (hd : D125 M e_1 e_2 e_3 e_4 e_5 e_6 e_7 e_8 e_9 a11 a11o h P) : CallE M 125 [(.agg [(.str e_1), (.str e_2), (.int .i64 e_3), e_4.av, (.int .i64 e_5), (.int .i64 e_6), (.bool e_7), (.bool e_8), (.bool e_9)]), (.ptr a11 a11o)] h P :=
  callE_of_wp (hi := (.op ⟨.raw, 0, true, 0⟩ (.op ⟨.raw, 0, true, 0⟩ (.op ⟨.raw, 0, true, 0⟩ (.op ⟨.raw, 0, true, 0⟩ (.op ⟨.str, 1, true, 0⟩ (.op ⟨.raw, 0, true, 0⟩ (.op ⟨.raw, 0, true, 0⟩ .nil)))))))) (args := [(.agg [(.av (.str e_1)), (.av (.str e_2)), (.av (.int .i64 e_3)), (.slc e_4), (.av (.int .i64 e_5)), (.av (.int .i64 e_6)), (.av (.bool e_7)), (.av (.bool e_8)), (.av (.bool e_9))]), (.av (.ptr a11 a11o))]) hF (by simp [oks, SV.ok]) (Eq.mp (α := D125 M e_1 e_2 e_3 e_4 e_5 e_6 e_7 e_8 e_9 a11 a11o h P) (by kernel_rfl) hd)
/-- slices.IndexFunc[[]lockless/lib.call,lockless/lib.call] -/
def D76 (M : Model) (s_1 : Slc) (f1 : Nat) (f1c : List AV) (h : Heap) (P : AV → Heap → Prop) : Prop :=
∃ (I1 : Nat → Int → Heap → Prop), (∃ n1, I1 n1 (0 : Int) ([] : Heap)) ∧
∀ (n2 : Nat) (x1 : Int) (t1 : Heap), I1 n2 x1 t1 → ((decide (x1 < ((s_1.len : Nat) : Int))) = true → (0 ≤ x1 ∧
x1 < (s_1.len : Int)) ∧
∃ (x2 : List UInt8) (x3 : Int), rdVar h (some 2) s_1.b (s_1.o + (x1 : Int).toNat * 2) = some (.agg [(.str x2), (.int .i64 x3)]) ∧
CallE M f1 ([(.agg [(.str x2), (.int .i64 x3)])] ++ f1c) (h ++ t1) fun rv1 t2 =>
∃ (b1 : Bool), rv1 = (.bool b1) ∧
(b1 = true → P (.int .i64 x1) (t1 ++ t2)) ∧
(b1 = false → ∃ n3, n3 < n2 ∧
I1 n3 (IntKind.wrap .i64 (x1 + 1)) (t1 ++ t2))) ∧
((decide (x1 < ((s_1.len : Nat) : Int))) = false → P (.int .i64 (-1)) t1)
theorem d76 {M : Model} {s_1 : Slc} {f1 : Nat} {f1c : List AV} {h : Heap} {P : AV → Heap → Prop} (hF : M.fn 76 = some F76) (hd : D76 M s_1 f1 f1c h P) : CallE M 76 [s_1.av, (.fn f1 f1c)] h P :=
  callE_of_wp (hi := (.op ⟨.raw, 0, true, 0⟩ (.op ⟨.raw, 0, true, 0⟩ (.op ⟨.raw, 0, true, 0⟩ (.op ⟨.raw, 0, true, 0⟩ (.loop ⟨1, [], [(8, (.int .i64))]⟩ (.op ⟨.raw, 0, true, 0⟩ (.condS (.op ⟨.raw, 0, true, 0⟩ (.op ⟨.raw, 0, true, 0⟩ (.op ⟨.raw, 0, true, 0⟩ (.op ⟨.raw, 0, true, 0⟩ (.op ⟨.raw, 0, true, 0⟩ (.op ⟨.raw, 0, true, 0⟩ (.op ⟨(.agg [.str, (.int .i64)]), 1, true, 0⟩ (.op ⟨.bool, 0, true, 0⟩ (.condS (.op ⟨.raw, 0, true, 0⟩ (.op ⟨.raw, 0, true, 0⟩ .nil)) (.op ⟨.raw, 0, true, 0⟩ (.op ⟨.raw, 0, true, 0⟩ .nil))))))))))) (.op ⟨.raw, 0, true, 0⟩ .nil))))))))) (args := [(.slc s_1), (.av (.fn f1 f1c))]) hF (by simp [oks, SV.ok]) (Eq.mp (α := D76 M s_1 f1 f1c h P) (by kernel_rfl) hd)
/-- lockless/lib.Takes$1 -/
def D77 (M : Model) (c1 : List UInt8) (c2 : Int) (a11 : Nat) (a11o : Nat) (h : Heap) (P : AV → Heap → Prop) : Prop :=
∃ (w1 : List UInt8), rdVar h none a11 a11o = some (.str w1) ∧
P (.bool (c1 == w1)) [AObj.arr [(.str c1), (.int .i64 c2)] 2 false]
theorem d77 {M : Model} {c1 : List UInt8} {c2 : Int} {a11 : Nat} {a11o : Nat} {h : Heap} {P : AV → Heap → Prop} (hF : M.fn 77 = some F77) (hd : D77 M c1 c2 a11 a11o h P) : CallE M 77 [(.agg [(.str c1), (.int .i64 c2)]), (.ptr a11 a11o)] h P :=
  callE_of_wp (hi := (.op ⟨.raw, 0, true, 0⟩ (.op ⟨.raw, 0, true, 0⟩ (.op ⟨.raw, 0, true, 0⟩ (.op ⟨.raw, 0, true, 0⟩ (.op ⟨.str, 1, true, 0⟩ (.op ⟨.raw, 0, true, 0⟩ (.op ⟨.raw, 0, true, 0⟩ .nil)))))))) (args := [(.agg [(.av (.str c1)), (.av (.int .i64 c2))]), (.av (.ptr a11 a11o))]) hF (by simp [oks, SV.ok]) (Eq.mp (α := D77 M c1 c2 a11 a11o h P) (by kernel_rfl) hd)
end Go.Proofs.YtifkphfhadimaaaGreatDoor.Mini
