import Derived.Test.YtcjhjphmlfkikaaDoorHMini
import Derived.Test.YtcjhjphmlfkikaaDoorAbsG4
import Derived.Test.YtcjhjphmlfkikaaDoorAbsG13
import Derived.Test.YtcjhjphmlfkikaaDoorAbsG7
set_option linter.unusedVariables false
set_option linter.unusedSimpArgs false
set_option maxRecDepth 100000
namespace Go.Proofs.YtcjhjphmlfkikaaDoor.Mini
open Go.Abs Mini
def D5 (M : Model) (h_1 : Slc) (h : Heap) (P : AV → Heap → Prop) : Prop :=
CallE M 11 [h_1.av] h fun rv1 t1 =>
∃ (b1 : Bool), rv1 = (.bool b1) ∧
(b1 = true →
CallE M 12 [] (h ++ t1) fun rv2 t2 =>
∃ (b2 : Bool), rv2 = (.bool b2) ∧
P (.bool b2) (t1 ++ t2)) ∧
(b1 = false →
CallE M 17 [h_1.av] (h ++ t1) fun rv3 t3 =>
∃ (l1 : Slc), rv3 = l1.av ∧
CallE M 15 [h_1.av] (h ++ (t1 ++ t3)) fun rv4 t4 =>
∃ (r1 : Slc) (r2 : Int), rv4 = (.tuple [r1.av, (.int .i64 r2)]) ∧
CallE M 18 [l1.av] (h ++ (t1 ++ (t3 ++ t4))) fun rv5 t5 =>
∃ (r3 : Slc) (r4 : Int), rv5 = (.tuple [r3.av, (.int .i64 r4)]) ∧
CallE M 19 [h_1.av] (h ++ (t1 ++ (t3 ++ (t4 ++ t5)))) fun rv6 t6 =>
∃ (r5 : Slc) (r6 : Int), rv6 = (.tuple [r5.av, (.int .i64 r6)]) ∧
CallE M 20 [l1.av] (h ++ (t1 ++ (t3 ++ (t4 ++ (t5 ++ t6))))) fun rv7 t7 =>
∃ (r7 : Slc) (r8 : Int), rv7 = (.tuple [r7.av, (.int .i64 r8)]) ∧
CallE M 21 [h_1.av] (h ++ (t1 ++ (t3 ++ (t4 ++ (t5 ++ (t6 ++ t7)))))) fun rv8 t8 =>
∃ (r9 : Int) (r10 : Int), rv8 = (.tuple [(.int .i64 r9), (.int .i64 r10)]) ∧
CallE M 22 [l1.av] (h ++ (t1 ++ (t3 ++ (t4 ++ (t5 ++ (t6 ++ (t7 ++ t8))))))) fun rv9 t9 =>
∃ (r11 : Int) (r12 : Int), rv9 = (.tuple [(.int .i64 r11), (.int .i64 r12)]) ∧
CallE M 23 [h_1.av] (h ++ (t1 ++ (t3 ++ (t4 ++ (t5 ++ (t6 ++ (t7 ++ (t8 ++ t9)))))))) fun rv10 t10 =>
∃ (r13 : Bool) (r14 : Int), rv10 = (.tuple [(.bool r13), (.int .i64 r14)]) ∧
CallE M 24 [l1.av] (h ++ (t1 ++ (t3 ++ (t4 ++ (t5 ++ (t6 ++ (t7 ++ (t8 ++ (t9 ++ t10))))))))) fun rv11 t11 =>
∃ (r15 : Bool) (r16 : Int), rv11 = (.tuple [(.bool r15), (.int .i64 r16)]) ∧
CallE M 16 [h_1.av] (h ++ (t1 ++ (t3 ++ (t4 ++ (t5 ++ (t6 ++ (t7 ++ (t8 ++ (t9 ++ (t10 ++ t11)))))))))) fun rv12 t12 =>
∃ (b3 : Bool), rv12 = (.bool b3) ∧
CallE M 25 [l1.av] (h ++ (t1 ++ (t3 ++ (t4 ++ (t5 ++ (t6 ++ (t7 ++ (t8 ++ (t9 ++ (t10 ++ (t11 ++ t12))))))))))) fun rv13 t13 =>
∃ (b4 : Bool), rv13 = (.bool b4) ∧
(((b3 == b4) != true) = false → ((r2 != r4) = false → ((r6 != r8) = false → ((r10 != r12) = false → ((r14 != r16) = false → (((r13 == r15) != true) = false → ((r9 != r11) = true → P (.bool false) (t1 ++ (t3 ++ (t4 ++ (t5 ++ (t6 ++ (t7 ++ (t8 ++ (t9 ++ (t10 ++ (t11 ++ (t12 ++ t13)))))))))))) ∧
((r9 != r11) = false → ((decide (r9 ≤ 4)) = true →
CallE M 26 [r1.av, r3.av] (h ++ (t1 ++ (t3 ++ (t4 ++ (t5 ++ (t6 ++ (t7 ++ (t8 ++ (t9 ++ (t10 ++ (t11 ++ (t12 ++ t13)))))))))))) fun rv14 t14 =>
∃ (b5 : Bool), rv14 = (.bool b5) ∧
(b5 = true →
CallE M 27 [r5.av, r7.av] (h ++ (t1 ++ (t3 ++ (t4 ++ (t5 ++ (t6 ++ (t7 ++ (t8 ++ (t9 ++ (t10 ++ (t11 ++ (t12 ++ (t13 ++ t14))))))))))))) fun rv15 t15 =>
∃ (b6 : Bool), rv15 = (.bool b6) ∧
(b6 = true →
CallE M 28 [h_1.av, l1.av] (h ++ (t1 ++ (t3 ++ (t4 ++ (t5 ++ (t6 ++ (t7 ++ (t8 ++ (t9 ++ (t10 ++ (t11 ++ (t12 ++ (t13 ++ (t14 ++ t15)))))))))))))) fun rv16 t16 =>
∃ (b7 : Bool), rv16 = (.bool b7) ∧
(b7 = true →
CallE M 12 [] (h ++ (t1 ++ (t3 ++ (t4 ++ (t5 ++ (t6 ++ (t7 ++ (t8 ++ (t9 ++ (t10 ++ (t11 ++ (t12 ++ (t13 ++ (t14 ++ (t15 ++ t16))))))))))))))) fun rv17 t17 =>
∃ (b8 : Bool), rv17 = (.bool b8) ∧
P (.bool b8) (t1 ++ (t3 ++ (t4 ++ (t5 ++ (t6 ++ (t7 ++ (t8 ++ (t9 ++ (t10 ++ (t11 ++ (t12 ++ (t13 ++ (t14 ++ (t15 ++ (t16 ++ t17)))))))))))))))) ∧
(b7 = false → P (.bool false) (t1 ++ (t3 ++ (t4 ++ (t5 ++ (t6 ++ (t7 ++ (t8 ++ (t9 ++ (t10 ++ (t11 ++ (t12 ++ (t13 ++ (t14 ++ (t15 ++ t16)))))))))))))))) ∧
(b6 = false → P (.bool false) (t1 ++ (t3 ++ (t4 ++ (t5 ++ (t6 ++ (t7 ++ (t8 ++ (t9 ++ (t10 ++ (t11 ++ (t12 ++ (t13 ++ (t14 ++ t15))))))))))))))) ∧
(b5 = false → P (.bool false) (t1 ++ (t3 ++ (t4 ++ (t5 ++ (t6 ++ (t7 ++ (t8 ++ (t9 ++ (t10 ++ (t11 ++ (t12 ++ (t13 ++ t14)))))))))))))) ∧
((decide (r9 ≤ 4)) = false → P (.bool false) (t1 ++ (t3 ++ (t4 ++ (t5 ++ (t6 ++ (t7 ++ (t8 ++ (t9 ++ (t10 ++ (t11 ++ (t12 ++ t13)))))))))))))) ∧
(((r13 == r15) != true) = true → P (.bool false) (t1 ++ (t3 ++ (t4 ++ (t5 ++ (t6 ++ (t7 ++ (t8 ++ (t9 ++ (t10 ++ (t11 ++ (t12 ++ t13))))))))))))) ∧
((r14 != r16) = true → P (.bool false) (t1 ++ (t3 ++ (t4 ++ (t5 ++ (t6 ++ (t7 ++ (t8 ++ (t9 ++ (t10 ++ (t11 ++ (t12 ++ t13))))))))))))) ∧
((r10 != r12) = true → P (.bool false) (t1 ++ (t3 ++ (t4 ++ (t5 ++ (t6 ++ (t7 ++ (t8 ++ (t9 ++ (t10 ++ (t11 ++ (t12 ++ t13))))))))))))) ∧
((r6 != r8) = true → P (.bool false) (t1 ++ (t3 ++ (t4 ++ (t5 ++ (t6 ++ (t7 ++ (t8 ++ (t9 ++ (t10 ++ (t11 ++ (t12 ++ t13))))))))))))) ∧
((r2 != r4) = true → P (.bool false) (t1 ++ (t3 ++ (t4 ++ (t5 ++ (t6 ++ (t7 ++ (t8 ++ (t9 ++ (t10 ++ (t11 ++ (t12 ++ t13))))))))))))) ∧
(((b3 == b4) != true) = true → P (.bool false) (t1 ++ (t3 ++ (t4 ++ (t5 ++ (t6 ++ (t7 ++ (t8 ++ (t9 ++ (t10 ++ (t11 ++ (t12 ++ t13)))))))))))))
theorem d5 {M : Model} {h_1 : Slc} {h : Heap} {P : AV → Heap → Prop} (hF : M.fn 5 = some F5) (hd : D5 M h_1 h P) : CallE M 5 [h_1.av] h P :=
  callE_of_wp (hi := (rs 2 (.op ⟨.bool, 0, true, 0⟩ (.condS (.op ⟨.bool, 0, true, 0⟩ (.op ⟨.raw, 0, true, 0⟩ .nil)) (.op ⟨.raw, 0, true, 0⟩ (.op ⟨.slc, 0, true, 0⟩ (rs 2 (.op ⟨(.tup [.slc, (.int .i64)]), 0, true, 0⟩ (rs 6 (.op ⟨(.tup [.slc, (.int .i64)]), 0, true, 0⟩ (rs 6 (.op ⟨(.tup [.slc, (.int .i64)]), 0, true, 0⟩ (rs 6 (.op ⟨(.tup [.slc, (.int .i64)]), 0, true, 0⟩ (rs 6 (.op ⟨(.tup [(.int .i64), (.int .i64)]), 0, true, 0⟩ (rs 6 (.op ⟨(.tup [(.int .i64), (.int .i64)]), 0, true, 0⟩ (rs 6 (.op ⟨(.tup [.bool, (.int .i64)]), 0, true, 0⟩ (rs 6 (.op ⟨(.tup [.bool, (.int .i64)]), 0, true, 0⟩ (rs 6 (.op ⟨.bool, 0, true, 0⟩ (.op ⟨.raw, 0, true, 0⟩ (.op ⟨.bool, 0, true, 0⟩ (rs 2 (.split ⟨.raw, 0, true, 0⟩ (rs 4 (.split ⟨.raw, 0, true, 0⟩ (rs 4 (.split ⟨.raw, 0, true, 0⟩ (rs 4 (.split ⟨.raw, 0, true, 0⟩ (rs 4 (.split ⟨.raw, 0, true, 0⟩ (rs 4 (.split ⟨.raw, 0, true, 0⟩ (rs 3 (.condS (.op ⟨.raw, 0, true, 0⟩ .nil) (rs 3 (.split ⟨.raw, 0, true, 0⟩ (.op ⟨.raw, 0, true, 0⟩ (.op ⟨.bool, 0, true, 0⟩ (rs 2 (.split ⟨.raw, 0, true, 0⟩ (.op ⟨.raw, 0, true, 0⟩ (.op ⟨.bool, 0, true, 0⟩ (rs 2 (.split ⟨.raw, 0, true, 0⟩ (.op ⟨.raw, 0, true, 0⟩ (.op ⟨.bool, 0, true, 0⟩ (rs 2 (.split ⟨.bool, 0, true, 0⟩ (rs 2 .nil) (rs 2 .nil))))) (rs 7 .nil))))) (rs 12 .nil))))) (rs 17 .nil))))) (rs 3 (.condL (.op ⟨.raw, 0, true, 0⟩ .nil))))) (rs 8 (.condL (.op ⟨.raw, 0, true, 0⟩ .nil))))) (rs 13 (.condL (.op ⟨.raw, 0, true, 0⟩ .nil))))) (rs 18 (.condL (.op ⟨.raw, 0, true, 0⟩ .nil))))) (rs 23 (.condL (.op ⟨.raw, 0, true, 0⟩ .nil))))) (rs 28 (.condL (.op ⟨.raw, 0, true, 0⟩ .nil))))))))))))))))))))))))))))))) (args := [(.slc h_1)]) hF (by simp [oks, SV.ok]) (Eq.mp (α := D5 M h_1 h P) (by kernel_rfl) hd)
def D11 (M : Model) (h_1 : Slc) (h : Heap) (P : AV → Heap → Prop) : Prop :=
((decide (((h_1.len : Nat) : Int) > 60)) = true → P (.bool true) ([] : Heap)) ∧
((decide (((h_1.len : Nat) : Int) > 60)) = false → ∃ (I1 : Nat → Int → Int → Heap → Prop), (∃ n1, I1 n1 (0 : Int) (0 : Int) ([] : Heap)) ∧
∀ (n3 : Nat) (n2 : Int) (i1 : Int) (t1 : Heap), I1 n3 n2 i1 t1 → ((decide (i1 < ((h_1.len : Nat) : Int))) = true → ((decide (n2 < 2000)) = true → (0 ≤ i1 ∧
i1 < (h_1.len : Int)) ∧
∃ (w1 : List UInt8), rdVar h none h_1.b ((h_1.o + (i1 : Int).toNat * 7) + 3) = some (.str w1) ∧
∃ n4, n4 < n3 ∧
I1 n4 (IntKind.wrap .i64 (n2 + ((w1.length : Nat) : Int))) (IntKind.wrap .i64 (i1 + 1)) t1) ∧
((decide (n2 < 2000)) = false → P (.bool (decide (n2 ≥ 2000))) t1)) ∧
((decide (i1 < ((h_1.len : Nat) : Int))) = false → P (.bool (decide (n2 ≥ 2000))) t1))
theorem d11 {M : Model} {h_1 : Slc} {h : Heap} {P : AV → Heap → Prop} (hF : M.fn 11 = some F11) (hd : D11 M h_1 h P) : CallE M 11 [h_1.av] h P :=
  callE_of_wp (hi := (rs 4 (.condS (.op ⟨.raw, 0, true, 0⟩ .nil) (rs 2 (.loop ⟨1, [], [(3, (.int .i64)), (4, (.int .i64))]⟩ (rs 5 (.split ⟨.raw, 0, true, 0⟩ (rs 2 (.condS (rs 6 (.op ⟨.str, 1, true, 0⟩ (rs 6 .nil))) (rs 3 .nil))) (rs 2 (.condL (rs 3 .nil)))))))))) (args := [(.slc h_1)]) hF (by simp [oks, SV.ok]) (Eq.mp (α := D11 M h_1 h P) (by kernel_rfl) hd)
def D12 (M : Model) (s : Nat → List UInt8)  (h : Heap) (P : AV → Heap → Prop) : Prop :=
CallE M 41 [] h fun rv1 t1 =>
∃ (l1 : Slc), rv1 = l1.av ∧
CallE M 21 [l1.av] (h ++ t1) fun rv2 t2 =>
∃ (r1 : Int) (r2 : Int), rv2 = (.tuple [(.int .i64 r1), (.int .i64 r2)]) ∧
CallE M 41 [] (h ++ (t1 ++ t2)) fun rv3 t3 =>
∃ (l2 : Slc), rv3 = l2.av ∧
CallE M 37 [l2.av] (h ++ (t1 ++ (t2 ++ t3))) fun rv4 t4 =>
∃ (r3 : List UInt8) (r4 : Int), rv4 = (.tuple [(.str r3), (.int .i64 r4)]) ∧
CallE M 41 [] (h ++ (t1 ++ (t2 ++ (t3 ++ t4)))) fun rv5 t5 =>
∃ (l3 : Slc), rv5 = l3.av ∧
CallE M 16 [l3.av] (h ++ (t1 ++ (t2 ++ (t3 ++ (t4 ++ t5))))) fun rv6 t6 =>
∃ (b1 : Bool), rv6 = (.bool b1) ∧
(b1 = true → ((r1 == 1) = true → ((r2 == 0) = true → ((r4 == 0) = true → P (.bool (r3 == (s 0))) (t1 ++ (t2 ++ (t3 ++ (t4 ++ (t5 ++ t6)))))) ∧
((r4 == 0) = false → P (.bool false) (t1 ++ (t2 ++ (t3 ++ (t4 ++ (t5 ++ t6))))))) ∧
((r2 == 0) = false → P (.bool false) (t1 ++ (t2 ++ (t3 ++ (t4 ++ (t5 ++ t6))))))) ∧
((r1 == 1) = false → P (.bool false) (t1 ++ (t2 ++ (t3 ++ (t4 ++ (t5 ++ t6))))))) ∧
(b1 = false → P (.bool false) (t1 ++ (t2 ++ (t3 ++ (t4 ++ (t5 ++ t6))))))
theorem d12 {M : Model} {s : Nat → List UInt8}  {h : Heap} {P : AV → Heap → Prop} (hF : M.fn 12 = some (F12 s)) (hd : D12 M s  h P) : CallE M 12 [] h P :=
  callE_of_wp (hi := (.op ⟨.raw, 0, true, 0⟩ (.op ⟨.slc, 0, true, 0⟩ (.op ⟨(.tup [(.int .i64), (.int .i64)]), 0, true, 0⟩ (rs 5 (.op ⟨.slc, 0, true, 0⟩ (.op ⟨(.tup [.str, (.int .i64)]), 0, true, 0⟩ (rs 5 (.op ⟨.slc, 0, true, 0⟩ (.op ⟨.bool, 0, true, 0⟩ (.op ⟨.raw, 0, true, 0⟩ (.split ⟨.raw, 0, true, 0⟩ (rs 3 (.split ⟨.raw, 0, true, 0⟩ (rs 3 (.split ⟨.raw, 0, true, 0⟩ (rs 3 (.split ⟨.raw, 0, true, 0⟩ (rs 3 .nil) (rs 3 .nil))) (rs 7 .nil))) (rs 11 .nil))) (rs 15 .nil))))))))))))) (args := []) hF (by simp [oks, SV.ok]) (Eq.mp (α := D12 M s  h P) (by kernel_rfl) hd)
def D15 (M : Model) (h_1 : Slc) (h : Heap) (P : AV → Heap → Prop) : Prop :=
CallE M 42 [h_1.av] h fun rv1 t1 =>
∃ (r1 : Slc) (r2 : Bool), rv1 = (.tuple [r1.av, (.bool r2)]) ∧
((!r2) = true → P (.tuple [.nilslice, (.int .i64 1)]) t1) ∧
((!r2) = false → P (.tuple [r1.av, (.int .i64 0)]) t1)
theorem d15 {M : Model} {h_1 : Slc} {h : Heap} {P : AV → Heap → Prop} (hF : M.fn 15 = some F15) (hd : D15 M h_1 h P) : CallE M 15 [h_1.av] h P :=
  callE_of_wp (hi := (rs 3 (.op ⟨(.tup [.slc, .bool]), 0, true, 0⟩ (rs 7 (.condS (rs 2 .nil) (rs 3 .nil)))))) (args := [(.slc h_1)]) hF (by simp [oks, SV.ok]) (Eq.mp (α := D15 M h_1 h P) (by kernel_rfl) hd)
def D16 (M : Model) (h_1 : Slc) (h : Heap) (P : AV → Heap → Prop) : Prop :=
CallE M 42 [h_1.av] h fun rv1 t1 =>
∃ (r1 : Slc) (r2 : Bool), rv1 = (.tuple [r1.av, (.bool r2)]) ∧
P (.bool r2) t1
theorem d16 {M : Model} {h_1 : Slc} {h : Heap} {P : AV → Heap → Prop} (hF : M.fn 16 = some F16) (hd : D16 M h_1 h P) : CallE M 16 [h_1.av] h P :=
  callE_of_wp (hi := (rs 2 (.op ⟨(.tup [.slc, .bool]), 0, true, 0⟩ (rs 7 .nil)))) (args := [(.slc h_1)]) hF (by simp [oks, SV.ok]) (Eq.mp (α := D16 M h_1 h P) (by kernel_rfl) hd)
def D17 (M : Model) (h_1 : Slc) (h : Heap) (P : AV → Heap → Prop) : Prop :=
0 < h_1.len ∧
∃ (new1 : List AV), rowOf h 7 h_1.av = some new1 ∧
(0 + h_1.len) * 64 ≤ 140737488355328 ∧
P (.slice (h.length + 1) 0 (0 + h_1.len)) (AObj.dead :: [AObj.arr ([] ++ new1) 7 false])
theorem d17 {M : Model} {h_1 : Slc} {h : Heap} {P : AV → Heap → Prop} (hF : M.fn 17 = some F17) (hd : D17 M h_1 h P) : CallE M 17 [h_1.av] h P :=
  callE_of_wp (hi := (rs 3 (.op ⟨.raw, 1, true, 0⟩ (.op ⟨.raw, 0, true, 0⟩ .nil)))) (args := [(.slc h_1)]) hF (by simp [oks, SV.ok]) (Eq.mp (α := D17 M h_1 h P) (by kernel_rfl) hd)
def D18 (M : Model) (h_1 : Slc) (h : Heap) (P : AV → Heap → Prop) : Prop :=
CallE M 25 [h_1.av] h fun rv1 t1 =>
∃ (b1 : Bool), rv1 = (.bool b1) ∧
((!b1) = true → P (.tuple [.nilslice, (.int .i64 1)]) t1) ∧
((!b1) = false → ∃ (I1 : Nat → Slc → Int → Heap → Prop), (∃ n1, I1 n1 (Slc.mk 0 0 0 true) (0 : Int) ([] : Heap)) ∧
∀ (n2 : Nat) (out1 : Slc) (i1 : Int) (t2 : Heap), I1 n2 out1 i1 t2 → ((decide (i1 < ((h_1.len : Nat) : Int))) = true → (0 ≤ i1 ∧
i1 < (h_1.len : Int)) ∧
∃ (x1 : Int) (x2 : Int) (x3 : Bool) (x4 : List UInt8) (x5 : Int) (x6 : Int) (x7 : Int), rdVar h (some 7) h_1.b (h_1.o + (i1 : Int).toNat * 7) = some (.agg [(.int .i64 x1), (.int .i64 x2), (.bool x3), (.str x4), (.int .i64 x5), (.int .i64 x6), (.int .i64 x7)]) ∧
((!x3) = true → ∃ (old1 : List AV) (g1 : Heap), ((out1.nil = true ∧
old1 = [] ∧
g1 = t2) ∨ (out1.nil = false ∧
∃ (k1 : Nat) (c1 : List AV), out1.b = (h.length + t1.length) + k1 ∧
(t2)[k1]? = some (.arr c1 8 false) ∧
out1.o + out1.n * 8 ≤ c1.length ∧
old1 = (c1.drop out1.o).take (out1.n * 8) ∧
g1 = t2.set k1 .dead)) ∧
(out1.len + 1) * 72 ≤ 140737488355328 ∧
∃ n3, n3 < n2 ∧
I1 n3 (Slc.mk (h.length + (t1.length + (g1.length + (1 + 1)))) 0 (out1.len + 1) false) (IntKind.wrap .i64 (i1 + 1)) (g1 ++ (AObj.arr [(.int .i64 x1), (.int .i64 x2), (.bool x3), (.str x4), (.int .i64 x5), (.int .i64 x6), (.int .i64 x7)] 7 false :: (AObj.arr [(.int .i64 x1), (.int .i64 x2), (.str x4), (.int .i64 x5), (.int .i64 x6), (.int .i64 i1), (.int .i64 (-1)), (.int .i64 0)] 8 false :: [AObj.arr (old1 ++ [(.int .i64 x1), (.int .i64 x2), (.str x4), (.int .i64 x5), (.int .i64 x6), (.int .i64 i1), (.int .i64 (-1)), (.int .i64 0)]) 8 false])))) ∧
((!x3) = false → ∃ (I2 : Nat → Int → Heap → Heap → Prop), (∃ n4, I2 n4 (0 : Int) t2 ([] : Heap)) ∧
∀ (n5 : Nat) (k2 : Int) (g2 : Heap) (t3 : Heap), I2 n5 k2 g2 t3 → ((decide (k2 < ((out1.len : Nat) : Int))) = true → (0 ≤ k2 ∧
k2 < (out1.len : Int)) ∧
∃ (n7 : Int), rdVar (h ++ (t1 ++ g2)) none out1.b (out1.o + (k2 : Int).toNat * 8) = some (.int .i64 n7) ∧
((n7 == x1) = true → (0 ≤ k2 ∧
k2 < (out1.len : Int)) ∧
∃ (n8 : Int), rdVar (h ++ (t1 ++ g2)) none out1.b ((out1.o + (k2 : Int).toNat * 8) + 1) = some (.int .i64 n8) ∧
((n8 == x2) = true → (0 ≤ k2 ∧
k2 < (out1.len : Int)) ∧
∃ (k3 : Nat) (g3 : Heap), out1.b = (h.length + t1.length) + k3 ∧
wrCells g2 k3 ((out1.o + (k2 : Int).toNat * 8) + 6) [(.int .i64 i1)] = some g3 ∧
(0 ≤ k2 ∧
k2 < (out1.len : Int)) ∧
∃ (k4 : Nat) (g4 : Heap), out1.b = (h.length + t1.length) + k4 ∧
wrCells g3 k4 ((out1.o + (k2 : Int).toNat * 8) + 7) [(.int .i64 x7)] = some g4 ∧
∃ n6, n6 < n5 ∧
I2 n6 (IntKind.wrap .i64 (k2 + 1)) g4 t3) ∧
((n8 == x2) = false → ∃ n6, n6 < n5 ∧
I2 n6 (IntKind.wrap .i64 (k2 + 1)) g2 t3)) ∧
((n7 == x1) = false → ∃ n6, n6 < n5 ∧
I2 n6 (IntKind.wrap .i64 (k2 + 1)) g2 t3)) ∧
((decide (k2 < ((out1.len : Nat) : Int))) = false → ∃ n3, n3 < n2 ∧
I1 n3 out1 (IntKind.wrap .i64 (i1 + 1)) (g2 ++ (AObj.arr [(.int .i64 x1), (.int .i64 x2), (.bool x3), (.str x4), (.int .i64 x5), (.int .i64 x6), (.int .i64 x7)] 7 false :: t3))))) ∧
((decide (i1 < ((h_1.len : Nat) : Int))) = false → P (.tuple [out1.av, (.int .i64 0)]) (t1 ++ t2)))
theorem d18 {M : Model} {h_1 : Slc} {h : Heap} {P : AV → Heap → Prop} (hF : M.fn 18 = some F18) (hd : D18 M h_1 h P) : CallE M 18 [h_1.av] h P :=
  callE_of_wp (hi := (rs 3 (.op ⟨.bool, 0, true, 0⟩ (.op ⟨.raw, 0, true, 0⟩ (.condS (rs 2 .nil) (rs 2 (.loop ⟨2, [], [(4, .slc), (5, (.int .i64))]⟩ (rs 4 (.condS (rs 3 (.op ⟨(.agg [(.int .i64), (.int .i64), .bool, .str, (.int .i64), (.int .i64), (.int .i64)]), 1, true, 0⟩ (rs 5 (.condS (rs 10 (.op ⟨.raw, 2, true, 0⟩ (rs 4 .nil))) (.op ⟨.raw, 0, true, 0⟩ (.loop ⟨4, [(2, .heap, 0)], [(7, (.int .i64))]⟩ (rs 4 (.condS (rs 4 (.op ⟨(.int .i64), 3, true, 0⟩ (rs 4 (.split ⟨.raw, 0, true, 0⟩ (rs 3 (.op ⟨(.int .i64), 3, true, 0⟩ (rs 4 (.condS (rs 5 (.op ⟨.raw, 2, true, 0⟩ (rs 6 (.op ⟨.raw, 2, true, 0⟩ (rs 3 .nil))))) (rs 3 .nil))))) (rs 8 (.condL (rs 3 .nil))))))) (rs 3 .nil))))))))) (rs 3 .nil)))))))))) (args := [(.slc h_1)]) hF (by simp [oks, SV.ok]) (Eq.mp (α := D18 M h_1 h P) (by kernel_rfl) hd)
def D19 (M : Model) (h_1 : Slc) (h : Heap) (P : AV → Heap → Prop) : Prop :=
CallE M 42 [h_1.av] h fun rv1 t1 =>
∃ (r1 : Slc) (r2 : Bool), rv1 = (.tuple [r1.av, (.bool r2)]) ∧
((!r2) = true → P (.tuple [.nilslice, (.int .i64 1)]) t1) ∧
((!r2) = false → ∃ (I1 : Nat → Slc → Int → Heap → Prop), (∃ n1, I1 n1 (Slc.mk 0 0 0 true) (0 : Int) ([] : Heap)) ∧
∀ (n2 : Nat) (pending1 : Slc) (x1 : Int) (t2 : Heap), I1 n2 pending1 x1 t2 → ((decide (x1 < ((r1.len : Nat) : Int))) = true → (0 ≤ x1 ∧
x1 < (r1.len : Int)) ∧
∃ (n4 : Int), rdVar (h ++ (t1 ++ t2)) none r1.b ((r1.o + (x1 : Int).toNat * 8) + 6) = some (.int .i64 n4) ∧
((decide (n4 < 0)) = true → ∃ (old1 : List AV) (g1 : Heap), ((pending1.nil = true ∧
old1 = [] ∧
g1 = t2) ∨ (pending1.nil = false ∧
∃ (k1 : Nat) (c1 : List AV), pending1.b = (h.length + t1.length) + k1 ∧
(t2)[k1]? = some (.arr c1 1 false) ∧
pending1.o + pending1.n * 1 ≤ c1.length ∧
old1 = (c1.drop pending1.o).take (pending1.n * 1) ∧
g1 = t2.set k1 .dead)) ∧
(pending1.len + 1) * 8 ≤ 140737488355328 ∧
∃ n3, n3 < n2 ∧
I1 n3 (Slc.mk (h.length + (t1.length + (g1.length + 1))) 0 (pending1.len + 1) false) (IntKind.wrap .i64 (x1 + 1)) (g1 ++ (AObj.arr [(.int .i64 x1)] 1 false :: [AObj.arr (old1 ++ [(.int .i64 x1)]) 1 false]))) ∧
((decide (n4 < 0)) = false → ∃ n3, n3 < n2 ∧
I1 n3 pending1 (IntKind.wrap .i64 (x1 + 1)) t2)) ∧
((decide (x1 < ((r1.len : Nat) : Int))) = false → P (.tuple [pending1.av, (.int .i64 0)]) (t1 ++ t2)))
theorem d19 {M : Model} {h_1 : Slc} {h : Heap} {P : AV → Heap → Prop} (hF : M.fn 19 = some F19) (hd : D19 M h_1 h P) : CallE M 19 [h_1.av] h P :=
  callE_of_wp (hi := (rs 3 (.op ⟨(.tup [.slc, .bool]), 0, true, 0⟩ (rs 7 (.condS (rs 2 .nil) (rs 4 (.loop ⟨2, [], [(6, .slc), (17, (.int .i64))]⟩ (.op ⟨.raw, 0, true, 0⟩ (.condS (rs 6 (.op ⟨(.int .i64), 3, true, 0⟩ (.op ⟨.raw, 0, true, 0⟩ (.condS (rs 3 (.op ⟨.raw, 2, true, 0⟩ (rs 3 .nil))) (rs 2 .nil))))) (rs 3 .nil)))))))))) (args := [(.slc h_1)]) hF (by simp [oks, SV.ok]) (Eq.mp (α := D19 M h_1 h P) (by kernel_rfl) hd)
def D20 (M : Model) (h_1 : Slc) (h : Heap) (P : AV → Heap → Prop) : Prop :=
CallE M 18 [h_1.av] h fun rv1 t1 =>
∃ (r1 : Slc) (r2 : Int), rv1 = (.tuple [r1.av, (.int .i64 r2)]) ∧
((r2 != 0) = true → P (.tuple [.nilslice, (.int .i64 r2)]) t1) ∧
((r2 != 0) = false → ∃ (I1 : Nat → Slc → Int → Heap → Prop), (∃ n1, I1 n1 (Slc.mk 0 0 0 true) (0 : Int) ([] : Heap)) ∧
∀ (n2 : Nat) (out1 : Slc) (k1 : Int) (t2 : Heap), I1 n2 out1 k1 t2 → ((decide (k1 < ((r1.len : Nat) : Int))) = true → (0 ≤ k1 ∧
k1 < (r1.len : Int)) ∧
∃ (n4 : Int), rdVar (h ++ (t1 ++ t2)) none r1.b ((r1.o + (k1 : Int).toNat * 8) + 6) = some (.int .i64 n4) ∧
((decide (n4 < 0)) = true → ∃ (old1 : List AV) (g1 : Heap), ((out1.nil = true ∧
old1 = [] ∧
g1 = t2) ∨ (out1.nil = false ∧
∃ (k2 : Nat) (c1 : List AV), out1.b = (h.length + t1.length) + k2 ∧
(t2)[k2]? = some (.arr c1 1 false) ∧
out1.o + out1.n * 1 ≤ c1.length ∧
old1 = (c1.drop out1.o).take (out1.n * 1) ∧
g1 = t2.set k2 .dead)) ∧
(out1.len + 1) * 8 ≤ 140737488355328 ∧
∃ n3, n3 < n2 ∧
I1 n3 (Slc.mk (h.length + (t1.length + (g1.length + 1))) 0 (out1.len + 1) false) (IntKind.wrap .i64 (k1 + 1)) (g1 ++ (AObj.arr [(.int .i64 k1)] 1 false :: [AObj.arr (old1 ++ [(.int .i64 k1)]) 1 false]))) ∧
((decide (n4 < 0)) = false → ∃ n3, n3 < n2 ∧
I1 n3 out1 (IntKind.wrap .i64 (k1 + 1)) t2)) ∧
((decide (k1 < ((r1.len : Nat) : Int))) = false → P (.tuple [out1.av, (.int .i64 0)]) (t1 ++ t2)))
theorem d20 {M : Model} {h_1 : Slc} {h : Heap} {P : AV → Heap → Prop} (hF : M.fn 20 = some F20) (hd : D20 M h_1 h P) : CallE M 20 [h_1.av] h P :=
  callE_of_wp (hi := (rs 3 (.op ⟨(.tup [.slc, (.int .i64)]), 0, true, 0⟩ (rs 7 (.condS (rs 3 .nil) (rs 2 (.loop ⟨2, [], [(6, .slc), (7, (.int .i64))]⟩ (rs 4 (.condS (rs 4 (.op ⟨(.int .i64), 3, true, 0⟩ (.op ⟨.raw, 0, true, 0⟩ (.condS (rs 3 (.op ⟨.raw, 2, true, 0⟩ (rs 4 .nil))) (rs 3 .nil))))) (rs 3 .nil)))))))))) (args := [(.slc h_1)]) hF (by simp [oks, SV.ok]) (Eq.mp (α := D20 M h_1 h P) (by kernel_rfl) hd)
def D21 (M : Model) (h_1 : Slc) (h : Heap) (P : AV → Heap → Prop) : Prop :=
CallE M 16 [h_1.av] h fun rv1 t1 =>
∃ (b1 : Bool), rv1 = (.bool b1) ∧
((!b1) = true → P (.tuple [(.int .i64 0), (.int .i64 1)]) t1) ∧
((!b1) = false → ∃ (I1 : Nat → Int → Int → Int → Heap → Prop), (∃ n1, I1 n1 (0 : Int) (0 : Int) (0 : Int) ([] : Heap)) ∧
∀ (n2 : Nat) (open_1 : Int) (most1 : Int) (x1 : Int) (t2 : Heap), I1 n2 open_1 most1 x1 t2 → ((decide (x1 < ((h_1.len : Nat) : Int))) = true → (0 ≤ x1 ∧
x1 < (h_1.len : Int)) ∧
∃ (x2 : Int) (x3 : Int) (x4 : Bool) (x5 : List UInt8) (x6 : Int) (x7 : Int) (x8 : Int), rdVar h (some 7) h_1.b (h_1.o + (x1 : Int).toNat * 7) = some (.agg [(.int .i64 x2), (.int .i64 x3), (.bool x4), (.str x5), (.int .i64 x6), (.int .i64 x7), (.int .i64 x8)]) ∧
∃ (J1 : Int → Heap → Prop), ((x4 = true → J1 (IntKind.wrap .i64 (open_1 - 1)) ([] : Heap)) ∧
(x4 = false → J1 (IntKind.wrap .i64 (open_1 + 1)) ([] : Heap))) ∧
(∀ (open_2 : Int) (t3 : Heap), J1 open_2 t3 → ∃ n3, n3 < n2 ∧
I1 n3 open_2 (if open_2 > most1 then open_2 else most1) (IntKind.wrap .i64 (x1 + 1)) (t2 ++ (AObj.arr [(.int .i64 x2), (.int .i64 x3), (.bool x4), (.str x5), (.int .i64 x6), (.int .i64 x7), (.int .i64 x8)] 7 false :: t3)))) ∧
((decide (x1 < ((h_1.len : Nat) : Int))) = false → P (.tuple [(.int .i64 most1), (.int .i64 0)]) (t1 ++ t2)))
theorem d21 {M : Model} {h_1 : Slc} {h : Heap} {P : AV → Heap → Prop} (hF : M.fn 21 = some F21) (hd : D21 M h_1 h P) : CallE M 21 [h_1.av] h P :=
  callE_of_wp (hi := (rs 3 (.op ⟨.bool, 0, true, 0⟩ (.op ⟨.raw, 0, true, 0⟩ (.condS (rs 2 .nil) (rs 5 (.loop ⟨2, [], [(4, (.int .i64)), (5, (.int .i64)), (13, (.int .i64))]⟩ (.op ⟨.raw, 0, true, 0⟩ (.condS (.op ⟨.raw, 0, true, 0⟩ (.op ⟨(.agg [(.int .i64), (.int .i64), .bool, .str, (.int .i64), (.int .i64), (.int .i64)]), 1, true, 0⟩ (rs 2 (.join ⟨4, [], [(4, (.int .i64))]⟩ (rs 2 (.condS (rs 3 .nil) (rs 3 .nil))) (rs 6 .nil))))) (rs 3 .nil)))))))))) (args := [(.slc h_1)]) hF (by simp [oks, SV.ok]) (Eq.mp (α := D21 M h_1 h P) (by kernel_rfl) hd)
def D22 (M : Model) (h_1 : Slc) (h : Heap) (P : AV → Heap → Prop) : Prop :=
CallE M 25 [h_1.av] h fun rv1 t1 =>
∃ (b1 : Bool), rv1 = (.bool b1) ∧
((!b1) = true → P (.tuple [(.int .i64 0), (.int .i64 1)]) t1) ∧
((!b1) = false → ∃ (I1 : Nat → Int → Int → Int → Heap → Prop), (∃ n1, I1 n1 (0 : Int) (0 : Int) (0 : Int) ([] : Heap)) ∧
∀ (n2 : Nat) (open_1 : Int) (most1 : Int) (i1 : Int) (t2 : Heap), I1 n2 open_1 most1 i1 t2 → ((decide (i1 < ((h_1.len : Nat) : Int))) = true → (0 ≤ i1 ∧
i1 < (h_1.len : Int)) ∧
∃ (b2 : Bool), rdVar h none h_1.b ((h_1.o + (i1 : Int).toNat * 7) + 2) = some (.bool b2) ∧
(b2 = true → ((decide ((IntKind.wrap .i64 (open_1 - 1)) > most1)) = true → ∃ n3, n3 < n2 ∧
I1 n3 (IntKind.wrap .i64 (open_1 - 1)) (IntKind.wrap .i64 (open_1 - 1)) (IntKind.wrap .i64 (i1 + 1)) t2) ∧
((decide ((IntKind.wrap .i64 (open_1 - 1)) > most1)) = false → ∃ n3, n3 < n2 ∧
I1 n3 (IntKind.wrap .i64 (open_1 - 1)) most1 (IntKind.wrap .i64 (i1 + 1)) t2)) ∧
(b2 = false → ((decide ((IntKind.wrap .i64 (open_1 + 1)) > most1)) = true → ∃ n3, n3 < n2 ∧
I1 n3 (IntKind.wrap .i64 (open_1 + 1)) (IntKind.wrap .i64 (open_1 + 1)) (IntKind.wrap .i64 (i1 + 1)) t2) ∧
((decide ((IntKind.wrap .i64 (open_1 + 1)) > most1)) = false → ∃ n3, n3 < n2 ∧
I1 n3 (IntKind.wrap .i64 (open_1 + 1)) most1 (IntKind.wrap .i64 (i1 + 1)) t2))) ∧
((decide (i1 < ((h_1.len : Nat) : Int))) = false → P (.tuple [(.int .i64 most1), (.int .i64 0)]) (t1 ++ t2)))
theorem d22 {M : Model} {h_1 : Slc} {h : Heap} {P : AV → Heap → Prop} (hF : M.fn 22 = some F22) (hd : D22 M h_1 h P) : CallE M 22 [h_1.av] h P :=
  callE_of_wp (hi := (rs 3 (.op ⟨.bool, 0, true, 0⟩ (.op ⟨.raw, 0, true, 0⟩ (.condS (rs 2 .nil) (rs 3 (.loop ⟨2, [], [(4, (.int .i64)), (5, (.int .i64)), (6, (.int .i64))]⟩ (rs 4 (.condS (rs 4 (.op ⟨.bool, 1, true, 0⟩ (.condS (rs 6 (.condS (rs 5 .nil) (rs 3 .nil))) (rs 6 (.condS (rs 5 .nil) (rs 3 .nil)))))) (rs 3 .nil)))))))))) (args := [(.slc h_1)]) hF (by simp [oks, SV.ok]) (Eq.mp (α := D22 M h_1 h P) (by kernel_rfl) hd)
def D23 (M : Model) (h_1 : Slc) (h : Heap) (P : AV → Heap → Prop) : Prop :=
CallE M 42 [h_1.av] h fun rv1 t1 =>
∃ (r1 : Slc) (r2 : Bool), rv1 = (.tuple [r1.av, (.bool r2)]) ∧
((!r2) = true → P (.tuple [(.bool false), (.int .i64 1)]) t1) ∧
((!r2) = false → ∃ (I1 : Nat → Int → Heap → Prop), (∃ n1, I1 n1 (0 : Int) ([] : Heap)) ∧
∀ (n2 : Nat) (x1 : Int) (t2 : Heap), I1 n2 x1 t2 → ((decide (x1 < ((r1.len : Nat) : Int))) = true → (0 ≤ x1 ∧
x1 < (r1.len : Int)) ∧
∃ (x2 : Int) (x3 : Int) (x4 : List UInt8) (x5 : Int) (x6 : Int) (x7 : Int) (x8 : Int) (x9 : Int), rdVar (h ++ (t1 ++ t2)) (some 8) r1.b (r1.o + (x1 : Int).toNat * 8) = some (.agg [(.int .i64 x2), (.int .i64 x3), (.str x4), (.int .i64 x5), (.int .i64 x6), (.int .i64 x7), (.int .i64 x8), (.int .i64 x9)]) ∧
((x8 != (IntKind.wrap .i64 (x7 + 1))) = true → ((decide (x8 ≥ 0)) = false → ((x1 != (IntKind.wrap .i64 (((r1.len : Nat) : Int) - 1))) = false → ((x7 != (IntKind.wrap .i64 (((h_1.len : Nat) : Int) - 1))) = true → P (.tuple [(.bool false), (.int .i64 0)]) (t1 ++ (t2 ++ [AObj.arr [(.int .i64 x2), (.int .i64 x3), (.str x4), (.int .i64 x5), (.int .i64 x6), (.int .i64 x7), (.int .i64 x8), (.int .i64 x9)] 8 false]))) ∧
((x7 != (IntKind.wrap .i64 (((h_1.len : Nat) : Int) - 1))) = false → ∃ n3, n3 < n2 ∧
I1 n3 (IntKind.wrap .i64 (x1 + 1)) (t2 ++ [AObj.arr [(.int .i64 x2), (.int .i64 x3), (.str x4), (.int .i64 x5), (.int .i64 x6), (.int .i64 x7), (.int .i64 x8), (.int .i64 x9)] 8 false]))) ∧
((x1 != (IntKind.wrap .i64 (((r1.len : Nat) : Int) - 1))) = true → P (.tuple [(.bool false), (.int .i64 0)]) (t1 ++ (t2 ++ [AObj.arr [(.int .i64 x2), (.int .i64 x3), (.str x4), (.int .i64 x5), (.int .i64 x6), (.int .i64 x7), (.int .i64 x8), (.int .i64 x9)] 8 false])))) ∧
((decide (x8 ≥ 0)) = true → P (.tuple [(.bool false), (.int .i64 0)]) (t1 ++ (t2 ++ [AObj.arr [(.int .i64 x2), (.int .i64 x3), (.str x4), (.int .i64 x5), (.int .i64 x6), (.int .i64 x7), (.int .i64 x8), (.int .i64 x9)] 8 false])))) ∧
((x8 != (IntKind.wrap .i64 (x7 + 1))) = false → ∃ n3, n3 < n2 ∧
I1 n3 (IntKind.wrap .i64 (x1 + 1)) (t2 ++ [AObj.arr [(.int .i64 x2), (.int .i64 x3), (.str x4), (.int .i64 x5), (.int .i64 x6), (.int .i64 x7), (.int .i64 x8), (.int .i64 x9)] 8 false]))) ∧
((decide (x1 < ((r1.len : Nat) : Int))) = false → P (.tuple [(.bool true), (.int .i64 0)]) (t1 ++ t2)))
theorem d23 {M : Model} {h_1 : Slc} {h : Heap} {P : AV → Heap → Prop} (hF : M.fn 23 = some F23) (hd : D23 M h_1 h P) : CallE M 23 [h_1.av] h P :=
  callE_of_wp (hi := (rs 3 (.op ⟨(.tup [.slc, .bool]), 0, true, 0⟩ (rs 7 (.condS (rs 2 .nil) (rs 3 (.loop ⟨2, [], [(17, (.int .i64))]⟩ (.op ⟨.raw, 0, true, 0⟩ (.condS (rs 2 (.op ⟨(.agg [(.int .i64), (.int .i64), .str, (.int .i64), (.int .i64), (.int .i64), (.int .i64), (.int .i64)]), 3, true, 0⟩ (rs 10 (.split ⟨.raw, 0, true, 0⟩ (rs 3 (.split ⟨.raw, 0, true, 0⟩ (rs 6 (.split ⟨.raw, 0, true, 0⟩ (rs 7 (.condS (rs 2 .nil) (rs 2 .nil))) (rs 7 (.condL (rs 2 .nil))))) (rs 14 (.condL (rs 2 .nil))))) (rs 18 (.condL (rs 2 .nil))))))) (rs 2 .nil)))))))))) (args := [(.slc h_1)]) hF (by simp [oks, SV.ok]) (Eq.mp (α := D23 M h_1 h P) (by kernel_rfl) hd)
def D24 (M : Model) (h_1 : Slc) (h : Heap) (P : AV → Heap → Prop) : Prop :=
CallE M 25 [h_1.av] h fun rv1 t1 =>
∃ (b1 : Bool), rv1 = (.bool b1) ∧
((!b1) = true → P (.tuple [(.bool false), (.int .i64 1)]) t1) ∧
((!b1) = false → ∃ (I1 : Nat → Int → Heap → Prop), (∃ n1, I1 n1 (0 : Int) ([] : Heap)) ∧
∀ (n2 : Nat) (i1 : Int) (t2 : Heap), I1 n2 i1 t2 → ((decide (i1 < ((h_1.len : Nat) : Int))) = true → (0 ≤ i1 ∧
i1 < (h_1.len : Int)) ∧
∃ (b2 : Bool), rdVar h none h_1.b ((h_1.o + (i1 : Int).toNat * 7) + 2) = some (.bool b2) ∧
(((b2 == ((Int.tmod i1 2) == 1)) != true) = false → (((Int.tmod i1 2) == 1) = true → (0 ≤ i1 ∧
i1 < (h_1.len : Int)) ∧
∃ (n4 : Int), rdVar h none h_1.b (h_1.o + (i1 : Int).toNat * 7) = some (.int .i64 n4) ∧
(0 ≤ (IntKind.wrap .i64 (i1 - 1)) ∧
(IntKind.wrap .i64 (i1 - 1)) < (h_1.len : Int)) ∧
∃ (n5 : Int), rdVar h none h_1.b (h_1.o + ((IntKind.wrap .i64 (i1 - 1)) : Int).toNat * 7) = some (.int .i64 n5) ∧
((n4 != n5) = true → P (.tuple [(.bool false), (.int .i64 0)]) (t1 ++ t2)) ∧
((n4 != n5) = false → ∃ n3, n3 < n2 ∧
I1 n3 (IntKind.wrap .i64 (i1 + 1)) t2)) ∧
(((Int.tmod i1 2) == 1) = false → ∃ n3, n3 < n2 ∧
I1 n3 (IntKind.wrap .i64 (i1 + 1)) t2)) ∧
(((b2 == ((Int.tmod i1 2) == 1)) != true) = true → P (.tuple [(.bool false), (.int .i64 0)]) (t1 ++ t2))) ∧
((decide (i1 < ((h_1.len : Nat) : Int))) = false → P (.tuple [(.bool true), (.int .i64 0)]) (t1 ++ t2)))
theorem d24 {M : Model} {h_1 : Slc} {h : Heap} {P : AV → Heap → Prop} (hF : M.fn 24 = some F24) (hd : D24 M h_1 h P) : CallE M 24 [h_1.av] h P :=
  callE_of_wp (hi := (rs 3 (.op ⟨.bool, 0, true, 0⟩ (.op ⟨.raw, 0, true, 0⟩ (.condS (rs 2 .nil) (.op ⟨.raw, 0, true, 0⟩ (.loop ⟨2, [], [(4, (.int .i64))]⟩ (rs 4 (.condS (rs 4 (.op ⟨.bool, 1, true, 0⟩ (rs 5 (.split ⟨.raw, 0, true, 0⟩ (rs 3 (.split ⟨.raw, 0, true, 0⟩ (rs 3 (.op ⟨(.int .i64), 1, true, 0⟩ (rs 5 (.op ⟨(.int .i64), 1, true, 0⟩ (rs 3 (.condS (rs 2 .nil) (rs 3 .nil))))))) (rs 13 (.condL (rs 3 .nil))))) (rs 17 (.condL (rs 2 .nil))))))) (rs 2 .nil)))))))))) (args := [(.slc h_1)]) hF (by simp [oks, SV.ok]) (Eq.mp (α := D24 M h_1 h P) (by kernel_rfl) hd)
def D25 (M : Model) (h_1 : Slc) (h : Heap) (P : AV → Heap → Prop) : Prop :=
(0 ≤ (4 : Int) ∧
(4 : Int) = 4 ∧
(4 : Int) * ((1 : Nat) : Int) ≤ 140737488355328) ∧
(0 ≤ (4 : Int) ∧
(4 : Int) = 4 ∧
(4 : Int) * ((8 : Nat) : Int) ≤ 140737488355328) ∧
(0 ≤ (4 : Int) ∧
(4 : Int) = 4 ∧
(4 : Int) * ((32 : Nat) : Int) ≤ 140737488355328) ∧
∃ (I1 : Nat → Int → Int → (List AV) → (List AV) → (List AV) → Heap → Prop), (∃ n1, I1 n1 (0 : Int) (0 : Int) [(.bool false), (.bool false), (.bool false), (.bool false)] [(.int .i64 0), (.int .i64 0), (.int .i64 0), (.int .i64 0)] [(.str []), (.int .i64 0), (.int .i64 0), (.str []), (.int .i64 0), (.int .i64 0), (.str []), (.int .i64 0), (.int .i64 0), (.str []), (.int .i64 0), (.int .i64 0)] ([] : Heap)) ∧
∀ (n2 : Nat) (calls1 : Int) (i1 : Int) (c1 : List AV) (c2 : List AV) (c3 : List AV) (t1 : Heap), I1 n2 calls1 i1 c1 c2 c3 t1 → ((decide (i1 < ((h_1.len : Nat) : Int))) = true → (0 ≤ i1 ∧
i1 < (h_1.len : Int)) ∧
∃ (x1 : Int) (x2 : Int) (x3 : Bool) (x4 : List UInt8) (x5 : Int) (x6 : Int) (x7 : Int), rdVar h (some 7) h_1.b (h_1.o + (i1 : Int).toNat * 7) = some (.agg [(.int .i64 x1), (.int .i64 x2), (.bool x3), (.str x4), (.int .i64 x5), (.int .i64 x6), (.int .i64 x7)]) ∧
((decide (x1 < 0)) = false → ((decide (x1 ≥ 4)) = false →
CallE M 45 [(.int .i64 x5)] (h ++ (AObj.arr c1 1 false :: (AObj.arr c2 1 false :: (AObj.arr c3 3 false :: (t1 ++ [AObj.arr [(.int .i64 x1), (.int .i64 x2), (.bool x3), (.str x4), (.int .i64 x5), (.int .i64 x6), (.int .i64 x7)] 7 false]))))) fun rv1 t2 =>
∃ (b1 : Bool), rv1 = (.bool b1) ∧
((!b1) = false →
CallE M 45 [(.int .i64 x6)] (h ++ (AObj.arr c1 1 false :: (AObj.arr c2 1 false :: (AObj.arr c3 3 false :: (t1 ++ (AObj.arr [(.int .i64 x1), (.int .i64 x2), (.bool x3), (.str x4), (.int .i64 x5), (.int .i64 x6), (.int .i64 x7)] 7 false :: t2)))))) fun rv2 t3 =>
∃ (b2 : Bool), rv2 = (.bool b2) ∧
((!b2) = false →
CallE M 45 [(.int .i64 x7)] (h ++ (AObj.arr c1 1 false :: (AObj.arr c2 1 false :: (AObj.arr c3 3 false :: (t1 ++ (AObj.arr [(.int .i64 x1), (.int .i64 x2), (.bool x3), (.str x4), (.int .i64 x5), (.int .i64 x6), (.int .i64 x7)] 7 false :: (t2 ++ t3))))))) fun rv3 t4 =>
∃ (b3 : Bool), rv3 = (.bool b3) ∧
((!b3) = false →
CallE M 46 [(.str x4)] (h ++ (AObj.arr c1 1 false :: (AObj.arr c2 1 false :: (AObj.arr c3 3 false :: (t1 ++ (AObj.arr [(.int .i64 x1), (.int .i64 x2), (.bool x3), (.str x4), (.int .i64 x5), (.int .i64 x6), (.int .i64 x7)] 7 false :: (t2 ++ (t3 ++ t4)))))))) fun rv4 t5 =>
∃ (b4 : Bool), rv4 = (.bool b4) ∧
((!b4) = true → P (.bool false) (AObj.arr c1 1 false :: (AObj.arr c2 1 false :: (AObj.arr c3 3 false :: (t1 ++ (AObj.arr [(.int .i64 x1), (.int .i64 x2), (.bool x3), (.str x4), (.int .i64 x5), (.int .i64 x6), (.int .i64 x7)] 7 false :: (t2 ++ (t3 ++ (t4 ++ t5))))))))) ∧
((!b4) = false → (0 ≤ x1 ∧
x1 < ((4 : Nat) : Int)) ∧
∃ (b5 : Bool), partOf none c1 (0 + (x1 : Int).toNat * 1) = some (.bool b5) ∧
(((x3 == b5) != true) = false → (0 ≤ x1 ∧
x1 < ((4 : Nat) : Int)) ∧
∃ (n4 : Int), partOf none c2 (0 + (x1 : Int).toNat * 1) = some (.int .i64 n4) ∧
((x2 != n4) = true → P (.bool false) (AObj.arr c1 1 false :: (AObj.arr c2 1 false :: (AObj.arr c3 3 false :: (t1 ++ (AObj.arr [(.int .i64 x1), (.int .i64 x2), (.bool x3), (.str x4), (.int .i64 x5), (.int .i64 x6), (.int .i64 x7)] 7 false :: (t2 ++ (t3 ++ (t4 ++ t5))))))))) ∧
((x2 != n4) = false → (x3 = true → (0 ≤ x1 ∧
x1 < ((4 : Nat) : Int)) ∧
∃ (x8 : List UInt8) (x9 : Int) (x10 : Int), partOf (some 3) c3 (0 + (x1 : Int).toNat * 3) = some (.agg [(.str x8), (.int .i64 x9), (.int .i64 x10)]) ∧
((((x4 == x8) && ((x5 == x9) && ((x6 == x10) && true))) != true) = true → P (.bool false) (AObj.arr c1 1 false :: (AObj.arr c2 1 false :: (AObj.arr c3 3 false :: (t1 ++ (AObj.arr [(.int .i64 x1), (.int .i64 x2), (.bool x3), (.str x4), (.int .i64 x5), (.int .i64 x6), (.int .i64 x7)] 7 false :: (t2 ++ (t3 ++ (t4 ++ t5))))))))) ∧
((((x4 == x8) && ((x5 == x9) && ((x6 == x10) && true))) != true) = false → (0 ≤ x1 ∧
x1 < ((4 : Nat) : Int)) ∧
∃ (n5 : Int), partOf none c2 (0 + (x1 : Int).toNat * 1) = some (.int .i64 n5) ∧
(0 ≤ x1 ∧
x1 < ((4 : Nat) : Int)) ∧
(0 + (x1 : Int).toNat * 1) + 1 ≤ List.length (α := AV) c2 ∧
(0 ≤ x1 ∧
x1 < ((4 : Nat) : Int)) ∧
(0 + (x1 : Int).toNat * 1) + 1 ≤ List.length (α := AV) c1 ∧
∃ n3, n3 < n2 ∧
I1 n3 calls1 (IntKind.wrap .i64 (i1 + 1)) (setCells c1 (0 + (x1 : Int).toNat * 1) [(.bool false)]) (setCells c2 (0 + (x1 : Int).toNat * 1) [(.int .i64 (IntKind.wrap .i64 (n5 + 1)))]) c3 (t1 ++ (AObj.arr [(.int .i64 x1), (.int .i64 x2), (.bool x3), (.str x4), (.int .i64 x5), (.int .i64 x6), (.int .i64 x7)] 7 false :: (t2 ++ (t3 ++ (t4 ++ t5))))))) ∧
(x3 = false → ((x7 != 0) = false → ((decide ((IntKind.wrap .i64 (calls1 + 1)) > 12)) = true → P (.bool false) (AObj.arr c1 1 false :: (AObj.arr c2 1 false :: (AObj.arr c3 3 false :: (t1 ++ (AObj.arr [(.int .i64 x1), (.int .i64 x2), (.bool x3), (.str x4), (.int .i64 x5), (.int .i64 x6), (.int .i64 x7)] 7 false :: (t2 ++ (t3 ++ (t4 ++ t5))))))))) ∧
((decide ((IntKind.wrap .i64 (calls1 + 1)) > 12)) = false → (0 ≤ x1 ∧
x1 < ((4 : Nat) : Int)) ∧
(0 + (x1 : Int).toNat * 1) + 1 ≤ List.length (α := AV) c1 ∧
(0 ≤ x1 ∧
x1 < ((4 : Nat) : Int)) ∧
(0 + (x1 : Int).toNat * 3) + 3 ≤ List.length (α := AV) c3 ∧
∃ n3, n3 < n2 ∧
I1 n3 (IntKind.wrap .i64 (calls1 + 1)) (IntKind.wrap .i64 (i1 + 1)) (setCells c1 (0 + (x1 : Int).toNat * 1) [(.bool true)]) c2 (setCells c3 (0 + (x1 : Int).toNat * 3) [(.str x4), (.int .i64 x5), (.int .i64 x6)]) (t1 ++ (AObj.arr [(.int .i64 x1), (.int .i64 x2), (.bool x3), (.str x4), (.int .i64 x5), (.int .i64 x6), (.int .i64 x7)] 7 false :: (t2 ++ (t3 ++ (t4 ++ t5))))))) ∧
((x7 != 0) = true → P (.bool false) (AObj.arr c1 1 false :: (AObj.arr c2 1 false :: (AObj.arr c3 3 false :: (t1 ++ (AObj.arr [(.int .i64 x1), (.int .i64 x2), (.bool x3), (.str x4), (.int .i64 x5), (.int .i64 x6), (.int .i64 x7)] 7 false :: (t2 ++ (t3 ++ (t4 ++ t5)))))))))))) ∧
(((x3 == b5) != true) = true → P (.bool false) (AObj.arr c1 1 false :: (AObj.arr c2 1 false :: (AObj.arr c3 3 false :: (t1 ++ (AObj.arr [(.int .i64 x1), (.int .i64 x2), (.bool x3), (.str x4), (.int .i64 x5), (.int .i64 x6), (.int .i64 x7)] 7 false :: (t2 ++ (t3 ++ (t4 ++ t5))))))))))) ∧
((!b3) = true → P (.bool false) (AObj.arr c1 1 false :: (AObj.arr c2 1 false :: (AObj.arr c3 3 false :: (t1 ++ (AObj.arr [(.int .i64 x1), (.int .i64 x2), (.bool x3), (.str x4), (.int .i64 x5), (.int .i64 x6), (.int .i64 x7)] 7 false :: (t2 ++ (t3 ++ t4))))))))) ∧
((!b2) = true → P (.bool false) (AObj.arr c1 1 false :: (AObj.arr c2 1 false :: (AObj.arr c3 3 false :: (t1 ++ (AObj.arr [(.int .i64 x1), (.int .i64 x2), (.bool x3), (.str x4), (.int .i64 x5), (.int .i64 x6), (.int .i64 x7)] 7 false :: (t2 ++ t3)))))))) ∧
((!b1) = true → P (.bool false) (AObj.arr c1 1 false :: (AObj.arr c2 1 false :: (AObj.arr c3 3 false :: (t1 ++ (AObj.arr [(.int .i64 x1), (.int .i64 x2), (.bool x3), (.str x4), (.int .i64 x5), (.int .i64 x6), (.int .i64 x7)] 7 false :: t2))))))) ∧
((decide (x1 ≥ 4)) = true → P (.bool false) (AObj.arr c1 1 false :: (AObj.arr c2 1 false :: (AObj.arr c3 3 false :: (t1 ++ [AObj.arr [(.int .i64 x1), (.int .i64 x2), (.bool x3), (.str x4), (.int .i64 x5), (.int .i64 x6), (.int .i64 x7)] 7 false])))))) ∧
((decide (x1 < 0)) = true → P (.bool false) (AObj.arr c1 1 false :: (AObj.arr c2 1 false :: (AObj.arr c3 3 false :: (t1 ++ [AObj.arr [(.int .i64 x1), (.int .i64 x2), (.bool x3), (.str x4), (.int .i64 x5), (.int .i64 x6), (.int .i64 x7)] 7 false])))))) ∧
((decide (i1 < ((h_1.len : Nat) : Int))) = false → P (.bool true) (AObj.arr c1 1 false :: (AObj.arr c2 1 false :: (AObj.arr c3 3 false :: t1))))
theorem d25 {M : Model} {h_1 : Slc} {h : Heap} {P : AV → Heap → Prop} (hF : M.fn 25 = some F25) (hd : D25 M h_1 h P) : CallE M 25 [h_1.av] h P :=
  callE_of_wp (hi := (rs 9 (.loop ⟨4, [(1, .cells, 1), (2, .cells, 1), (3, .cells, 3)], [(3, (.int .i64)), (7, (.int .i64))]⟩ (rs 4 (.condS (rs 3 (.op ⟨(.agg [(.int .i64), (.int .i64), .bool, .str, (.int .i64), (.int .i64), (.int .i64)]), 1, true, 0⟩ (rs 6 (.split ⟨.raw, 0, true, 0⟩ (rs 4 (.split ⟨.raw, 0, true, 0⟩ (rs 2 (.op ⟨.bool, 0, true, 0⟩ (rs 3 (.split ⟨.raw, 0, true, 0⟩ (rs 2 (.op ⟨.bool, 0, true, 0⟩ (rs 3 (.split ⟨.raw, 0, true, 0⟩ (.op ⟨.raw, 0, true, 0⟩ (.op ⟨.bool, 0, true, 0⟩ (rs 3 (.split ⟨.raw, 0, true, 0⟩ (rs 2 (.op ⟨.bool, 0, true, 0⟩ (rs 2 (.condS (.op ⟨.raw, 0, true, 0⟩ .nil) (rs 7 (.op ⟨.raw, 0, true, 1⟩ (.op ⟨.bool, 0, true, 0⟩ (rs 2 (.split ⟨.raw, 0, true, 0⟩ (rs 3 (.op ⟨.raw, 0, true, 1⟩ (.op ⟨(.int .i64), 0, true, 0⟩ (rs 2 (.condS (.op ⟨.raw, 0, true, 0⟩ .nil) (rs 2 (.condS (rs 4 (.op ⟨.raw, 0, true, 1⟩ (.op ⟨(.agg [.str, (.int .i64), (.int .i64)]), 0, true, 0⟩ (.op ⟨.raw, 0, true, 0⟩ (.condS (.op ⟨.raw, 0, true, 0⟩ .nil) (rs 4 (.op ⟨.raw, 0, true, 1⟩ (.op ⟨(.int .i64), 0, true, 0⟩ (.op ⟨.raw, 0, true, 0⟩ (.op ⟨.raw, 0, true, 1⟩ (rs 3 (.op ⟨.raw, 0, true, 1⟩ (rs 4 .nil))))))))))))) (rs 7 (.split ⟨.raw, 0, true, 0⟩ (rs 2 (.condS (.op ⟨.raw, 0, true, 0⟩ .nil) (rs 2 (.op ⟨.raw, 0, true, 1⟩ (rs 5 (.op ⟨.raw, 0, true, 1⟩ (rs 4 .nil))))))) (rs 2 (.condL (.op ⟨.raw, 0, true, 0⟩ .nil)))))))))))) (rs 7 (.condL (.op ⟨.raw, 0, true, 0⟩ .nil)))))))))))) (rs 5 (.condL (.op ⟨.raw, 0, true, 0⟩ .nil))))))) (rs 11 (.condL (.op ⟨.raw, 0, true, 0⟩ .nil))))))) (rs 18 (.condL (.op ⟨.raw, 0, true, 0⟩ .nil))))))) (rs 25 (.condL (.op ⟨.raw, 0, true, 0⟩ .nil))))) (rs 30 (.condL (.op ⟨.raw, 0, true, 0⟩ .nil))))))) (.op ⟨.raw, 0, true, 0⟩ .nil)))))) (args := [(.slc h_1)]) hF (by simp [oks, SV.ok]) (Eq.mp (α := D25 M h_1 h P) (by kernel_rfl) hd)
def D26 (M : Model) (a1 : Slc) (b1 : Slc) (h : Heap) (P : AV → Heap → Prop) : Prop :=
((((a1.len : Nat) : Int) != ((b1.len : Nat) : Int)) = true → P (.bool false) ([] : Heap)) ∧
((((a1.len : Nat) : Int) != ((b1.len : Nat) : Int)) = false → ∃ (I1 : Nat → Int → Heap → Prop), (∃ n1, I1 n1 (0 : Int) ([] : Heap)) ∧
∀ (n2 : Nat) (i1 : Int) (t1 : Heap), I1 n2 i1 t1 → ((decide (i1 < ((a1.len : Nat) : Int))) = true → (0 ≤ i1 ∧
i1 < (a1.len : Int)) ∧
∃ (n4 : Int), rdVar h none a1.b (a1.o + (i1 : Int).toNat * 8) = some (.int .i64 n4) ∧
(0 ≤ i1 ∧
i1 < (a1.len : Int)) ∧
∃ (n5 : Int), rdVar h none a1.b ((a1.o + (i1 : Int).toNat * 8) + 1) = some (.int .i64 n5) ∧
(0 ≤ i1 ∧
i1 < (a1.len : Int)) ∧
∃ (x1 : List UInt8) (x2 : Int) (x3 : Int), rdVar h (some 3) a1.b ((a1.o + (i1 : Int).toNat * 8) + 2) = some (.agg [(.str x1), (.int .i64 x2), (.int .i64 x3)]) ∧
(0 ≤ i1 ∧
i1 < (a1.len : Int)) ∧
∃ (n6 : Int), rdVar h none a1.b ((a1.o + (i1 : Int).toNat * 8) + 5) = some (.int .i64 n6) ∧
(0 ≤ i1 ∧
i1 < (a1.len : Int)) ∧
∃ (n7 : Int), rdVar h none a1.b ((a1.o + (i1 : Int).toNat * 8) + 6) = some (.int .i64 n7) ∧
(0 ≤ i1 ∧
i1 < (a1.len : Int)) ∧
∃ (n8 : Int), rdVar h none a1.b ((a1.o + (i1 : Int).toNat * 8) + 7) = some (.int .i64 n8) ∧
(0 ≤ i1 ∧
i1 < (b1.len : Int)) ∧
∃ (x4 : Int) (x5 : Int) (x6 : List UInt8) (x7 : Int) (x8 : Int) (x9 : Int) (x10 : Int) (x11 : Int), rdVar h (some 8) b1.b (b1.o + (i1 : Int).toNat * 8) = some (.agg [(.int .i64 x4), (.int .i64 x5), (.str x6), (.int .i64 x7), (.int .i64 x8), (.int .i64 x9), (.int .i64 x10), (.int .i64 x11)]) ∧
((((n4 == x4) && ((n5 == x5) && ((x1 == x6) && ((x2 == x7) && ((x3 == x8) && ((n6 == x9) && ((n7 == x10) && ((n8 == x11) && true)))))))) != true) = true → P (.bool false) (t1 ++ [AObj.arr [(.int .i64 n4), (.int .i64 n5), (.str x1), (.int .i64 x2), (.int .i64 x3), (.int .i64 n6), (.int .i64 n7), (.int .i64 n8)] 8 false])) ∧
((((n4 == x4) && ((n5 == x5) && ((x1 == x6) && ((x2 == x7) && ((x3 == x8) && ((n6 == x9) && ((n7 == x10) && ((n8 == x11) && true)))))))) != true) = false → ∃ n3, n3 < n2 ∧
I1 n3 (IntKind.wrap .i64 (i1 + 1)) (t1 ++ [AObj.arr [(.int .i64 n4), (.int .i64 n5), (.str x1), (.int .i64 x2), (.int .i64 x3), (.int .i64 n6), (.int .i64 n7), (.int .i64 n8)] 8 false]))) ∧
((decide (i1 < ((a1.len : Nat) : Int))) = false → P (.bool true) t1))
theorem d26 {M : Model} {a1 : Slc} {b1 : Slc} {h : Heap} {P : AV → Heap → Prop} (hF : M.fn 26 = some F26) (hd : D26 M a1 b1 h P) : CallE M 26 [a1.av, b1.av] h P :=
  callE_of_wp (hi := (rs 6 (.condS (.op ⟨.raw, 0, true, 0⟩ .nil) (.op ⟨.raw, 0, true, 0⟩ (.loop ⟨1, [], [(5, (.int .i64))]⟩ (rs 4 (.condS (rs 4 (.op ⟨(.int .i64), 1, true, 0⟩ (rs 4 (.op ⟨(.int .i64), 1, true, 0⟩ (rs 4 (.op ⟨(.agg [.str, (.int .i64), (.int .i64)]), 1, true, 0⟩ (rs 4 (.op ⟨(.int .i64), 1, true, 0⟩ (rs 4 (.op ⟨(.int .i64), 1, true, 0⟩ (rs 4 (.op ⟨(.int .i64), 1, true, 0⟩ (rs 7 (.op ⟨(.agg [(.int .i64), (.int .i64), .str, (.int .i64), (.int .i64), (.int .i64), (.int .i64), (.int .i64)]), 1, true, 0⟩ (.op ⟨.raw, 0, true, 0⟩ (.condS (.op ⟨.raw, 0, true, 0⟩ .nil) (rs 3 .nil))))))))))))))))) (.op ⟨.raw, 0, true, 0⟩ .nil)))))))) (args := [(.slc a1), (.slc b1)]) hF (by simp [oks, SV.ok]) (Eq.mp (α := D26 M a1 b1 h P) (by kernel_rfl) hd)
def D27 (M : Model) (a1 : Slc) (b1 : Slc) (h : Heap) (P : AV → Heap → Prop) : Prop :=
((((a1.len : Nat) : Int) != ((b1.len : Nat) : Int)) = true → P (.bool false) ([] : Heap)) ∧
((((a1.len : Nat) : Int) != ((b1.len : Nat) : Int)) = false → ∃ (I1 : Nat → Int → Heap → Prop), (∃ n1, I1 n1 (0 : Int) ([] : Heap)) ∧
∀ (n2 : Nat) (i1 : Int) (t1 : Heap), I1 n2 i1 t1 → ((decide (i1 < ((a1.len : Nat) : Int))) = true → (0 ≤ i1 ∧
i1 < (a1.len : Int)) ∧
∃ (n4 : Int), rdVar h none a1.b (a1.o + (i1 : Int).toNat * 1) = some (.int .i64 n4) ∧
(0 ≤ i1 ∧
i1 < (b1.len : Int)) ∧
∃ (n5 : Int), rdVar h none b1.b (b1.o + (i1 : Int).toNat * 1) = some (.int .i64 n5) ∧
((n4 != n5) = true → P (.bool false) t1) ∧
((n4 != n5) = false → ∃ n3, n3 < n2 ∧
I1 n3 (IntKind.wrap .i64 (i1 + 1)) t1)) ∧
((decide (i1 < ((a1.len : Nat) : Int))) = false → P (.bool true) t1))
theorem d27 {M : Model} {a1 : Slc} {b1 : Slc} {h : Heap} {P : AV → Heap → Prop} (hF : M.fn 27 = some F27) (hd : D27 M a1 b1 h P) : CallE M 27 [a1.av, b1.av] h P :=
  callE_of_wp (hi := (rs 6 (.condS (.op ⟨.raw, 0, true, 0⟩ .nil) (.op ⟨.raw, 0, true, 0⟩ (.loop ⟨1, [], [(5, (.int .i64))]⟩ (rs 4 (.condS (rs 3 (.op ⟨(.int .i64), 1, true, 0⟩ (rs 3 (.op ⟨(.int .i64), 1, true, 0⟩ (.op ⟨.raw, 0, true, 0⟩ (.condS (.op ⟨.raw, 0, true, 0⟩ .nil) (rs 3 .nil))))))) (.op ⟨.raw, 0, true, 0⟩ .nil)))))))) (args := [(.slc a1), (.slc b1)]) hF (by simp [oks, SV.ok]) (Eq.mp (α := D27 M a1 b1 h P) (by kernel_rfl) hd)
def D28 (M : Model) (a1 : Slc) (b1 : Slc) (h : Heap) (P : AV → Heap → Prop) : Prop :=
((((a1.len : Nat) : Int) != ((b1.len : Nat) : Int)) = true → P (.bool false) ([] : Heap)) ∧
((((a1.len : Nat) : Int) != ((b1.len : Nat) : Int)) = false → ∃ (I1 : Nat → Int → Heap → Prop), (∃ n1, I1 n1 (0 : Int) ([] : Heap)) ∧
∀ (n2 : Nat) (i1 : Int) (t1 : Heap), I1 n2 i1 t1 → ((decide (i1 < ((a1.len : Nat) : Int))) = true → (0 ≤ i1 ∧
i1 < (a1.len : Int)) ∧
∃ (x1 : Int) (x2 : Int) (x3 : Bool) (x4 : List UInt8) (x5 : Int) (x6 : Int) (x7 : Int), rdVar h (some 7) a1.b (a1.o + (i1 : Int).toNat * 7) = some (.agg [(.int .i64 x1), (.int .i64 x2), (.bool x3), (.str x4), (.int .i64 x5), (.int .i64 x6), (.int .i64 x7)]) ∧
(0 ≤ i1 ∧
i1 < (b1.len : Int)) ∧
∃ (x8 : Int) (x9 : Int) (x10 : Bool) (x11 : List UInt8) (x12 : Int) (x13 : Int) (x14 : Int), rdVar h (some 7) b1.b (b1.o + (i1 : Int).toNat * 7) = some (.agg [(.int .i64 x8), (.int .i64 x9), (.bool x10), (.str x11), (.int .i64 x12), (.int .i64 x13), (.int .i64 x14)]) ∧
((((x1 == x8) && ((x2 == x9) && ((x3 == x10) && ((x4 == x11) && ((x5 == x12) && ((x6 == x13) && ((x7 == x14) && true))))))) != true) = true → P (.bool false) t1) ∧
((((x1 == x8) && ((x2 == x9) && ((x3 == x10) && ((x4 == x11) && ((x5 == x12) && ((x6 == x13) && ((x7 == x14) && true))))))) != true) = false → ∃ n3, n3 < n2 ∧
I1 n3 (IntKind.wrap .i64 (i1 + 1)) t1)) ∧
((decide (i1 < ((a1.len : Nat) : Int))) = false → P (.bool true) t1))
theorem d28 {M : Model} {a1 : Slc} {b1 : Slc} {h : Heap} {P : AV → Heap → Prop} (hF : M.fn 28 = some F28) (hd : D28 M a1 b1 h P) : CallE M 28 [a1.av, b1.av] h P :=
  callE_of_wp (hi := (rs 6 (.condS (.op ⟨.raw, 0, true, 0⟩ .nil) (.op ⟨.raw, 0, true, 0⟩ (.loop ⟨1, [], [(5, (.int .i64))]⟩ (rs 4 (.condS (rs 3 (.op ⟨(.agg [(.int .i64), (.int .i64), .bool, .str, (.int .i64), (.int .i64), (.int .i64)]), 1, true, 0⟩ (rs 3 (.op ⟨(.agg [(.int .i64), (.int .i64), .bool, .str, (.int .i64), (.int .i64), (.int .i64)]), 1, true, 0⟩ (.op ⟨.raw, 0, true, 0⟩ (.condS (.op ⟨.raw, 0, true, 0⟩ .nil) (rs 3 .nil))))))) (.op ⟨.raw, 0, true, 0⟩ .nil)))))))) (args := [(.slc a1), (.slc b1)]) hF (by simp [oks, SV.ok]) (Eq.mp (α := D28 M a1 b1 h P) (by kernel_rfl) hd)
def D37 (M : Model) (h_1 : Slc) (h : Heap) (P : AV → Heap → Prop) : Prop :=
CallE M 16 [h_1.av] h fun rv1 t1 =>
∃ (b1 : Bool), rv1 = (.bool b1) ∧
((!b1) = true → P (.tuple [(.str []), (.int .i64 1)]) t1) ∧
((!b1) = false →
CallE M 54 [h_1.av] (h ++ t1) fun rv2 t2 =>
∃ (w1 : List UInt8), rv2 = (.str w1) ∧
P (.tuple [(.str w1), (.int .i64 0)]) (t1 ++ t2))
theorem d37 {M : Model} {h_1 : Slc} {h : Heap} {P : AV → Heap → Prop} (hF : M.fn 37 = some F37) (hd : D37 M h_1 h P) : CallE M 37 [h_1.av] h P :=
  callE_of_wp (hi := (rs 3 (.op ⟨.bool, 0, true, 0⟩ (.op ⟨.raw, 0, true, 0⟩ (.condS (rs 2 .nil) (.op ⟨.raw, 0, true, 0⟩ (.op ⟨.str, 0, true, 0⟩ (rs 2 .nil)))))))) (args := [(.slc h_1)]) hF (by simp [oks, SV.ok]) (Eq.mp (α := D37 M h_1 h P) (by kernel_rfl) hd)
def D41 (M : Model)  (h : Heap) (P : AV → Heap → Prop) : Prop :=
P (.slice (h.length + 1) 0 2) (AObj.arr [(.str [112, 117, 115, 104]), (.int .i64 7), (.int .i64 0)] 3 false :: [AObj.arr [(.int .i64 0), (.int .i64 0), (.bool false), (.str [112, 117, 115, 104]), (.int .i64 7), (.int .i64 0), (.int .i64 0), (.int .i64 0), (.int .i64 0), (.bool true), (.str [112, 117, 115, 104]), (.int .i64 7), (.int .i64 0), (.int .i64 0)] 7 false])
theorem d41 {M : Model}  {h : Heap} {P : AV → Heap → Prop} (hF : M.fn 41 = some F41) (hd : D41 M  h P) : CallE M 41 [] h P :=
  callE_of_wp (hi := (rs 10 .nil)) (args := []) hF (by simp [oks, SV.ok]) (Eq.mp (α := D41 M  h P) (by kernel_rfl) hd)
def D42 (M : Model) (h_1 : Slc) (h : Heap) (P : AV → Heap → Prop) : Prop :=
CallE M 62 [(.slice (h.length + 1) 0 1), (.int .i64 4)] (h ++ (AObj.arr [(.int .i64 0), (.int .i64 0), (.int .i64 0), (.int .i64 0)] 1 false :: [AObj.arr [(.int .i64 (-1))] 1 false])) fun rv1 t1 =>
∃ (l1 : Slc), rv1 = l1.av ∧
∃ (I1 : Nat → Slc → Int → (List AV) → Heap → Prop), (∃ n1, I1 n1 (Slc.mk 0 0 0 true) (0 : Int) [(.int .i64 0), (.int .i64 0), (.int .i64 0), (.int .i64 0)] t1) ∧
∀ (n2 : Nat) (l2 : Slc) (x1 : Int) (c1 : List AV) (t2 : Heap), I1 n2 l2 x1 c1 t2 → ((decide (x1 < ((h_1.len : Nat) : Int))) = true → (0 ≤ x1 ∧
x1 < (h_1.len : Int)) ∧
∃ (x2 : Int) (x3 : Int) (x4 : Bool) (x5 : List UInt8) (x6 : Int) (x7 : Int) (x8 : Int), rdVar h (some 7) h_1.b (h_1.o + (x1 : Int).toNat * 7) = some (.agg [(.int .i64 x2), (.int .i64 x3), (.bool x4), (.str x5), (.int .i64 x6), (.int .i64 x7), (.int .i64 x8)]) ∧
((decide (x2 < 0)) = false → ((decide (x2 ≥ 4)) = false →
CallE M 63 [(.str x5)] (h ++ (AObj.arr c1 1 false :: (AObj.arr [(.int .i64 (-1))] 1 false :: (t2 ++ [AObj.arr [(.int .i64 x2), (.int .i64 x3), (.bool x4), (.str x5), (.int .i64 x6), (.int .i64 x7), (.int .i64 x8)] 7 false])))) fun rv2 t3 =>
∃ (b1 : Bool), rv2 = (.bool b1) ∧
((!b1) = false →
CallE M 64 [(.int .i64 x6)] (h ++ (AObj.arr c1 1 false :: (AObj.arr [(.int .i64 (-1))] 1 false :: (t2 ++ (AObj.arr [(.int .i64 x2), (.int .i64 x3), (.bool x4), (.str x5), (.int .i64 x6), (.int .i64 x7), (.int .i64 x8)] 7 false :: t3))))) fun rv3 t4 =>
∃ (b2 : Bool), rv3 = (.bool b2) ∧
((!b2) = false →
CallE M 64 [(.int .i64 x7)] (h ++ (AObj.arr c1 1 false :: (AObj.arr [(.int .i64 (-1))] 1 false :: (t2 ++ (AObj.arr [(.int .i64 x2), (.int .i64 x3), (.bool x4), (.str x5), (.int .i64 x6), (.int .i64 x7), (.int .i64 x8)] 7 false :: (t3 ++ t4)))))) fun rv4 t5 =>
∃ (b3 : Bool), rv4 = (.bool b3) ∧
((!b3) = false →
CallE M 64 [(.int .i64 x8)] (h ++ (AObj.arr c1 1 false :: (AObj.arr [(.int .i64 (-1))] 1 false :: (t2 ++ (AObj.arr [(.int .i64 x2), (.int .i64 x3), (.bool x4), (.str x5), (.int .i64 x6), (.int .i64 x7), (.int .i64 x8)] 7 false :: (t3 ++ (t4 ++ t5))))))) fun rv5 t6 =>
∃ (b4 : Bool), rv5 = (.bool b4) ∧
((!b4) = true → P (.tuple [.nilslice, (.bool false)]) (AObj.arr c1 1 false :: (AObj.arr [(.int .i64 (-1))] 1 false :: (t2 ++ (AObj.arr [(.int .i64 x2), (.int .i64 x3), (.bool x4), (.str x5), (.int .i64 x6), (.int .i64 x7), (.int .i64 x8)] 7 false :: (t3 ++ (t4 ++ (t5 ++ t6)))))))) ∧
((!b4) = false → (0 ≤ x2 ∧
x2 < (l1.len : Int)) ∧
∃ (n4 : Int), rdVar (h ++ (AObj.arr c1 1 false :: (AObj.arr [(.int .i64 (-1))] 1 false :: (t2 ++ (AObj.arr [(.int .i64 x2), (.int .i64 x3), (.bool x4), (.str x5), (.int .i64 x6), (.int .i64 x7), (.int .i64 x8)] 7 false :: (t3 ++ (t4 ++ (t5 ++ t6)))))))) none l1.b (l1.o + (x2 : Int).toNat * 1) = some (.int .i64 n4) ∧
(x4 = true → ((decide (n4 < 0)) = false → (0 ≤ n4 ∧
n4 < (l2.len : Int)) ∧
∃ (x9 : List UInt8) (x10 : Int) (x11 : Int), rdVar (h ++ (AObj.arr c1 1 false :: (AObj.arr [(.int .i64 (-1))] 1 false :: t2))) (some 3) l2.b ((l2.o + (n4 : Int).toNat * 8) + 2) = some (.agg [(.str x9), (.int .i64 x10), (.int .i64 x11)]) ∧
((((x9 == x5) && ((x10 == x6) && ((x11 == x7) && true))) != true) = false → (0 ≤ n4 ∧
n4 < (l2.len : Int)) ∧
∃ (n5 : Int), rdVar (h ++ (AObj.arr c1 1 false :: (AObj.arr [(.int .i64 (-1))] 1 false :: t2))) none l2.b ((l2.o + (n4 : Int).toNat * 8) + 1) = some (.int .i64 n5) ∧
((n5 != x3) = true → P (.tuple [.nilslice, (.bool false)]) (AObj.arr c1 1 false :: (AObj.arr [(.int .i64 (-1))] 1 false :: (t2 ++ (AObj.arr [(.int .i64 x2), (.int .i64 x3), (.bool x4), (.str x5), (.int .i64 x6), (.int .i64 x7), (.int .i64 x8)] 7 false :: (t3 ++ (t4 ++ (t5 ++ t6)))))))) ∧
((n5 != x3) = false → ((l2).nil = false ∧
(l2).b ≠ (h.length + (1 + (1 + t2.length)))) ∧
(0 ≤ n4 ∧
n4 < (l2.len : Int)) ∧
∃ (k1 : Nat) (g1 : Heap), l2.b = (h.length + (1 + 1)) + k1 ∧
wrCells t2 k1 ((l2.o + (n4 : Int).toNat * 8) + 6) [(.int .i64 x1)] = some g1 ∧
(0 ≤ n4 ∧
n4 < (l2.len : Int)) ∧
∃ (k2 : Nat) (g2 : Heap), l2.b = (h.length + (1 + 1)) + k2 ∧
wrCells g1 k2 ((l2.o + (n4 : Int).toNat * 8) + 7) [(.int .i64 x8)] = some g2 ∧
(0 ≤ x2 ∧
x2 < (l1.len : Int)) ∧
∃ (k3 : Nat) (g3 : Heap), l1.b = (h.length + (1 + 1)) + k3 ∧
wrCells g2 k3 (l1.o + (x2 : Int).toNat * 1) [(.int .i64 (-1))] = some g3 ∧
∃ n3, n3 < n2 ∧
I1 n3 l2 (IntKind.wrap .i64 (x1 + 1)) c1 (g3 ++ (AObj.arr [(.int .i64 x2), (.int .i64 x3), (.bool x4), (.str x5), (.int .i64 x6), (.int .i64 x7), (.int .i64 x8)] 7 false :: (t3 ++ (t4 ++ (t5 ++ t6))))))) ∧
((((x9 == x5) && ((x10 == x6) && ((x11 == x7) && true))) != true) = true → P (.tuple [.nilslice, (.bool false)]) (AObj.arr c1 1 false :: (AObj.arr [(.int .i64 (-1))] 1 false :: (t2 ++ (AObj.arr [(.int .i64 x2), (.int .i64 x3), (.bool x4), (.str x5), (.int .i64 x6), (.int .i64 x7), (.int .i64 x8)] 7 false :: (t3 ++ (t4 ++ (t5 ++ t6))))))))) ∧
((decide (n4 < 0)) = true → P (.tuple [.nilslice, (.bool false)]) (AObj.arr c1 1 false :: (AObj.arr [(.int .i64 (-1))] 1 false :: (t2 ++ (AObj.arr [(.int .i64 x2), (.int .i64 x3), (.bool x4), (.str x5), (.int .i64 x6), (.int .i64 x7), (.int .i64 x8)] 7 false :: (t3 ++ (t4 ++ (t5 ++ t6))))))))) ∧
(x4 = false → ((decide (n4 ≥ 0)) = false → (0 ≤ x2 ∧
x2 < ((4 : Nat) : Int)) ∧
∃ (n6 : Int), partOf none c1 (0 + (x2 : Int).toNat * 1) = some (.int .i64 n6) ∧
((x3 != n6) = false → ((x8 != 0) = false → ((((l2.len : Nat) : Int) == 12) = true → P (.tuple [.nilslice, (.bool false)]) (AObj.arr c1 1 false :: (AObj.arr [(.int .i64 (-1))] 1 false :: (t2 ++ (AObj.arr [(.int .i64 x2), (.int .i64 x3), (.bool x4), (.str x5), (.int .i64 x6), (.int .i64 x7), (.int .i64 x8)] 7 false :: (t3 ++ (t4 ++ (t5 ++ t6)))))))) ∧
((((l2.len : Nat) : Int) == 12) = false → (0 ≤ x2 ∧
x2 < ((4 : Nat) : Int)) ∧
∃ (n7 : Int), partOf none c1 (0 + (x2 : Int).toNat * 1) = some (.int .i64 n7) ∧
(0 ≤ x2 ∧
x2 < ((4 : Nat) : Int)) ∧
(0 + (x2 : Int).toNat * 1) + 1 ≤ List.length (α := AV) c1 ∧
(0 ≤ x2 ∧
x2 < (l1.len : Int)) ∧
∃ (k4 : Nat) (g4 : Heap), l1.b = (h.length + (1 + 1)) + k4 ∧
wrCells t2 k4 (l1.o + (x2 : Int).toNat * 1) [(.int .i64 ((l2.len : Nat) : Int))] = some g4 ∧
∃ (old1 : List AV) (g5 : Heap), ((l2.nil = true ∧
old1 = [] ∧
g5 = g4) ∨ (l2.nil = false ∧
∃ (k5 : Nat) (c2 : List AV), l2.b = (h.length + (1 + 1)) + k5 ∧
(g4)[k5]? = some (.arr c2 8 false) ∧
l2.o + l2.n * 8 ≤ c2.length ∧
old1 = (c2.drop l2.o).take (l2.n * 8) ∧
g5 = g4.set k5 .dead)) ∧
(l2.len + 1) * 72 ≤ 140737488355328 ∧
∃ n3, n3 < n2 ∧
I1 n3 (Slc.mk (h.length + (1 + (1 + (g5.length + (1 + (t3.length + (t4.length + (t5.length + (t6.length + 1))))))))) 0 (l2.len + 1) false) (IntKind.wrap .i64 (x1 + 1)) (setCells c1 (0 + (x2 : Int).toNat * 1) [(.int .i64 (IntKind.wrap .i64 (n7 + 1)))]) (g5 ++ (AObj.arr [(.int .i64 x2), (.int .i64 x3), (.bool x4), (.str x5), (.int .i64 x6), (.int .i64 x7), (.int .i64 x8)] 7 false :: (t3 ++ (t4 ++ (t5 ++ (t6 ++ (AObj.arr [(.int .i64 x2), (.int .i64 x3), (.str x5), (.int .i64 x6), (.int .i64 x7), (.int .i64 x1), (.int .i64 (-1)), (.int .i64 0)] 8 false :: [AObj.arr (old1 ++ [(.int .i64 x2), (.int .i64 x3), (.str x5), (.int .i64 x6), (.int .i64 x7), (.int .i64 x1), (.int .i64 (-1)), (.int .i64 0)]) 8 false]))))))))) ∧
((x8 != 0) = true → P (.tuple [.nilslice, (.bool false)]) (AObj.arr c1 1 false :: (AObj.arr [(.int .i64 (-1))] 1 false :: (t2 ++ (AObj.arr [(.int .i64 x2), (.int .i64 x3), (.bool x4), (.str x5), (.int .i64 x6), (.int .i64 x7), (.int .i64 x8)] 7 false :: (t3 ++ (t4 ++ (t5 ++ t6))))))))) ∧
((x3 != n6) = true → P (.tuple [.nilslice, (.bool false)]) (AObj.arr c1 1 false :: (AObj.arr [(.int .i64 (-1))] 1 false :: (t2 ++ (AObj.arr [(.int .i64 x2), (.int .i64 x3), (.bool x4), (.str x5), (.int .i64 x6), (.int .i64 x7), (.int .i64 x8)] 7 false :: (t3 ++ (t4 ++ (t5 ++ t6))))))))) ∧
((decide (n4 ≥ 0)) = true → P (.tuple [.nilslice, (.bool false)]) (AObj.arr c1 1 false :: (AObj.arr [(.int .i64 (-1))] 1 false :: (t2 ++ (AObj.arr [(.int .i64 x2), (.int .i64 x3), (.bool x4), (.str x5), (.int .i64 x6), (.int .i64 x7), (.int .i64 x8)] 7 false :: (t3 ++ (t4 ++ (t5 ++ t6))))))))))) ∧
((!b3) = true → P (.tuple [.nilslice, (.bool false)]) (AObj.arr c1 1 false :: (AObj.arr [(.int .i64 (-1))] 1 false :: (t2 ++ (AObj.arr [(.int .i64 x2), (.int .i64 x3), (.bool x4), (.str x5), (.int .i64 x6), (.int .i64 x7), (.int .i64 x8)] 7 false :: (t3 ++ (t4 ++ t5)))))))) ∧
((!b2) = true → P (.tuple [.nilslice, (.bool false)]) (AObj.arr c1 1 false :: (AObj.arr [(.int .i64 (-1))] 1 false :: (t2 ++ (AObj.arr [(.int .i64 x2), (.int .i64 x3), (.bool x4), (.str x5), (.int .i64 x6), (.int .i64 x7), (.int .i64 x8)] 7 false :: (t3 ++ t4))))))) ∧
((!b1) = true → P (.tuple [.nilslice, (.bool false)]) (AObj.arr c1 1 false :: (AObj.arr [(.int .i64 (-1))] 1 false :: (t2 ++ (AObj.arr [(.int .i64 x2), (.int .i64 x3), (.bool x4), (.str x5), (.int .i64 x6), (.int .i64 x7), (.int .i64 x8)] 7 false :: t3)))))) ∧
((decide (x2 ≥ 4)) = true → P (.tuple [.nilslice, (.bool false)]) (AObj.arr c1 1 false :: (AObj.arr [(.int .i64 (-1))] 1 false :: (t2 ++ [AObj.arr [(.int .i64 x2), (.int .i64 x3), (.bool x4), (.str x5), (.int .i64 x6), (.int .i64 x7), (.int .i64 x8)] 7 false]))))) ∧
((decide (x2 < 0)) = true → P (.tuple [.nilslice, (.bool false)]) (AObj.arr c1 1 false :: (AObj.arr [(.int .i64 (-1))] 1 false :: (t2 ++ [AObj.arr [(.int .i64 x2), (.int .i64 x3), (.bool x4), (.str x5), (.int .i64 x6), (.int .i64 x7), (.int .i64 x8)] 7 false]))))) ∧
((decide (x1 < ((h_1.len : Nat) : Int))) = false → P (.tuple [l2.av, (.bool true)]) (AObj.arr c1 1 false :: (AObj.arr [(.int .i64 (-1))] 1 false :: t2)))
set_option maxHeartbeats 2000000 in
theorem d42 {M : Model} {h_1 : Slc} {h : Heap} {P : AV → Heap → Prop} (hF : M.fn 42 = some F42) (hd : D42 M h_1 h P) : CallE M 42 [h_1.av] h P :=
  callE_of_wpT (a0 := 4) (r0 := 8) (ds := [88]) (hi := (rs 5 (.op ⟨.slc, 0, true, 0⟩ (rs 4 (.loop ⟨3, [(1, .cells, 1)], [(4, .slc), (14, (.int .i64))]⟩ (.op ⟨.raw, 0, true, 0⟩ (.condS (rs 2 (.op ⟨(.agg [(.int .i64), (.int .i64), .bool, .str, (.int .i64), (.int .i64), (.int .i64)]), 1, true, 0⟩ (rs 7 (.split ⟨.raw, 0, true, 0⟩ (rs 4 (.split ⟨.raw, 0, true, 0⟩ (rs 2 (.op ⟨.bool, 0, true, 0⟩ (rs 3 (.split ⟨.raw, 0, true, 0⟩ (rs 2 (.op ⟨.bool, 0, true, 0⟩ (rs 3 (.split ⟨.raw, 0, true, 0⟩ (rs 2 (.op ⟨.bool, 0, true, 0⟩ (rs 3 (.split ⟨.raw, 0, true, 0⟩ (.op ⟨.raw, 0, true, 0⟩ (.op ⟨.bool, 0, true, 0⟩ (rs 2 (.condS (rs 2 .nil) (rs 4 (.op ⟨(.int .i64), 9, true, 0⟩ (rs 3 (.condS (rs 3 (.split ⟨.raw, 0, true, 0⟩ (rs 3 (.op ⟨(.agg [.str, (.int .i64), (.int .i64)]), 4, true, 0⟩ (rs 5 (.split ⟨.raw, 0, true, 0⟩ (rs 3 (.op ⟨(.int .i64), 4, true, 0⟩ (rs 4 (.condS (rs 2 .nil) (rs 10 (.op ⟨.raw, 3, true, 0⟩ (rs 2 (.op ⟨.raw, 3, true, 0⟩ (rs 4 (.op ⟨.raw, 3, true, 0⟩ (rs 2 .nil))))))))))) (rs 8 (.condL (rs 2 .nil))))))) (rs 18 (.condL (rs 2 .nil))))) (rs 3 (.split ⟨.raw, 0, true, 0⟩ (rs 3 (.op ⟨.raw, 0, true, 1⟩ (.op ⟨(.int .i64), 0, true, 0⟩ (rs 3 (.split ⟨.raw, 0, true, 0⟩ (rs 4 (.split ⟨.raw, 0, true, 0⟩ (rs 3 (.condS (rs 2 .nil) (rs 2 (.op ⟨.raw, 0, true, 1⟩ (.op ⟨(.int .i64), 0, true, 0⟩ (.op ⟨.raw, 0, true, 0⟩ (.op ⟨.raw, 0, true, 1⟩ (rs 7 (.op ⟨.raw, 3, true, 0⟩ (rs 10 (.op ⟨.raw, 3, true, 0⟩ (rs 3 .nil)))))))))))) (rs 3 (.condL (rs 2 .nil))))) (rs 8 (.condL (rs 2 .nil)))))))) (rs 17 (.condL (rs 2 .nil))))))))))))) (rs 4 (.condL (rs 2 .nil))))))) (rs 11 (.condL (rs 2 .nil))))))) (rs 18 (.condL (rs 2 .nil))))))) (rs 25 (.condL (rs 2 .nil))))) (rs 30 (.condL (rs 2 .nil))))))) (rs 3 .nil)))))))) (args := [(.slc h_1)]) hF (by simp [oks, SV.ok]) (Eq.mp (α := D42 M h_1 h P) (by kernel_rfl) hd)
def D45 (M : Model) (n1 : Int) (h : Heap) (P : AV → Heap → Prop) : Prop :=
((decide (n1 ≥ (-1000000000000000))) = true → P (.bool (decide (n1 ≤ 1000000000000000))) ([] : Heap)) ∧
((decide (n1 ≥ (-1000000000000000))) = false → P (.bool false) ([] : Heap))
theorem d45 {M : Model} {n1 : Int} {h : Heap} {P : AV → Heap → Prop} (hF : M.fn 45 = some F45) (hd : D45 M n1 h P) : CallE M 45 [(.int .i64 n1)] h P :=
  callE_of_wp (hi := (rs 4 (.split ⟨.raw, 0, true, 0⟩ (rs 3 .nil) (rs 3 .nil)))) (args := [(.av (.int .i64 n1))]) hF (by simp [oks, SV.ok]) (Eq.mp (α := D45 M n1 h P) (by kernel_rfl) hd)
def D46 (M : Model) (s_1 : List UInt8) (h : Heap) (P : AV → Heap → Prop) : Prop :=
∃ (I1 : Nat → Int → Heap → Prop), (∃ n1, I1 n1 (0 : Int) ([] : Heap)) ∧
∀ (n2 : Nat) (i1 : Int) (t1 : Heap), I1 n2 i1 t1 → ((decide (i1 < ((s_1.length : Nat) : Int))) = true → ∃ (c1 : UInt8), (0 ≤ i1 ∧
s_1[(i1 : Int).toNat]? = some c1) ∧
((decide (((UInt8.toNat c1 : Nat) : Int) < 97)) = false → ∃ (c2 : UInt8), (0 ≤ i1 ∧
s_1[(i1 : Int).toNat]? = some c2) ∧
((decide (((UInt8.toNat c2 : Nat) : Int) > 122)) = true → P (.bool false) t1) ∧
((decide (((UInt8.toNat c2 : Nat) : Int) > 122)) = false → ∃ n3, n3 < n2 ∧
I1 n3 (IntKind.wrap .i64 (i1 + 1)) t1)) ∧
((decide (((UInt8.toNat c1 : Nat) : Int) < 97)) = true → P (.bool false) t1)) ∧
((decide (i1 < ((s_1.length : Nat) : Int))) = false → ((decide (((s_1.length : Nat) : Int) ≥ 1)) = true → P (.bool (decide (((s_1.length : Nat) : Int) ≤ 8))) t1) ∧
((decide (((s_1.length : Nat) : Int) ≥ 1)) = false → P (.bool false) t1))
theorem d46 {M : Model} {s_1 : List UInt8} {h : Heap} {P : AV → Heap → Prop} (hF : M.fn 46 = some F46) (hd : D46 M s_1 h P) : CallE M 46 [(.str s_1)] h P :=
  callE_of_wp (hi := (rs 2 (.loop ⟨1, [], [(3, (.int .i64))]⟩ (rs 4 (.condS (rs 2 (.op ⟨.raw, 0, true, 1⟩ (rs 2 (.split ⟨.raw, 0, true, 0⟩ (.op ⟨.raw, 0, true, 0⟩ (.op ⟨.raw, 0, true, 1⟩ (rs 2 (.condS (.op ⟨.raw, 0, true, 0⟩ .nil) (rs 3 .nil))))) (rs 4 (.condL (.op ⟨.raw, 0, true, 0⟩ .nil))))))) (rs 4 (.split ⟨.raw, 0, true, 0⟩ (rs 4 .nil) (rs 4 .nil)))))))) (args := [(.av (.str s_1))]) hF (by simp [oks, SV.ok]) (Eq.mp (α := D46 M s_1 h P) (by kernel_rfl) hd)
def D63 (M : Model) (s : Nat → List UInt8) (s_1 : List UInt8) (h : Heap) (P : AV → Heap → Prop) : Prop :=
((decide (((s_1.length : Nat) : Int) ≥ 1)) = true → ((decide (((s_1.length : Nat) : Int) ≤ 8)) = true →
CallE M 80 [(.str s_1), (.str (s 0))] h fun rv1 t1 =>
∃ (w1 : List UInt8), rv1 = (.str w1) ∧
P (.bool (w1 == [])) t1) ∧
((decide (((s_1.length : Nat) : Int) ≤ 8)) = false → P (.bool false) ([] : Heap))) ∧
((decide (((s_1.length : Nat) : Int) ≥ 1)) = false → P (.bool false) ([] : Heap))
theorem d63 {M : Model} {s : Nat → List UInt8} {s_1 : List UInt8} {h : Heap} {P : AV → Heap → Prop} (hF : M.fn 63 = some (F63 s)) (hd : D63 M s s_1 h P) : CallE M 63 [(.str s_1)] h P :=
  callE_of_wp (hi := (rs 5 (.split ⟨.raw, 0, true, 0⟩ (rs 4 (.split ⟨.raw, 0, true, 0⟩ (.op ⟨.str, 0, true, 0⟩ (rs 3 .nil)) (rs 4 .nil))) (rs 9 .nil)))) (args := [(.av (.str s_1))]) hF (by simp [oks, SV.ok]) (Eq.mp (α := D63 M s s_1 h P) (by kernel_rfl) hd)
def D64 (M : Model) (n1 : Int) (h : Heap) (P : AV → Heap → Prop) : Prop :=
((decide (n1 ≥ (-1000000000000000))) = true → P (.bool (decide (n1 ≤ 1000000000000000))) ([] : Heap)) ∧
((decide (n1 ≥ (-1000000000000000))) = false → P (.bool false) ([] : Heap))
theorem d64 {M : Model} {n1 : Int} {h : Heap} {P : AV → Heap → Prop} (hF : M.fn 64 = some F64) (hd : D64 M n1 h P) : CallE M 64 [(.int .i64 n1)] h P :=
  callE_of_wp (hi := (rs 4 (.split ⟨.raw, 0, true, 0⟩ (rs 3 .nil) (rs 3 .nil)))) (args := [(.av (.int .i64 n1))]) hF (by simp [oks, SV.ok]) (Eq.mp (α := D64 M n1 h P) (by kernel_rfl) hd)
end Go.Proofs.YtcjhjphmlfkikaaDoor.Mini

