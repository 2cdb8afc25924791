import Derived.Test.YtcjhjphmlfkikaaDoorHMini
import Derived.Test.YtcjhjphmlfkikaaDoorAbsG4
import Derived.Test.YtcjhjphmlfkikaaDoorAbsG13
import Derived.Test.YtcjhjphmlfkikaaDoorAbsG7
set_option linter.unusedVariables false
set_option linter.unusedSimpArgs false
set_option maxRecDepth 100000
namespace Go.Proofs.YtcjhjphmlfkikaaDoor.Mini
open Go.Abs Mini
def D4 (M : Model) (h_1 : Slc) (n1 : Int) (h : Heap) (P : AV → Heap → Prop) : Prop :=
CallE M 11 [h_1.av] h fun rv1 t1 =>
∃ (b1 : Bool), rv1 = (.bool b1) ∧
(b1 = false →
CallE M 16 [h_1.av] (h ++ t1) fun rv2 t2 =>
∃ (b2 : Bool), rv2 = (.bool b2) ∧
((!b2) = false → ((decide (n1 < 0)) = false → ((decide (n1 > ((h_1.len : Nat) : Int))) = true →
CallE M 12 [] (h ++ (t1 ++ t2)) fun rv3 t3 =>
∃ (b3 : Bool), rv3 = (.bool b3) ∧
P (.bool b3) (t1 ++ (t2 ++ t3))) ∧
((decide (n1 > ((h_1.len : Nat) : Int))) = false →
CallE M 17 [h_1.av] (h ++ (t1 ++ t2)) fun rv4 t4 =>
∃ (l1 : Slc), rv4 = l1.av ∧
(l1.nil = false → ∃ (c1 : List AV) (c1r : Bool), ((h ++ (t1 ++ (t2 ++ t4))))[l1.b]? = some (.arr c1 7 c1r)) ∧
(0 ≤ (0 : Int) ∧
(0 : Int) ≤ n1 ∧
n1 ≤ ((l1.len : Nat) : Int)) ∧
CallE M 15 [(Slc.mk l1.b (l1.o + Int.toNat (0 : Int) * 7) (Int.toNat n1 - Int.toNat (0 : Int)) l1.nil).av] (h ++ (t1 ++ (t2 ++ t4))) fun rv5 t5 =>
∃ (r1 : Slc) (r2 : Int), rv5 = (.tuple [r1.av, (.int .i64 r2)]) ∧
CallE M 16 [(Slc.mk l1.b (l1.o + Int.toNat (0 : Int) * 7) (Int.toNat n1 - Int.toNat (0 : Int)) l1.nil).av] (h ++ (t1 ++ (t2 ++ (t4 ++ t5)))) fun rv6 t6 =>
∃ (b4 : Bool), rv6 = (.bool b4) ∧
((!b4) = false → ((r2 != 0) = true → P (.bool false) (t1 ++ (t2 ++ (t4 ++ (t5 ++ t6))))) ∧
((r2 != 0) = false → ∃ (I1 : Nat → Int → Heap → Prop), (∃ n2, I1 n2 (0 : Int) ([] : Heap)) ∧
∀ (n3 : Nat) (a1 : Int) (t7 : Heap), I1 n3 a1 t7 → ((decide (a1 < ((r1.len : Nat) : Int))) = true → ∃ (I2 : Nat → Int → Heap → Prop), (∃ n5, I2 n5 (0 : Int) ([] : Heap)) ∧
∀ (n6 : Nat) (b5 : Int) (t8 : Heap), I2 n6 b5 t8 → ((decide (b5 < ((r1.len : Nat) : Int))) = true →
CallE M 13 [(Slc.mk l1.b (l1.o + Int.toNat (0 : Int) * 7) (Int.toNat n1 - Int.toNat (0 : Int)) l1.nil).av, (.int .i64 a1), (.int .i64 b5)] (h ++ (t1 ++ (t2 ++ (t4 ++ (t5 ++ (t6 ++ (t7 ++ t8))))))) fun rv7 t9 =>
∃ (r3 : Bool) (r4 : Int), rv7 = (.tuple [(.bool r3), (.int .i64 r4)]) ∧
CallE M 13 [h_1.av, (.int .i64 a1), (.int .i64 b5)] (h ++ (t1 ++ (t2 ++ (t4 ++ (t5 ++ (t6 ++ (t7 ++ (t8 ++ t9)))))))) fun rv8 t10 =>
∃ (r5 : Bool) (r6 : Int), rv8 = (.tuple [(.bool r5), (.int .i64 r6)]) ∧
(((r3 == r5) != true) = true → P (.bool false) (t1 ++ (t2 ++ (t4 ++ (t5 ++ (t6 ++ (t7 ++ (t8 ++ (t9 ++ t10))))))))) ∧
(((r3 == r5) != true) = false → ∃ n7, n7 < n6 ∧
I2 n7 (IntKind.wrap .i64 (b5 + 1)) (t8 ++ (t9 ++ t10)))) ∧
((decide (b5 < ((r1.len : Nat) : Int))) = false → ∃ n4, n4 < n3 ∧
I1 n4 (IntKind.wrap .i64 (a1 + 1)) (t7 ++ t8))) ∧
((decide (a1 < ((r1.len : Nat) : Int))) = false →
CallE M 12 [] (h ++ (t1 ++ (t2 ++ (t4 ++ (t5 ++ (t6 ++ t7)))))) fun rv9 t11 =>
∃ (b6 : Bool), rv9 = (.bool b6) ∧
P (.bool b6) (t1 ++ (t2 ++ (t4 ++ (t5 ++ (t6 ++ (t7 ++ t11))))))))) ∧
((!b4) = true → P (.bool false) (t1 ++ (t2 ++ (t4 ++ (t5 ++ t6))))))) ∧
((decide (n1 < 0)) = true →
CallE M 12 [] (h ++ (t1 ++ t2)) fun rv10 t12 =>
∃ (b7 : Bool), rv10 = (.bool b7) ∧
P (.bool b7) (t1 ++ (t2 ++ t12)))) ∧
((!b2) = true →
CallE M 12 [] (h ++ (t1 ++ t2)) fun rv11 t13 =>
∃ (b8 : Bool), rv11 = (.bool b8) ∧
P (.bool b8) (t1 ++ (t2 ++ t13)))) ∧
(b1 = true →
CallE M 12 [] (h ++ t1) fun rv12 t14 =>
∃ (b9 : Bool), rv12 = (.bool b9) ∧
P (.bool b9) (t1 ++ t14))
theorem d4 {M : Model} {h_1 : Slc} {n1 : Int} {h : Heap} {P : AV → Heap → Prop} (hF : M.fn 4 = some F4) (hd : D4 M h_1 n1 h P) : CallE M 4 [h_1.av, (.int .i64 n1)] h P :=
  callE_of_wp (hi := (rs 2 (.op ⟨.bool, 0, true, 0⟩ (.op ⟨.raw, 0, true, 0⟩ (.split ⟨.raw, 0, true, 0⟩ (.op ⟨.bool, 0, true, 0⟩ (rs 3 (.split ⟨.raw, 0, true, 0⟩ (rs 3 (.split ⟨.raw, 0, true, 0⟩ (rs 4 (.condS (.op ⟨.bool, 0, true, 0⟩ (.op ⟨.raw, 0, true, 0⟩ .nil)) (.op ⟨.raw, 0, true, 0⟩ (.op ⟨.slc, 0, true, 0⟩ (.op ⟨.raw, 0, true, 0⟩ (.op ⟨.raw, 4, true, 0⟩ (rs 2 (.op ⟨(.tup [.slc, (.int .i64)]), 0, true, 0⟩ (rs 6 (.op ⟨.bool, 0, true, 0⟩ (rs 2 (.split ⟨.raw, 0, true, 0⟩ (rs 2 (.condS (.op ⟨.raw, 0, true, 0⟩ .nil) (.op ⟨.raw, 0, true, 0⟩ (.loop ⟨6, [], [(8, (.int .i64))]⟩ (rs 4 (.condS (.op ⟨.raw, 0, true, 0⟩ (.loop ⟨7, [], [(9, (.int .i64))]⟩ (rs 4 (.condS (rs 3 (.op ⟨(.tup [.bool, (.int .i64)]), 0, true, 0⟩ (rs 8 (.op ⟨(.tup [.bool, (.int .i64)]), 0, true, 0⟩ (rs 8 (.condS (.op ⟨.raw, 0, true, 0⟩ .nil) (rs 3 .nil))))))) (rs 3 .nil))))) (.op ⟨.bool, 0, true, 0⟩ (.op ⟨.raw, 0, true, 0⟩ .nil)))))))) (rs 2 (.condL (.op ⟨.raw, 0, true, 0⟩ .nil))))))))))))))) (rs 4 (.condL (.op ⟨.bool, 0, true, 0⟩ (.op ⟨.raw, 0, true, 0⟩ .nil)))))) (rs 8 (.condL (.op ⟨.bool, 0, true, 0⟩ (.op ⟨.raw, 0, true, 0⟩ .nil))))))) (rs 13 (.condL (.op ⟨.bool, 0, true, 0⟩ (.op ⟨.raw, 0, true, 0⟩ .nil))))))))) (args := [(.slc h_1), (.av (.int .i64 n1))]) hF (by simp [oks, SV.ok]) (Eq.mp (α := D4 M h_1 n1 h P) (by kernel_rfl) hd)
def D11 (M : Model) (h_1 : Slc) (h : Heap) (P : AV → Heap → Prop) : Prop :=
((decide (((h_1.len : Nat) : Int) > 60)) = true → P (.bool true) ([] : Heap)) ∧
((decide (((h_1.len : Nat) : Int) > 60)) = false → ∃ (I1 : Nat → Int → Int → Heap → Prop), (∃ n1, I1 n1 (0 : Int) (0 : Int) ([] : Heap)) ∧
∀ (n3 : Nat) (n2 : Int) (i1 : Int) (t1 : Heap), I1 n3 n2 i1 t1 → ((decide (i1 < ((h_1.len : Nat) : Int))) = true → ((decide (n2 < 2000)) = true → (0 ≤ i1 ∧
i1 < (h_1.len : Int)) ∧
∃ (w1 : List UInt8), rdVar h none h_1.b ((h_1.o + (i1 : Int).toNat * 7) + 3) = some (.str w1) ∧
∃ n4, n4 < n3 ∧
I1 n4 (IntKind.wrap .i64 (n2 + ((w1.length : Nat) : Int))) (IntKind.wrap .i64 (i1 + 1)) t1) ∧
((decide (n2 < 2000)) = false → P (.bool (decide (n2 ≥ 2000))) t1)) ∧
((decide (i1 < ((h_1.len : Nat) : Int))) = false → P (.bool (decide (n2 ≥ 2000))) t1))
theorem d11 {M : Model} {h_1 : Slc} {h : Heap} {P : AV → Heap → Prop} (hF : M.fn 11 = some F11) (hd : D11 M h_1 h P) : CallE M 11 [h_1.av] h P :=
  callE_of_wp (hi := (rs 4 (.condS (.op ⟨.raw, 0, true, 0⟩ .nil) (rs 2 (.loop ⟨1, [], [(3, (.int .i64)), (4, (.int .i64))]⟩ (rs 5 (.split ⟨.raw, 0, true, 0⟩ (rs 2 (.condS (rs 6 (.op ⟨.str, 1, true, 0⟩ (rs 6 .nil))) (rs 3 .nil))) (rs 2 (.condL (rs 3 .nil)))))))))) (args := [(.slc h_1)]) hF (by simp [oks, SV.ok]) (Eq.mp (α := D11 M h_1 h P) (by kernel_rfl) hd)
def D12 (M : Model) (s : Nat → List UInt8)  (h : Heap) (P : AV → Heap → Prop) : Prop :=
CallE M 41 [] h fun rv1 t1 =>
∃ (l1 : Slc), rv1 = l1.av ∧
CallE M 21 [l1.av] (h ++ t1) fun rv2 t2 =>
∃ (r1 : Int) (r2 : Int), rv2 = (.tuple [(.int .i64 r1), (.int .i64 r2)]) ∧
CallE M 41 [] (h ++ (t1 ++ t2)) fun rv3 t3 =>
∃ (l2 : Slc), rv3 = l2.av ∧
CallE M 37 [l2.av] (h ++ (t1 ++ (t2 ++ t3))) fun rv4 t4 =>
∃ (r3 : List UInt8) (r4 : Int), rv4 = (.tuple [(.str r3), (.int .i64 r4)]) ∧
CallE M 41 [] (h ++ (t1 ++ (t2 ++ (t3 ++ t4)))) fun rv5 t5 =>
∃ (l3 : Slc), rv5 = l3.av ∧
CallE M 16 [l3.av] (h ++ (t1 ++ (t2 ++ (t3 ++ (t4 ++ t5))))) fun rv6 t6 =>
∃ (b1 : Bool), rv6 = (.bool b1) ∧
(b1 = true → ((r1 == 1) = true → ((r2 == 0) = true → ((r4 == 0) = true → P (.bool (r3 == (s 0))) (t1 ++ (t2 ++ (t3 ++ (t4 ++ (t5 ++ t6)))))) ∧
((r4 == 0) = false → P (.bool false) (t1 ++ (t2 ++ (t3 ++ (t4 ++ (t5 ++ t6))))))) ∧
((r2 == 0) = false → P (.bool false) (t1 ++ (t2 ++ (t3 ++ (t4 ++ (t5 ++ t6))))))) ∧
((r1 == 1) = false → P (.bool false) (t1 ++ (t2 ++ (t3 ++ (t4 ++ (t5 ++ t6))))))) ∧
(b1 = false → P (.bool false) (t1 ++ (t2 ++ (t3 ++ (t4 ++ (t5 ++ t6))))))
theorem d12 {M : Model} {s : Nat → List UInt8}  {h : Heap} {P : AV → Heap → Prop} (hF : M.fn 12 = some (F12 s)) (hd : D12 M s  h P) : CallE M 12 [] h P :=
  callE_of_wp (hi := (.op ⟨.raw, 0, true, 0⟩ (.op ⟨.slc, 0, true, 0⟩ (.op ⟨(.tup [(.int .i64), (.int .i64)]), 0, true, 0⟩ (rs 5 (.op ⟨.slc, 0, true, 0⟩ (.op ⟨(.tup [.str, (.int .i64)]), 0, true, 0⟩ (rs 5 (.op ⟨.slc, 0, true, 0⟩ (.op ⟨.bool, 0, true, 0⟩ (.op ⟨.raw, 0, true, 0⟩ (.split ⟨.raw, 0, true, 0⟩ (rs 3 (.split ⟨.raw, 0, true, 0⟩ (rs 3 (.split ⟨.raw, 0, true, 0⟩ (rs 3 (.split ⟨.raw, 0, true, 0⟩ (rs 3 .nil) (rs 3 .nil))) (rs 7 .nil))) (rs 11 .nil))) (rs 15 .nil))))))))))))) (args := []) hF (by simp [oks, SV.ok]) (Eq.mp (α := D12 M s  h P) (by kernel_rfl) hd)
def D13 (M : Model) (h_1 : Slc) (a1 : Int) (b1 : Int) (h : Heap) (P : AV → Heap → Prop) : Prop :=
CallE M 42 [h_1.av] h fun rv1 t1 =>
∃ (r1 : Slc) (r2 : Bool), rv1 = (.tuple [r1.av, (.bool r2)]) ∧
((!r2) = false → ((decide (a1 < 0)) = false → ((decide (a1 ≥ ((r1.len : Nat) : Int))) = false → ((decide (b1 < 0)) = false → ((decide (b1 ≥ ((r1.len : Nat) : Int))) = true → P (.tuple [(.bool false), (.int .i64 1)]) t1) ∧
((decide (b1 ≥ ((r1.len : Nat) : Int))) = false → (0 ≤ a1 ∧
a1 < (r1.len : Int)) ∧
∃ (x1 : Int) (x2 : Int) (x3 : List UInt8) (x4 : Int) (x5 : Int) (x6 : Int) (x7 : Int) (x8 : Int), rdVar (h ++ t1) (some 8) r1.b (r1.o + (a1 : Int).toNat * 8) = some (.agg [(.int .i64 x1), (.int .i64 x2), (.str x3), (.int .i64 x4), (.int .i64 x5), (.int .i64 x6), (.int .i64 x7), (.int .i64 x8)]) ∧
(0 ≤ b1 ∧
b1 < (r1.len : Int)) ∧
∃ (x9 : Int) (x10 : Int) (x11 : List UInt8) (x12 : Int) (x13 : Int) (x14 : Int) (x15 : Int) (x16 : Int), rdVar (h ++ t1) (some 8) r1.b (r1.o + (b1 : Int).toNat * 8) = some (.agg [(.int .i64 x9), (.int .i64 x10), (.str x11), (.int .i64 x12), (.int .i64 x13), (.int .i64 x14), (.int .i64 x15), (.int .i64 x16)]) ∧
CallE M 43 [(.agg [(.int .i64 x1), (.int .i64 x2), (.str x3), (.int .i64 x4), (.int .i64 x5), (.int .i64 x6), (.int .i64 x7), (.int .i64 x8)]), (.agg [(.int .i64 x9), (.int .i64 x10), (.str x11), (.int .i64 x12), (.int .i64 x13), (.int .i64 x14), (.int .i64 x15), (.int .i64 x16)])] (h ++ t1) fun rv2 t2 =>
∃ (b2 : Bool), rv2 = (.bool b2) ∧
P (.tuple [(.bool b2), (.int .i64 0)]) (t1 ++ t2))) ∧
((decide (b1 < 0)) = true → P (.tuple [(.bool false), (.int .i64 1)]) t1)) ∧
((decide (a1 ≥ ((r1.len : Nat) : Int))) = true → P (.tuple [(.bool false), (.int .i64 1)]) t1)) ∧
((decide (a1 < 0)) = true → P (.tuple [(.bool false), (.int .i64 1)]) t1)) ∧
((!r2) = true → P (.tuple [(.bool false), (.int .i64 1)]) t1)
theorem d13 {M : Model} {h_1 : Slc} {a1 : Int} {b1 : Int} {h : Heap} {P : AV → Heap → Prop} (hF : M.fn 13 = some F13) (hd : D13 M h_1 a1 b1 h P) : CallE M 13 [h_1.av, (.int .i64 a1), (.int .i64 b1)] h P :=
  callE_of_wp (hi := (rs 3 (.op ⟨(.tup [.slc, .bool]), 0, true, 0⟩ (rs 8 (.split ⟨.raw, 0, true, 0⟩ (rs 3 (.split ⟨.raw, 0, true, 0⟩ (rs 5 (.split ⟨.raw, 0, true, 0⟩ (rs 3 (.split ⟨.raw, 0, true, 0⟩ (rs 4 (.condS (rs 2 .nil) (rs 3 (.op ⟨(.agg [(.int .i64), (.int .i64), .str, (.int .i64), (.int .i64), (.int .i64), (.int .i64), (.int .i64)]), 2, true, 0⟩ (rs 3 (.op ⟨(.agg [(.int .i64), (.int .i64), .str, (.int .i64), (.int .i64), (.int .i64), (.int .i64), (.int .i64)]), 2, true, 0⟩ (.op ⟨.bool, 0, true, 0⟩ (rs 2 .nil)))))))) (rs 4 (.condL (rs 2 .nil))))) (rs 8 (.condL (rs 2 .nil))))) (rs 14 (.condL (rs 2 .nil))))) (rs 18 (.condL (rs 2 .nil)))))))) (args := [(.slc h_1), (.av (.int .i64 a1)), (.av (.int .i64 b1))]) hF (by simp [oks, SV.ok]) (Eq.mp (α := D13 M h_1 a1 b1 h P) (by kernel_rfl) hd)
def D15 (M : Model) (h_1 : Slc) (h : Heap) (P : AV → Heap → Prop) : Prop :=
CallE M 42 [h_1.av] h fun rv1 t1 =>
∃ (r1 : Slc) (r2 : Bool), rv1 = (.tuple [r1.av, (.bool r2)]) ∧
((!r2) = true → P (.tuple [.nilslice, (.int .i64 1)]) t1) ∧
((!r2) = false → P (.tuple [r1.av, (.int .i64 0)]) t1)
theorem d15 {M : Model} {h_1 : Slc} {h : Heap} {P : AV → Heap → Prop} (hF : M.fn 15 = some F15) (hd : D15 M h_1 h P) : CallE M 15 [h_1.av] h P :=
  callE_of_wp (hi := (rs 3 (.op ⟨(.tup [.slc, .bool]), 0, true, 0⟩ (rs 7 (.condS (rs 2 .nil) (rs 3 .nil)))))) (args := [(.slc h_1)]) hF (by simp [oks, SV.ok]) (Eq.mp (α := D15 M h_1 h P) (by kernel_rfl) hd)
def D16 (M : Model) (h_1 : Slc) (h : Heap) (P : AV → Heap → Prop) : Prop :=
CallE M 42 [h_1.av] h fun rv1 t1 =>
∃ (r1 : Slc) (r2 : Bool), rv1 = (.tuple [r1.av, (.bool r2)]) ∧
P (.bool r2) t1
theorem d16 {M : Model} {h_1 : Slc} {h : Heap} {P : AV → Heap → Prop} (hF : M.fn 16 = some F16) (hd : D16 M h_1 h P) : CallE M 16 [h_1.av] h P :=
  callE_of_wp (hi := (rs 2 (.op ⟨(.tup [.slc, .bool]), 0, true, 0⟩ (rs 7 .nil)))) (args := [(.slc h_1)]) hF (by simp [oks, SV.ok]) (Eq.mp (α := D16 M h_1 h P) (by kernel_rfl) hd)
def D17 (M : Model) (h_1 : Slc) (h : Heap) (P : AV → Heap → Prop) : Prop :=
0 < h_1.len ∧
∃ (new1 : List AV), rowOf h 7 h_1.av = some new1 ∧
(0 + h_1.len) * 64 ≤ 140737488355328 ∧
P (.slice (h.length + 1) 0 (0 + h_1.len)) (AObj.dead :: [AObj.arr ([] ++ new1) 7 false])
theorem d17 {M : Model} {h_1 : Slc} {h : Heap} {P : AV → Heap → Prop} (hF : M.fn 17 = some F17) (hd : D17 M h_1 h P) : CallE M 17 [h_1.av] h P :=
  callE_of_wp (hi := (rs 3 (.op ⟨.raw, 1, true, 0⟩ (.op ⟨.raw, 0, true, 0⟩ .nil)))) (args := [(.slc h_1)]) hF (by simp [oks, SV.ok]) (Eq.mp (α := D17 M h_1 h P) (by kernel_rfl) hd)
def D21 (M : Model) (h_1 : Slc) (h : Heap) (P : AV → Heap → Prop) : Prop :=
CallE M 16 [h_1.av] h fun rv1 t1 =>
∃ (b1 : Bool), rv1 = (.bool b1) ∧
((!b1) = true → P (.tuple [(.int .i64 0), (.int .i64 1)]) t1) ∧
((!b1) = false → ∃ (I1 : Nat → Int → Int → Int → Heap → Prop), (∃ n1, I1 n1 (0 : Int) (0 : Int) (0 : Int) ([] : Heap)) ∧
∀ (n2 : Nat) (open_1 : Int) (most1 : Int) (x1 : Int) (t2 : Heap), I1 n2 open_1 most1 x1 t2 → ((decide (x1 < ((h_1.len : Nat) : Int))) = true → (0 ≤ x1 ∧
x1 < (h_1.len : Int)) ∧
∃ (x2 : Int) (x3 : Int) (x4 : Bool) (x5 : List UInt8) (x6 : Int) (x7 : Int) (x8 : Int), rdVar h (some 7) h_1.b (h_1.o + (x1 : Int).toNat * 7) = some (.agg [(.int .i64 x2), (.int .i64 x3), (.bool x4), (.str x5), (.int .i64 x6), (.int .i64 x7), (.int .i64 x8)]) ∧
∃ (J1 : Int → Heap → Prop), ((x4 = true → J1 (IntKind.wrap .i64 (open_1 - 1)) ([] : Heap)) ∧
(x4 = false → J1 (IntKind.wrap .i64 (open_1 + 1)) ([] : Heap))) ∧
(∀ (open_2 : Int) (t3 : Heap), J1 open_2 t3 → ∃ n3, n3 < n2 ∧
I1 n3 open_2 (if open_2 > most1 then open_2 else most1) (IntKind.wrap .i64 (x1 + 1)) (t2 ++ (AObj.arr [(.int .i64 x2), (.int .i64 x3), (.bool x4), (.str x5), (.int .i64 x6), (.int .i64 x7), (.int .i64 x8)] 7 false :: t3)))) ∧
((decide (x1 < ((h_1.len : Nat) : Int))) = false → P (.tuple [(.int .i64 most1), (.int .i64 0)]) (t1 ++ t2)))
theorem d21 {M : Model} {h_1 : Slc} {h : Heap} {P : AV → Heap → Prop} (hF : M.fn 21 = some F21) (hd : D21 M h_1 h P) : CallE M 21 [h_1.av] h P :=
  callE_of_wp (hi := (rs 3 (.op ⟨.bool, 0, true, 0⟩ (.op ⟨.raw, 0, true, 0⟩ (.condS (rs 2 .nil) (rs 5 (.loop ⟨2, [], [(4, (.int .i64)), (5, (.int .i64)), (13, (.int .i64))]⟩ (.op ⟨.raw, 0, true, 0⟩ (.condS (.op ⟨.raw, 0, true, 0⟩ (.op ⟨(.agg [(.int .i64), (.int .i64), .bool, .str, (.int .i64), (.int .i64), (.int .i64)]), 1, true, 0⟩ (rs 2 (.join ⟨4, [], [(4, (.int .i64))]⟩ (rs 2 (.condS (rs 3 .nil) (rs 3 .nil))) (rs 6 .nil))))) (rs 3 .nil)))))))))) (args := [(.slc h_1)]) hF (by simp [oks, SV.ok]) (Eq.mp (α := D21 M h_1 h P) (by kernel_rfl) hd)
def D37 (M : Model) (h_1 : Slc) (h : Heap) (P : AV → Heap → Prop) : Prop :=
CallE M 16 [h_1.av] h fun rv1 t1 =>
∃ (b1 : Bool), rv1 = (.bool b1) ∧
((!b1) = true → P (.tuple [(.str []), (.int .i64 1)]) t1) ∧
((!b1) = false →
CallE M 54 [h_1.av] (h ++ t1) fun rv2 t2 =>
∃ (w1 : List UInt8), rv2 = (.str w1) ∧
P (.tuple [(.str w1), (.int .i64 0)]) (t1 ++ t2))
theorem d37 {M : Model} {h_1 : Slc} {h : Heap} {P : AV → Heap → Prop} (hF : M.fn 37 = some F37) (hd : D37 M h_1 h P) : CallE M 37 [h_1.av] h P :=
  callE_of_wp (hi := (rs 3 (.op ⟨.bool, 0, true, 0⟩ (.op ⟨.raw, 0, true, 0⟩ (.condS (rs 2 .nil) (.op ⟨.raw, 0, true, 0⟩ (.op ⟨.str, 0, true, 0⟩ (rs 2 .nil)))))))) (args := [(.slc h_1)]) hF (by simp [oks, SV.ok]) (Eq.mp (α := D37 M h_1 h P) (by kernel_rfl) hd)
def D41 (M : Model)  (h : Heap) (P : AV → Heap → Prop) : Prop :=
P (.slice (h.length + 1) 0 2) (AObj.arr [(.str [112, 117, 115, 104]), (.int .i64 7), (.int .i64 0)] 3 false :: [AObj.arr [(.int .i64 0), (.int .i64 0), (.bool false), (.str [112, 117, 115, 104]), (.int .i64 7), (.int .i64 0), (.int .i64 0), (.int .i64 0), (.int .i64 0), (.bool true), (.str [112, 117, 115, 104]), (.int .i64 7), (.int .i64 0), (.int .i64 0)] 7 false])
theorem d41 {M : Model}  {h : Heap} {P : AV → Heap → Prop} (hF : M.fn 41 = some F41) (hd : D41 M  h P) : CallE M 41 [] h P :=
  callE_of_wp (hi := (rs 10 .nil)) (args := []) hF (by simp [oks, SV.ok]) (Eq.mp (α := D41 M  h P) (by kernel_rfl) hd)
def D42 (M : Model) (h_1 : Slc) (h : Heap) (P : AV → Heap → Prop) : Prop :=
CallE M 62 [(.slice (h.length + 1) 0 1), (.int .i64 4)] (h ++ (AObj.arr [(.int .i64 0), (.int .i64 0), (.int .i64 0), (.int .i64 0)] 1 false :: [AObj.arr [(.int .i64 (-1))] 1 false])) fun rv1 t1 =>
∃ (l1 : Slc), rv1 = l1.av ∧
∃ (I1 : Nat → Slc → Int → (List AV) → Heap → Prop), (∃ n1, I1 n1 (Slc.mk 0 0 0 true) (0 : Int) [(.int .i64 0), (.int .i64 0), (.int .i64 0), (.int .i64 0)] t1) ∧
∀ (n2 : Nat) (l2 : Slc) (x1 : Int) (c1 : List AV) (t2 : Heap), I1 n2 l2 x1 c1 t2 → ((decide (x1 < ((h_1.len : Nat) : Int))) = true → (0 ≤ x1 ∧
x1 < (h_1.len : Int)) ∧
∃ (x2 : Int) (x3 : Int) (x4 : Bool) (x5 : List UInt8) (x6 : Int) (x7 : Int) (x8 : Int), rdVar h (some 7) h_1.b (h_1.o + (x1 : Int).toNat * 7) = some (.agg [(.int .i64 x2), (.int .i64 x3), (.bool x4), (.str x5), (.int .i64 x6), (.int .i64 x7), (.int .i64 x8)]) ∧
((decide (x2 < 0)) = false → ((decide (x2 ≥ 4)) = false →
CallE M 63 [(.str x5)] (h ++ (AObj.arr c1 1 false :: (AObj.arr [(.int .i64 (-1))] 1 false :: (t2 ++ [AObj.arr [(.int .i64 x2), (.int .i64 x3), (.bool x4), (.str x5), (.int .i64 x6), (.int .i64 x7), (.int .i64 x8)] 7 false])))) fun rv2 t3 =>
∃ (b1 : Bool), rv2 = (.bool b1) ∧
((!b1) = false →
CallE M 64 [(.int .i64 x6)] (h ++ (AObj.arr c1 1 false :: (AObj.arr [(.int .i64 (-1))] 1 false :: (t2 ++ (AObj.arr [(.int .i64 x2), (.int .i64 x3), (.bool x4), (.str x5), (.int .i64 x6), (.int .i64 x7), (.int .i64 x8)] 7 false :: t3))))) fun rv3 t4 =>
∃ (b2 : Bool), rv3 = (.bool b2) ∧
((!b2) = false →
CallE M 64 [(.int .i64 x7)] (h ++ (AObj.arr c1 1 false :: (AObj.arr [(.int .i64 (-1))] 1 false :: (t2 ++ (AObj.arr [(.int .i64 x2), (.int .i64 x3), (.bool x4), (.str x5), (.int .i64 x6), (.int .i64 x7), (.int .i64 x8)] 7 false :: (t3 ++ t4)))))) fun rv4 t5 =>
∃ (b3 : Bool), rv4 = (.bool b3) ∧
((!b3) = false →
CallE M 64 [(.int .i64 x8)] (h ++ (AObj.arr c1 1 false :: (AObj.arr [(.int .i64 (-1))] 1 false :: (t2 ++ (AObj.arr [(.int .i64 x2), (.int .i64 x3), (.bool x4), (.str x5), (.int .i64 x6), (.int .i64 x7), (.int .i64 x8)] 7 false :: (t3 ++ (t4 ++ t5))))))) fun rv5 t6 =>
∃ (b4 : Bool), rv5 = (.bool b4) ∧
((!b4) = true → P (.tuple [.nilslice, (.bool false)]) (AObj.arr c1 1 false :: (AObj.arr [(.int .i64 (-1))] 1 false :: (t2 ++ (AObj.arr [(.int .i64 x2), (.int .i64 x3), (.bool x4), (.str x5), (.int .i64 x6), (.int .i64 x7), (.int .i64 x8)] 7 false :: (t3 ++ (t4 ++ (t5 ++ t6)))))))) ∧
((!b4) = false → (0 ≤ x2 ∧
x2 < (l1.len : Int)) ∧
∃ (n4 : Int), rdVar (h ++ (AObj.arr c1 1 false :: (AObj.arr [(.int .i64 (-1))] 1 false :: (t2 ++ (AObj.arr [(.int .i64 x2), (.int .i64 x3), (.bool x4), (.str x5), (.int .i64 x6), (.int .i64 x7), (.int .i64 x8)] 7 false :: (t3 ++ (t4 ++ (t5 ++ t6)))))))) none l1.b (l1.o + (x2 : Int).toNat * 1) = some (.int .i64 n4) ∧
(x4 = true → ((decide (n4 < 0)) = false → (0 ≤ n4 ∧
n4 < (l2.len : Int)) ∧
∃ (x9 : List UInt8) (x10 : Int) (x11 : Int), rdVar (h ++ (AObj.arr c1 1 false :: (AObj.arr [(.int .i64 (-1))] 1 false :: t2))) (some 3) l2.b ((l2.o + (n4 : Int).toNat * 8) + 2) = some (.agg [(.str x9), (.int .i64 x10), (.int .i64 x11)]) ∧
((((x9 == x5) && ((x10 == x6) && ((x11 == x7) && true))) != true) = false → (0 ≤ n4 ∧
n4 < (l2.len : Int)) ∧
∃ (n5 : Int), rdVar (h ++ (AObj.arr c1 1 false :: (AObj.arr [(.int .i64 (-1))] 1 false :: t2))) none l2.b ((l2.o + (n4 : Int).toNat * 8) + 1) = some (.int .i64 n5) ∧
((n5 != x3) = true → P (.tuple [.nilslice, (.bool false)]) (AObj.arr c1 1 false :: (AObj.arr [(.int .i64 (-1))] 1 false :: (t2 ++ (AObj.arr [(.int .i64 x2), (.int .i64 x3), (.bool x4), (.str x5), (.int .i64 x6), (.int .i64 x7), (.int .i64 x8)] 7 false :: (t3 ++ (t4 ++ (t5 ++ t6)))))))) ∧
((n5 != x3) = false → ((l2).nil = false ∧
(l2).b ≠ (h.length + (1 + (1 + t2.length)))) ∧
(0 ≤ n4 ∧
n4 < (l2.len : Int)) ∧
∃ (k1 : Nat) (g1 : Heap), l2.b = (h.length + (1 + 1)) + k1 ∧
wrCells t2 k1 ((l2.o + (n4 : Int).toNat * 8) + 6) [(.int .i64 x1)] = some g1 ∧
(0 ≤ n4 ∧
n4 < (l2.len : Int)) ∧
∃ (k2 : Nat) (g2 : Heap), l2.b = (h.length + (1 + 1)) + k2 ∧
wrCells g1 k2 ((l2.o + (n4 : Int).toNat * 8) + 7) [(.int .i64 x8)] = some g2 ∧
(0 ≤ x2 ∧
x2 < (l1.len : Int)) ∧
∃ (k3 : Nat) (g3 : Heap), l1.b = (h.length + (1 + 1)) + k3 ∧
wrCells g2 k3 (l1.o + (x2 : Int).toNat * 1) [(.int .i64 (-1))] = some g3 ∧
∃ n3, n3 < n2 ∧
I1 n3 l2 (IntKind.wrap .i64 (x1 + 1)) c1 (g3 ++ (AObj.arr [(.int .i64 x2), (.int .i64 x3), (.bool x4), (.str x5), (.int .i64 x6), (.int .i64 x7), (.int .i64 x8)] 7 false :: (t3 ++ (t4 ++ (t5 ++ t6))))))) ∧
((((x9 == x5) && ((x10 == x6) && ((x11 == x7) && true))) != true) = true → P (.tuple [.nilslice, (.bool false)]) (AObj.arr c1 1 false :: (AObj.arr [(.int .i64 (-1))] 1 false :: (t2 ++ (AObj.arr [(.int .i64 x2), (.int .i64 x3), (.bool x4), (.str x5), (.int .i64 x6), (.int .i64 x7), (.int .i64 x8)] 7 false :: (t3 ++ (t4 ++ (t5 ++ t6))))))))) ∧
((decide (n4 < 0)) = true → P (.tuple [.nilslice, (.bool false)]) (AObj.arr c1 1 false :: (AObj.arr [(.int .i64 (-1))] 1 false :: (t2 ++ (AObj.arr [(.int .i64 x2), (.int .i64 x3), (.bool x4), (.str x5), (.int .i64 x6), (.int .i64 x7), (.int .i64 x8)] 7 false :: (t3 ++ (t4 ++ (t5 ++ t6))))))))) ∧
(x4 = false → ((decide (n4 ≥ 0)) = false → (0 ≤ x2 ∧
x2 < ((4 : Nat) : Int)) ∧
∃ (n6 : Int), partOf none c1 (0 + (x2 : Int).toNat * 1) = some (.int .i64 n6) ∧
((x3 != n6) = false → ((x8 != 0) = false → ((((l2.len : Nat) : Int) == 12) = true → P (.tuple [.nilslice, (.bool false)]) (AObj.arr c1 1 false :: (AObj.arr [(.int .i64 (-1))] 1 false :: (t2 ++ (AObj.arr [(.int .i64 x2), (.int .i64 x3), (.bool x4), (.str x5), (.int .i64 x6), (.int .i64 x7), (.int .i64 x8)] 7 false :: (t3 ++ (t4 ++ (t5 ++ t6)))))))) ∧
((((l2.len : Nat) : Int) == 12) = false → (0 ≤ x2 ∧
x2 < ((4 : Nat) : Int)) ∧
∃ (n7 : Int), partOf none c1 (0 + (x2 : Int).toNat * 1) = some (.int .i64 n7) ∧
(0 ≤ x2 ∧
x2 < ((4 : Nat) : Int)) ∧
(0 + (x2 : Int).toNat * 1) + 1 ≤ List.length (α := AV) c1 ∧
(0 ≤ x2 ∧
x2 < (l1.len : Int)) ∧
∃ (k4 : Nat) (g4 : Heap), l1.b = (h.length + (1 + 1)) + k4 ∧
wrCells t2 k4 (l1.o + (x2 : Int).toNat * 1) [(.int .i64 ((l2.len : Nat) : Int))] = some g4 ∧
∃ (old1 : List AV) (g5 : Heap), ((l2.nil = true ∧
old1 = [] ∧
g5 = g4) ∨ (l2.nil = false ∧
∃ (k5 : Nat) (c2 : List AV), l2.b = (h.length + (1 + 1)) + k5 ∧
(g4)[k5]? = some (.arr c2 8 false) ∧
l2.o + l2.n * 8 ≤ c2.length ∧
old1 = (c2.drop l2.o).take (l2.n * 8) ∧
g5 = g4.set k5 .dead)) ∧
(l2.len + 1) * 72 ≤ 140737488355328 ∧
∃ n3, n3 < n2 ∧
I1 n3 (Slc.mk (h.length + (1 + (1 + (g5.length + (1 + (t3.length + (t4.length + (t5.length + (t6.length + 1))))))))) 0 (l2.len + 1) false) (IntKind.wrap .i64 (x1 + 1)) (setCells c1 (0 + (x2 : Int).toNat * 1) [(.int .i64 (IntKind.wrap .i64 (n7 + 1)))]) (g5 ++ (AObj.arr [(.int .i64 x2), (.int .i64 x3), (.bool x4), (.str x5), (.int .i64 x6), (.int .i64 x7), (.int .i64 x8)] 7 false :: (t3 ++ (t4 ++ (t5 ++ (t6 ++ (AObj.arr [(.int .i64 x2), (.int .i64 x3), (.str x5), (.int .i64 x6), (.int .i64 x7), (.int .i64 x1), (.int .i64 (-1)), (.int .i64 0)] 8 false :: [AObj.arr (old1 ++ [(.int .i64 x2), (.int .i64 x3), (.str x5), (.int .i64 x6), (.int .i64 x7), (.int .i64 x1), (.int .i64 (-1)), (.int .i64 0)]) 8 false]))))))))) ∧
((x8 != 0) = true → P (.tuple [.nilslice, (.bool false)]) (AObj.arr c1 1 false :: (AObj.arr [(.int .i64 (-1))] 1 false :: (t2 ++ (AObj.arr [(.int .i64 x2), (.int .i64 x3), (.bool x4), (.str x5), (.int .i64 x6), (.int .i64 x7), (.int .i64 x8)] 7 false :: (t3 ++ (t4 ++ (t5 ++ t6))))))))) ∧
((x3 != n6) = true → P (.tuple [.nilslice, (.bool false)]) (AObj.arr c1 1 false :: (AObj.arr [(.int .i64 (-1))] 1 false :: (t2 ++ (AObj.arr [(.int .i64 x2), (.int .i64 x3), (.bool x4), (.str x5), (.int .i64 x6), (.int .i64 x7), (.int .i64 x8)] 7 false :: (t3 ++ (t4 ++ (t5 ++ t6))))))))) ∧
((decide (n4 ≥ 0)) = true → P (.tuple [.nilslice, (.bool false)]) (AObj.arr c1 1 false :: (AObj.arr [(.int .i64 (-1))] 1 false :: (t2 ++ (AObj.arr [(.int .i64 x2), (.int .i64 x3), (.bool x4), (.str x5), (.int .i64 x6), (.int .i64 x7), (.int .i64 x8)] 7 false :: (t3 ++ (t4 ++ (t5 ++ t6))))))))))) ∧
((!b3) = true → P (.tuple [.nilslice, (.bool false)]) (AObj.arr c1 1 false :: (AObj.arr [(.int .i64 (-1))] 1 false :: (t2 ++ (AObj.arr [(.int .i64 x2), (.int .i64 x3), (.bool x4), (.str x5), (.int .i64 x6), (.int .i64 x7), (.int .i64 x8)] 7 false :: (t3 ++ (t4 ++ t5)))))))) ∧
((!b2) = true → P (.tuple [.nilslice, (.bool false)]) (AObj.arr c1 1 false :: (AObj.arr [(.int .i64 (-1))] 1 false :: (t2 ++ (AObj.arr [(.int .i64 x2), (.int .i64 x3), (.bool x4), (.str x5), (.int .i64 x6), (.int .i64 x7), (.int .i64 x8)] 7 false :: (t3 ++ t4))))))) ∧
((!b1) = true → P (.tuple [.nilslice, (.bool false)]) (AObj.arr c1 1 false :: (AObj.arr [(.int .i64 (-1))] 1 false :: (t2 ++ (AObj.arr [(.int .i64 x2), (.int .i64 x3), (.bool x4), (.str x5), (.int .i64 x6), (.int .i64 x7), (.int .i64 x8)] 7 false :: t3)))))) ∧
((decide (x2 ≥ 4)) = true → P (.tuple [.nilslice, (.bool false)]) (AObj.arr c1 1 false :: (AObj.arr [(.int .i64 (-1))] 1 false :: (t2 ++ [AObj.arr [(.int .i64 x2), (.int .i64 x3), (.bool x4), (.str x5), (.int .i64 x6), (.int .i64 x7), (.int .i64 x8)] 7 false]))))) ∧
((decide (x2 < 0)) = true → P (.tuple [.nilslice, (.bool false)]) (AObj.arr c1 1 false :: (AObj.arr [(.int .i64 (-1))] 1 false :: (t2 ++ [AObj.arr [(.int .i64 x2), (.int .i64 x3), (.bool x4), (.str x5), (.int .i64 x6), (.int .i64 x7), (.int .i64 x8)] 7 false]))))) ∧
((decide (x1 < ((h_1.len : Nat) : Int))) = false → P (.tuple [l2.av, (.bool true)]) (AObj.arr c1 1 false :: (AObj.arr [(.int .i64 (-1))] 1 false :: t2)))
set_option maxHeartbeats 2000000 in
theorem d42 {M : Model} {h_1 : Slc} {h : Heap} {P : AV → Heap → Prop} (hF : M.fn 42 = some F42) (hd : D42 M h_1 h P) : CallE M 42 [h_1.av] h P :=
  callE_of_wpT (a0 := 4) (r0 := 8) (ds := [88]) (hi := (rs 5 (.op ⟨.slc, 0, true, 0⟩ (rs 4 (.loop ⟨3, [(1, .cells, 1)], [(4, .slc), (14, (.int .i64))]⟩ (.op ⟨.raw, 0, true, 0⟩ (.condS (rs 2 (.op ⟨(.agg [(.int .i64), (.int .i64), .bool, .str, (.int .i64), (.int .i64), (.int .i64)]), 1, true, 0⟩ (rs 7 (.split ⟨.raw, 0, true, 0⟩ (rs 4 (.split ⟨.raw, 0, true, 0⟩ (rs 2 (.op ⟨.bool, 0, true, 0⟩ (rs 3 (.split ⟨.raw, 0, true, 0⟩ (rs 2 (.op ⟨.bool, 0, true, 0⟩ (rs 3 (.split ⟨.raw, 0, true, 0⟩ (rs 2 (.op ⟨.bool, 0, true, 0⟩ (rs 3 (.split ⟨.raw, 0, true, 0⟩ (.op ⟨.raw, 0, true, 0⟩ (.op ⟨.bool, 0, true, 0⟩ (rs 2 (.condS (rs 2 .nil) (rs 4 (.op ⟨(.int .i64), 9, true, 0⟩ (rs 3 (.condS (rs 3 (.split ⟨.raw, 0, true, 0⟩ (rs 3 (.op ⟨(.agg [.str, (.int .i64), (.int .i64)]), 4, true, 0⟩ (rs 5 (.split ⟨.raw, 0, true, 0⟩ (rs 3 (.op ⟨(.int .i64), 4, true, 0⟩ (rs 4 (.condS (rs 2 .nil) (rs 10 (.op ⟨.raw, 3, true, 0⟩ (rs 2 (.op ⟨.raw, 3, true, 0⟩ (rs 4 (.op ⟨.raw, 3, true, 0⟩ (rs 2 .nil))))))))))) (rs 8 (.condL (rs 2 .nil))))))) (rs 18 (.condL (rs 2 .nil))))) (rs 3 (.split ⟨.raw, 0, true, 0⟩ (rs 3 (.op ⟨.raw, 0, true, 1⟩ (.op ⟨(.int .i64), 0, true, 0⟩ (rs 3 (.split ⟨.raw, 0, true, 0⟩ (rs 4 (.split ⟨.raw, 0, true, 0⟩ (rs 3 (.condS (rs 2 .nil) (rs 2 (.op ⟨.raw, 0, true, 1⟩ (.op ⟨(.int .i64), 0, true, 0⟩ (.op ⟨.raw, 0, true, 0⟩ (.op ⟨.raw, 0, true, 1⟩ (rs 7 (.op ⟨.raw, 3, true, 0⟩ (rs 10 (.op ⟨.raw, 3, true, 0⟩ (rs 3 .nil)))))))))))) (rs 3 (.condL (rs 2 .nil))))) (rs 8 (.condL (rs 2 .nil)))))))) (rs 17 (.condL (rs 2 .nil))))))))))))) (rs 4 (.condL (rs 2 .nil))))))) (rs 11 (.condL (rs 2 .nil))))))) (rs 18 (.condL (rs 2 .nil))))))) (rs 25 (.condL (rs 2 .nil))))) (rs 30 (.condL (rs 2 .nil))))))) (rs 3 .nil)))))))) (args := [(.slc h_1)]) hF (by simp [oks, SV.ok]) (Eq.mp (α := D42 M h_1 h P) (by kernel_rfl) hd)
def D43 (M : Model) (a1 : Int) (a2 : Int) (a3 : List UInt8) (a4 : Int) (a5 : Int) (a6 : Int) (a7 : Int) (a8 : Int) (b1 : Int) (b2 : Int) (b3 : List UInt8) (b4 : Int) (b5 : Int) (b6 : Int) (b7 : Int) (b8 : Int) (h : Heap) (P : AV → Heap → Prop) : Prop :=
((decide (a7 ≥ 0)) = true → P (.bool (decide (a7 < b6))) (AObj.arr [(.int .i64 a1), (.int .i64 a2), (.str a3), (.int .i64 a4), (.int .i64 a5), (.int .i64 a6), (.int .i64 a7), (.int .i64 a8)] 8 false :: [AObj.arr [(.int .i64 b1), (.int .i64 b2), (.str b3), (.int .i64 b4), (.int .i64 b5), (.int .i64 b6), (.int .i64 b7), (.int .i64 b8)] 8 false])) ∧
((decide (a7 ≥ 0)) = false → P (.bool false) (AObj.arr [(.int .i64 a1), (.int .i64 a2), (.str a3), (.int .i64 a4), (.int .i64 a5), (.int .i64 a6), (.int .i64 a7), (.int .i64 a8)] 8 false :: [AObj.arr [(.int .i64 b1), (.int .i64 b2), (.str b3), (.int .i64 b4), (.int .i64 b5), (.int .i64 b6), (.int .i64 b7), (.int .i64 b8)] 8 false]))
theorem d43 {M : Model} {a1 : Int} {a2 : Int} {a3 : List UInt8} {a4 : Int} {a5 : Int} {a6 : Int} {a7 : Int} {a8 : Int} {b1 : Int} {b2 : Int} {b3 : List UInt8} {b4 : Int} {b5 : Int} {b6 : Int} {b7 : Int} {b8 : Int} {h : Heap} {P : AV → Heap → Prop} (hF : M.fn 43 = some F43) (hd : D43 M a1 a2 a3 a4 a5 a6 a7 a8 b1 b2 b3 b4 b5 b6 b7 b8 h P) : CallE M 43 [(.agg [(.int .i64 a1), (.int .i64 a2), (.str a3), (.int .i64 a4), (.int .i64 a5), (.int .i64 a6), (.int .i64 a7), (.int .i64 a8)]), (.agg [(.int .i64 b1), (.int .i64 b2), (.str b3), (.int .i64 b4), (.int .i64 b5), (.int .i64 b6), (.int .i64 b7), (.int .i64 b8)])] h P :=
  callE_of_wp (hi := (rs 7 (.split ⟨.raw, 0, true, 0⟩ (rs 6 .nil) (rs 6 .nil)))) (args := [(.agg [(.av (.int .i64 a1)), (.av (.int .i64 a2)), (.av (.str a3)), (.av (.int .i64 a4)), (.av (.int .i64 a5)), (.av (.int .i64 a6)), (.av (.int .i64 a7)), (.av (.int .i64 a8))]), (.agg [(.av (.int .i64 b1)), (.av (.int .i64 b2)), (.av (.str b3)), (.av (.int .i64 b4)), (.av (.int .i64 b5)), (.av (.int .i64 b6)), (.av (.int .i64 b7)), (.av (.int .i64 b8))])]) hF (by simp [oks, SV.ok]) (Eq.mp (α := D43 M a1 a2 a3 a4 a5 a6 a7 a8 b1 b2 b3 b4 b5 b6 b7 b8 h P) (by kernel_rfl) hd)
def D63 (M : Model) (s : Nat → List UInt8) (s_1 : List UInt8) (h : Heap) (P : AV → Heap → Prop) : Prop :=
((decide (((s_1.length : Nat) : Int) ≥ 1)) = true → ((decide (((s_1.length : Nat) : Int) ≤ 8)) = true →
CallE M 80 [(.str s_1), (.str (s 0))] h fun rv1 t1 =>
∃ (w1 : List UInt8), rv1 = (.str w1) ∧
P (.bool (w1 == [])) t1) ∧
((decide (((s_1.length : Nat) : Int) ≤ 8)) = false → P (.bool false) ([] : Heap))) ∧
((decide (((s_1.length : Nat) : Int) ≥ 1)) = false → P (.bool false) ([] : Heap))
theorem d63 {M : Model} {s : Nat → List UInt8} {s_1 : List UInt8} {h : Heap} {P : AV → Heap → Prop} (hF : M.fn 63 = some (F63 s)) (hd : D63 M s s_1 h P) : CallE M 63 [(.str s_1)] h P :=
  callE_of_wp (hi := (rs 5 (.split ⟨.raw, 0, true, 0⟩ (rs 4 (.split ⟨.raw, 0, true, 0⟩ (.op ⟨.str, 0, true, 0⟩ (rs 3 .nil)) (rs 4 .nil))) (rs 9 .nil)))) (args := [(.av (.str s_1))]) hF (by simp [oks, SV.ok]) (Eq.mp (α := D63 M s s_1 h P) (by kernel_rfl) hd)
def D64 (M : Model) (n1 : Int) (h : Heap) (P : AV → Heap → Prop) : Prop :=
((decide (n1 ≥ (-1000000000000000))) = true → P (.bool (decide (n1 ≤ 1000000000000000))) ([] : Heap)) ∧
((decide (n1 ≥ (-1000000000000000))) = false → P (.bool false) ([] : Heap))
theorem d64 {M : Model} {n1 : Int} {h : Heap} {P : AV → Heap → Prop} (hF : M.fn 64 = some F64) (hd : D64 M n1 h P) : CallE M 64 [(.int .i64 n1)] h P :=
  callE_of_wp (hi := (rs 4 (.split ⟨.raw, 0, true, 0⟩ (rs 3 .nil) (rs 3 .nil)))) (args := [(.av (.int .i64 n1))]) hF (by simp [oks, SV.ok]) (Eq.mp (α := D64 M n1 h P) (by kernel_rfl) hd)
end Go.Proofs.YtcjhjphmlfkikaaDoor.Mini

