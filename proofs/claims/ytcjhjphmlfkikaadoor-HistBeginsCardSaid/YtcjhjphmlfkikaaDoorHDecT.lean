import Derived.Test.YtcjhjphmlfkikaaDoorHMini
import Derived.Test.YtcjhjphmlfkikaaDoorAbsG4
import Derived.Test.YtcjhjphmlfkikaaDoorAbsG13
import Derived.Test.YtcjhjphmlfkikaaDoorAbsG7
set_option linter.unusedVariables false
set_option linter.unusedSimpArgs false
set_option maxRecDepth 100000
namespace Go.Proofs.YtcjhjphmlfkikaaDoor.Mini
open Go.Abs Mini
def D54 (M : Model) (h_1 : Slc) (h : Heap) (P : AV → Heap → Prop) : Prop :=
∃ (I1 : Nat → Int → Heap → Prop), (∃ n1, I1 n1 (0 : Int) [AObj.bld 192 .nilslice []]) ∧
∀ (n2 : Nat) (x1 : Int) (t1 : Heap), I1 n2 x1 t1 → ((decide (x1 < ((h_1.len : Nat) : Int))) = true → (0 ≤ x1 ∧
x1 < (h_1.len : Int)) ∧
∃ (x2 : Int) (x3 : Int) (x4 : Bool) (x5 : List UInt8) (x6 : Int) (x7 : Int) (x8 : Int), rdVar h (some 7) h_1.b (h_1.o + (x1 : Int).toNat * 7) = some (.agg [(.int .i64 x2), (.int .i64 x3), (.bool x4), (.str x5), (.int .i64 x6), (.int .i64 x7), (.int .i64 x8)]) ∧
∃ (J1 : (List UInt8) → Slc → Heap → Prop), ((x4 = true → (2 + 1) * 8 ≤ 140737488355328 ∧
J1 ([98, 97, 99, 107] : List UInt8) (Slc.mk (h.length + (t1.length + (1 + (1 + 1)))) 0 3 false) (AObj.dead :: (AObj.arr [(.int .i64 x8)] 1 false :: [AObj.arr [(.int .i64 x6), (.int .i64 x7), (.int .i64 x8)] 1 false]))) ∧
(x4 = false → J1 ([99, 97, 108, 108] : List UInt8) (Slc.mk (h.length + (t1.length + 1)) 0 2 false) [AObj.arr [(.int .i64 x6), (.int .i64 x7)] 1 false])) ∧
(∀ (word1 : List UInt8) (l1 : Slc) (t2 : Heap), J1 word1 l1 t2 →
CallE M 70 [(.int .i64 x2)] (h ++ (t1 ++ (AObj.arr [(.int .i64 x2), (.int .i64 x3), (.bool x4), (.str x5), (.int .i64 x6), (.int .i64 x7), (.int .i64 x8)] 7 false :: t2))) fun rv1 t3 =>
∃ (w1 : List UInt8), rv1 = (.str w1) ∧
((w1.length + ([32] : List UInt8).length : Nat) : Int) ≤ 9223372036854775807 ∧
(((w1 ++ [32]).length + word1.length : Nat) : Int) ≤ 9223372036854775807 ∧
((((w1 ++ [32]) ++ word1).length + ([32] : List UInt8).length : Nat) : Int) ≤ 9223372036854775807 ∧
(((((w1 ++ [32]) ++ word1) ++ [32]).length + x5.length : Nat) : Int) ≤ 9223372036854775807 ∧
CallP M 69 [(.ptr h.length 0), (.str ((((w1 ++ [32]) ++ word1) ++ [32]) ++ x5))] h (t1 ++ (AObj.arr [(.int .i64 x2), (.int .i64 x3), (.bool x4), (.str x5), (.int .i64 x6), (.int .i64 x7), (.int .i64 x8)] 7 false :: (t2 ++ t3))) fun rv2 t4 =>
∃ (r1 : Int) (r2n : Bool) (r2t : Nat) (r2 : AV), rv2 = (.tuple [(.int .i64 r1), (cond r2n .niliface (.iface r2t r2))]) ∧
∃ (I2 : Nat → Int → Heap → Prop), (∃ n4, I2 n4 (0 : Int) t4) ∧
∀ (n5 : Nat) (x9 : Int) (t5 : Heap), I2 n5 x9 t5 → ((decide (x9 < ((l1.len : Nat) : Int))) = true → (0 ≤ x9 ∧
x9 < (l1.len : Int)) ∧
∃ (n7 : Int), rdVar (h ++ t5) none l1.b (l1.o + (x9 : Int).toNat * 1) = some (.int .i64 n7) ∧
CallE M 70 [(.int .i64 n7)] (h ++ t5) fun rv3 t6 =>
∃ (w2 : List UInt8), rv3 = (.str w2) ∧
((([32] : List UInt8).length + w2.length : Nat) : Int) ≤ 9223372036854775807 ∧
CallP M 69 [(.ptr h.length 0), (.str (([32] : List UInt8) ++ w2))] h (t5 ++ t6) fun rv4 t7 =>
∃ (r3 : Int) (r4n : Bool) (r4t : Nat) (r4 : AV), rv4 = (.tuple [(.int .i64 r3), (cond r4n .niliface (.iface r4t r4))]) ∧
∃ n6, n6 < n5 ∧
I2 n6 (IntKind.wrap .i64 (x9 + 1)) t7) ∧
((decide (x9 < ((l1.len : Nat) : Int))) = false → CallP M 69 [(.ptr h.length 0), (.str [10])] h t5 fun rv5 t8 =>
∃ (r5 : Int) (r6n : Bool) (r6t : Nat) (r6 : AV), rv5 = (.tuple [(.int .i64 r5), (cond r6n .niliface (.iface r6t r6))]) ∧
∃ n3, n3 < n2 ∧
I1 n3 (IntKind.wrap .i64 (x1 + 1)) t8))) ∧
((decide (x1 < ((h_1.len : Nat) : Int))) = false → CallP M 71 [(.ptr h.length 0)] h t1 fun rv6 t9 =>
∃ (w3 : List UInt8), rv6 = (.str w3) ∧
P (.str w3) t9)
set_option maxHeartbeats 2000000 in
theorem d54 {M : Model} (hM : QuietOps M (isQ [70])) {h_1 : Slc} {h : Heap} {P : AV → Heap → Prop} (hF : M.fn 54 = some F54) (hd : D54 M h_1 h P) : CallE M 54 [h_1.av] h P :=
  callE_of_wpS (q := isQ [70]) (sf := noS) (st := ([0, 1, 2, 3, 4, 5, 7, 6, 8], [0, 1, 2, 3, 4, 5, 7, 6, 8])) hM (hi := (rs 5 (.loop ⟨1, [], [(12, (.int .i64))]⟩ (.op ⟨.raw, 0, true, 0⟩ (.condS (.op ⟨.raw, 0, true, 0⟩ (.op ⟨(.agg [(.int .i64), (.int .i64), .bool, .str, (.int .i64), (.int .i64), (.int .i64)]), 1, true, 0⟩ (rs 11 (.join ⟨3, [], [(6, .str), (7, .slc)]⟩ (rs 2 (.condS (rs 7 .nil) .nil)) (rs 2 (.op ⟨.str, 0, true, 0⟩ (.op ⟨.raw, 0, true, 1⟩ (.op ⟨.raw, 0, true, 0⟩ (.op ⟨.raw, 0, true, 1⟩ (.op ⟨.raw, 0, true, 1⟩ (rs 3 (.op ⟨.raw, 0, true, 1⟩ (.op ⟨(.tup [(.int .i64), .err]), 1, true, 1⟩ (rs 3 (.loop ⟨1, [], [(44, (.int .i64))]⟩ (.op ⟨.raw, 0, true, 0⟩ (.condS (.op ⟨.raw, 0, true, 0⟩ (.op ⟨(.int .i64), 2, true, 0⟩ (rs 2 (.op ⟨.str, 0, true, 0⟩ (.op ⟨.raw, 0, true, 1⟩ (.op ⟨(.tup [(.int .i64), .err]), 1, true, 1⟩ (rs 2 .nil))))))) (.op ⟨(.tup [(.int .i64), .err]), 1, true, 1⟩ (rs 2 .nil))))))))))))))))))) (.op ⟨.str, 1, true, 1⟩ (.op ⟨.raw, 0, true, 0⟩ .nil))))))) (args := [(.slc h_1)]) hF (by simp [oks, SV.ok]) (Eq.mp (α := D54 M h_1 h P) (by kernel_rfl) hd)
end Go.Proofs.YtcjhjphmlfkikaaDoor.Mini

