/- What is left to be shown of functions of the seat: printed by this session's own program; the kernel finds each to be what the residual machine says. -/
import Derived.Test.YtifkphfhadimaaaGreatDoorMiniB
import Derived.Test.YtifkphfhadimaaaGreatDoorAbsG4
import Derived.Test.YtifkphfhadimaaaGreatDoorAbsG6
set_option linter.unusedVariables false
set_option linter.unusedSimpArgs false
set_option maxRecDepth 100000
namespace Go.Proofs.YtifkphfhadimaaaGreatDoor.Mini
open Go.Abs Mini
/-- lockless/locklesslaw16.nameOf -/
def D26 (M : Model) (n1 : Int) (h : Heap) (P : AV → Heap → Prop) : Prop :=
CallE M 27 [] h fun rv1 t1 =>
∃ (l1 : Slc), rv1 = l1.av ∧
(IntKind.wrap .u64 ((l1.len : Nat) : Int)) ≠ 0 ∧
(0 ≤ (IntKind.wrap .i64 (Int.tmod (IntKind.wrap .u64 n1) (IntKind.wrap .u64 ((l1.len : Nat) : Int)))) ∧
(IntKind.wrap .i64 (Int.tmod (IntKind.wrap .u64 n1) (IntKind.wrap .u64 ((l1.len : Nat) : Int)))) < (l1.len : Int)) ∧
∃ (w1 : List UInt8), rdVar (h ++ t1) none l1.b (l1.o + ((IntKind.wrap .i64 (Int.tmod (IntKind.wrap .u64 n1) (IntKind.wrap .u64 ((l1.len : Nat) : Int)))) : Int).toNat * 7) = some (.str w1) ∧
P (.str w1) t1
theorem d26 {M : Model} {n1 : Int} {h : Heap} {P : AV → Heap → Prop} (hF : M.fn 26 = some F26) (hd : D26 M n1 h P) : CallE M 26 [(.int .i64 n1)] h P :=
  callE_of_wp (hi := (.op ⟨.raw, 0, true, 0⟩ (.op ⟨.slc, 0, true, 0⟩ (.op ⟨.raw, 0, true, 0⟩ (.op ⟨.raw, 0, true, 0⟩ (.op ⟨.raw, 0, true, 0⟩ (.op ⟨.raw, 0, true, 0⟩ (.op ⟨.raw, 0, true, 0⟩ (.op ⟨.raw, 0, true, 0⟩ (.op ⟨.raw, 0, true, 0⟩ (.op ⟨.raw, 0, true, 1⟩ (.op ⟨.raw, 0, true, 0⟩ (.op ⟨.raw, 0, true, 0⟩ (.op ⟨.raw, 0, true, 0⟩ (.op ⟨.str, 2, true, 0⟩ (.op ⟨.raw, 0, true, 0⟩ .nil)))))))))))))))) (args := [(.av (.int .i64 n1))]) hF (by simp [oks, SV.ok]) (Eq.mp (α := D26 M n1 h P) (by kernel_rfl) hd)
/-- slices.IndexFunc[[]lockless/lib.call,lockless/lib.call] -/
def D76 (M : Model) (s_1 : Slc) (f1 : Nat) (f1c : List AV) (h : Heap) (P : AV → Heap → Prop) : Prop :=
∃ (I1 : Nat → Int → Heap → Prop), (∃ n1, I1 n1 (0 : Int) ([] : Heap)) ∧
∀ (n2 : Nat) (x1 : Int) (t1 : Heap), I1 n2 x1 t1 → ((decide (x1 < ((s_1.len : Nat) : Int))) = true → (0 ≤ x1 ∧
x1 < (s_1.len : Int)) ∧
∃ (x2 : List UInt8) (x3 : Int), rdVar h (some 2) s_1.b (s_1.o + (x1 : Int).toNat * 2) = some (.agg [(.str x2), (.int .i64 x3)]) ∧
CallE M f1 ([(.agg [(.str x2), (.int .i64 x3)])] ++ f1c) (h ++ t1) fun rv1 t2 =>
∃ (b1 : Bool), rv1 = (.bool b1) ∧
(b1 = true → P (.int .i64 x1) (t1 ++ t2)) ∧
(b1 = false → ∃ n3, n3 < n2 ∧
I1 n3 (IntKind.wrap .i64 (x1 + 1)) (t1 ++ t2))) ∧
((decide (x1 < ((s_1.len : Nat) : Int))) = false → P (.int .i64 (-1)) t1)
theorem d76 {M : Model} {s_1 : Slc} {f1 : Nat} {f1c : List AV} {h : Heap} {P : AV → Heap → Prop} (hF : M.fn 76 = some F76) (hd : D76 M s_1 f1 f1c h P) : CallE M 76 [s_1.av, (.fn f1 f1c)] h P :=
  callE_of_wp (hi := (.op ⟨.raw, 0, true, 0⟩ (.op ⟨.raw, 0, true, 0⟩ (.op ⟨.raw, 0, true, 0⟩ (.op ⟨.raw, 0, true, 0⟩ (.loop ⟨1, [], [(8, (.int .i64))]⟩ (.op ⟨.raw, 0, true, 0⟩ (.condS (.op ⟨.raw, 0, true, 0⟩ (.op ⟨.raw, 0, true, 0⟩ (.op ⟨.raw, 0, true, 0⟩ (.op ⟨.raw, 0, true, 0⟩ (.op ⟨.raw, 0, true, 0⟩ (.op ⟨.raw, 0, true, 0⟩ (.op ⟨(.agg [.str, (.int .i64)]), 1, true, 0⟩ (.op ⟨.bool, 0, true, 0⟩ (.condS (.op ⟨.raw, 0, true, 0⟩ (.op ⟨.raw, 0, true, 0⟩ .nil)) (.op ⟨.raw, 0, true, 0⟩ (.op ⟨.raw, 0, true, 0⟩ .nil))))))))))) (.op ⟨.raw, 0, true, 0⟩ .nil))))))))) (args := [(.slc s_1), (.av (.fn f1 f1c))]) hF (by simp [oks, SV.ok]) (Eq.mp (α := D76 M s_1 f1 f1c h P) (by kernel_rfl) hd)
end Go.Proofs.YtifkphfhadimaaaGreatDoor.Mini

