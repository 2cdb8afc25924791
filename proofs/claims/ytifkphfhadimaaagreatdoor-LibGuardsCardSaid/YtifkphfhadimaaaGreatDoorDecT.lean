/- What is left to be shown of functions of the seat: printed by this session's own program; the kernel finds each to be what the residual machine says. -/
import Derived.Test.YtifkphfhadimaaaGreatDoorMiniB
import Derived.Test.YtifkphfhadimaaaGreatDoorAbsG4
import Derived.Test.YtifkphfhadimaaaGreatDoorAbsG6
set_option linter.unusedVariables false
set_option linter.unusedSimpArgs false
set_option maxRecDepth 100000
namespace Go.Proofs.YtifkphfhadimaaaGreatDoor.Mini
open Go.Abs Mini
/-- lockless/locklesslaw16.nameOf -/
def D26 (M : Model) (n1 : Int) (h : Heap) (P : AV → Heap → Prop) : Prop :=
CallE M 27 [] h fun rv1 t1 =>
∃ (l1 : Slc), rv1 = l1.av ∧
(IntKind.wrap .u64 ((l1.len : Nat) : Int)) ≠ 0 ∧
(0 ≤ (IntKind.wrap .i64 (Int.tmod (IntKind.wrap .u64 n1) (IntKind.wrap .u64 ((l1.len : Nat) : Int)))) ∧
(IntKind.wrap .i64 (Int.tmod (IntKind.wrap .u64 n1) (IntKind.wrap .u64 ((l1.len : Nat) : Int)))) < (l1.len : Int)) ∧
∃ (w1 : List UInt8), rdVar (h ++ t1) none l1.b (l1.o + ((IntKind.wrap .i64 (Int.tmod (IntKind.wrap .u64 n1) (IntKind.wrap .u64 ((l1.len : Nat) : Int)))) : Int).toNat * 7) = some (.str w1) ∧
P (.str w1) t1
theorem d26 {M : Model} {n1 : Int} {h : Heap} {P : AV → Heap → Prop} (hF : M.fn 26 = some F26) (hd : D26 M n1 h P) : CallE M 26 [(.int .i64 n1)] h P :=
  callE_of_wp (hi := (.op ⟨.raw, 0, true, 0⟩ (.op ⟨.slc, 0, true, 0⟩ (.op ⟨.raw, 0, true, 0⟩ (.op ⟨.raw, 0, true, 0⟩ (.op ⟨.raw, 0, true, 0⟩ (.op ⟨.raw, 0, true, 0⟩ (.op ⟨.raw, 0, true, 0⟩ (.op ⟨.raw, 0, true, 0⟩ (.op ⟨.raw, 0, true, 0⟩ (.op ⟨.raw, 0, true, 1⟩ (.op ⟨.raw, 0, true, 0⟩ (.op ⟨.raw, 0, true, 0⟩ (.op ⟨.raw, 0, true, 0⟩ (.op ⟨.str, 2, true, 0⟩ (.op ⟨.raw, 0, true, 0⟩ .nil)))))))))))))))) (args := [(.av (.int .i64 n1))]) hF (by simp [oks, SV.ok]) (Eq.mp (α := D26 M n1 h P) (by kernel_rfl) hd)
end Go.Proofs.YtifkphfhadimaaaGreatDoor.Mini

