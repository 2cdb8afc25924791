/- Layer 16: names that are no structure's; the laws LibTable and LibSources. -/
import Derived.Test.YtifkphfhadimaaaGreatDoorLwA
set_option linter.unusedVariables false
set_option linter.unusedSimpArgs false
set_option maxRecDepth 100000
namespace Go.Proofs.YtifkphfhadimaaaGreatDoor.Mini
open Go.Abs

/-- The structure's number of a raw number. -/
def ix (w : Int) : Nat := ((w % 18446744073709551616) % 21).toNat
theorem ix_lt (w : Int) : ix w < 21 := by unfold ix; omega
theorem idx_ix (w : Int) : IntKind.wrap .i64 (Int.tmod (IntKind.wrap .u64 w) (IntKind.wrap .u64 ((21 : Nat) : Int))) = (ix w : Int) := by
  have e1 : IntKind.wrap .u64 ((21 : Nat) : Int) = 21 := by decide
  have e2 : IntKind.wrap .u64 w = w % 18446744073709551616 := by
    have : (2 : Int) ^ 64 = 18446744073709551616 := by decide
    simp only [IntKind.wrap, IntKind.signed, IntKind.bits, Bool.false_and, Bool.false_eq_true, if_false, this]
  rw [e1, e2, Int.tmod_eq_emod_of_nonneg (by omega)]
  have e3 : (2 : Int) ^ 64 = 18446744073709551616 := by decide
  have e4 : (2 : Int) ^ (64 - 1) = 9223372036854775808 := by decide
  simp only [IntKind.wrap, IntKind.signed, IntKind.bits, Bool.true_and, decide_eq_true_eq, e3, e4]
  rw [if_neg (by omega)]
  unfold ix
  omega
theorem nameIx_ok {w : Int} {h : Heap} {P : AV → Heap → Prop} (hP : ∀ t, P (.str (nm (ix w))) t) : CallE K4 26 [.int .i64 w] h P := by
  refine d26 (by kernel_rfl) ?_
  unfold D26
  refine table_ok fun s t hs hl hg => ?_
  have hk := ix_lt w
  refine ⟨s, rfl, ?_⟩
  rw [hl, idx_ix]
  exact ⟨by decide, ⟨by omega, by omega⟩, nm (ix w), by simpa using hg (ix w) hk, hP t⟩

/-! ### A name that is no structure's -/
section
variable {name : List UInt8} (hn : ∀ k, k < 21 → nm k ≠ name) {h : Heap} {P : AV → Heap → Prop}
include hn
end

/-! ### The sources -/
end Go.Proofs.YtifkphfhadimaaaGreatDoor.Mini

