/- Laws of one number that hand it to the structure's name only: reckoned at the 21 numbers. -/
import Derived.Test.YtifkphfhadimaaaGreatDoorLwN
set_option linter.unusedVariables false
set_option maxRecDepth 100000
namespace Go.Proofs.YtifkphfhadimaaaGreatDoor.Mini
open Go.Abs
theorem ix_self {k : Nat} (hk : k < 21) : ix (k : Int) = k := by
  unfold ix
  rw [Int.emod_eq_of_lt (by omega) (by omega), Int.emod_eq_of_lt (by omega) (by omega)]
  simp
end Go.Proofs.YtifkphfhadimaaaGreatDoor.Mini

