/- The witness's world: its variables. -/
import Derived.Test.YtifkphfhadimaaaGreatDoorWit
set_option linter.unusedVariables false
set_option maxRecDepth 100000
namespace Go.Proofs.YtifkphfhadimaaaGreatDoor.Wit
open Go.RowKit
theorem vars1 (os : Os) : ((laidWorld os).forCall (fun _ _ => 0) ⟨#[], #[.int .i64 0], []⟩).variablesRefB Tryz.checked.prog = true := by kernel_rfl
end Go.Proofs.YtifkphfhadimaaaGreatDoor.Wit

