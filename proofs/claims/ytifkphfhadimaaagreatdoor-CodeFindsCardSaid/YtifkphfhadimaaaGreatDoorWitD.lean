/- The program's looks. -/
import Derived.Test.YtifkphfhadimaaaGreatDoorCards
import Derived.Test.YtifkphfhadimaaaGreatDoorWit
set_option linter.unusedVariables false
set_option maxRecDepth 100000
namespace Go.Proofs.YtifkphfhadimaaaGreatDoor.Wit
theorem looks1 : true = Tryz.pinned.checked.prog.looks [] := by kernel_rfl
end Go.Proofs.YtifkphfhadimaaaGreatDoor.Wit

