/- Valid, reckoned at the instructions of some of the structures, part 5. -/
import Derived.Test.YtifkphfhadimaaaGreatDoorLwN
import Derived.Test.YtifkphfhadimaaaGreatDoorPg
set_option linter.unusedVariables false
set_option maxRecDepth 100000
namespace Go.Proofs.YtifkphfhadimaaaGreatDoor.Mini
open Go.Abs
def insD4 : List (List AV) := [pg11, pg12, pg13, pg14].flatMap insArgs
noncomputable def kVal4 : DomMemo KN := .ofE eokN 61 trueV insD4 (by kernel_rfl)
end Go.Proofs.YtifkphfhadimaaaGreatDoor.Mini
set_option linter.unusedVariables false
set_option maxRecDepth 100000
namespace Go.Proofs.YtifkphfhadimaaaGreatDoor.Mini
open Go.Abs
def insD5 : List (List AV) := [pg15, pg17, pg19, pg20].flatMap insArgs
noncomputable def kVal5 : DomMemo KN := .ofE eokN 61 trueV insD5 (by kernel_rfl)
end Go.Proofs.YtifkphfhadimaaaGreatDoor.Mini
set_option linter.unusedVariables false
set_option maxRecDepth 100000
namespace Go.Proofs.YtifkphfhadimaaaGreatDoor.Mini
open Go.Abs
def insD6 : List (List AV) := [pg16].flatMap insArgs
noncomputable def kVal6 : DomMemo KN := .ofE eokN 61 trueV insD6 (by kernel_rfl)
end Go.Proofs.YtifkphfhadimaaaGreatDoor.Mini
set_option linter.unusedVariables false
set_option maxRecDepth 100000
namespace Go.Proofs.YtifkphfhadimaaaGreatDoor.Mini
open Go.Abs
def insD7 : List (List AV) := [pg18].flatMap insArgs
noncomputable def kVal7 : DomMemo KN := .ofE eokN 61 trueV insD7 (by kernel_rfl)
end Go.Proofs.YtifkphfhadimaaaGreatDoor.Mini
