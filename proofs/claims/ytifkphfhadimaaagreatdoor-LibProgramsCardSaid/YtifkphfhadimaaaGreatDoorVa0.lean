/- Valid, reckoned at the instructions of some of the structures, part 1. -/
import Derived.Test.YtifkphfhadimaaaGreatDoorLwN
import Derived.Test.YtifkphfhadimaaaGreatDoorPg
set_option linter.unusedVariables false
set_option maxRecDepth 100000
namespace Go.Proofs.YtifkphfhadimaaaGreatDoor.Mini
open Go.Abs
def insD0 : List (List AV) := [pg0, pg1, pg2, pg3].flatMap insArgs
noncomputable def kVal0 : DomMemo KN := .ofE eokN 61 trueV insD0 (by kernel_rfl)
end Go.Proofs.YtifkphfhadimaaaGreatDoor.Mini
set_option linter.unusedVariables false
set_option maxRecDepth 100000
namespace Go.Proofs.YtifkphfhadimaaaGreatDoor.Mini
open Go.Abs
def insD1 : List (List AV) := [pg4, pg5, pg6].flatMap insArgs
noncomputable def kVal1 : DomMemo KN := .ofE eokN 61 trueV insD1 (by kernel_rfl)
end Go.Proofs.YtifkphfhadimaaaGreatDoor.Mini
set_option linter.unusedVariables false
set_option maxRecDepth 100000
namespace Go.Proofs.YtifkphfhadimaaaGreatDoor.Mini
open Go.Abs
def insD2 : List (List AV) := [pg7, pg8].flatMap insArgs
noncomputable def kVal2 : DomMemo KN := .ofE eokN 61 trueV insD2 (by kernel_rfl)
end Go.Proofs.YtifkphfhadimaaaGreatDoor.Mini
set_option linter.unusedVariables false
set_option maxRecDepth 100000
namespace Go.Proofs.YtifkphfhadimaaaGreatDoor.Mini
open Go.Abs
def insD3 : List (List AV) := [pg9, pg10].flatMap insArgs
noncomputable def kVal3 : DomMemo KN := .ofE eokN 61 trueV insD3 (by kernel_rfl)
end Go.Proofs.YtifkphfhadimaaaGreatDoor.Mini
