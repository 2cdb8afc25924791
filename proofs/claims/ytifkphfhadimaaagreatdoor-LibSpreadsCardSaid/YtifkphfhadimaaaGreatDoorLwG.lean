/- Layer 16: scripts among the arguments, opened. -/
import Derived.Test.YtifkphfhadimaaaGreatDoorLwF
import Derived.Test.YtifkphfhadimaaaGreatDoorAbsG8
import Derived.SizedLaws
set_option linter.unusedVariables false
set_option linter.unusedSimpArgs false
set_option maxRecDepth 100000
namespace Go.Proofs.YtifkphfhadimaaaGreatDoor.Mini
open Go.Abs Go.RowKit Go.ChangeShapes Go.WideShapes

section
variable {H : Type} {enc : TypeId × Value → H} {W : World}
end

end Go.Proofs.YtifkphfhadimaaaGreatDoor.Mini

