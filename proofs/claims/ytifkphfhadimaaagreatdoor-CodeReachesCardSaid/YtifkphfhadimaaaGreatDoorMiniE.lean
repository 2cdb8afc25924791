import Derived.Test.YtifkphfhadimaaaGreatDoorMini
import Derived.KernelRfl
set_option linter.unusedVariables false
set_option maxRecDepth 100000
namespace Go.Proofs.YtifkphfhadimaaaGreatDoor.Mini
open Go.Abs
end Go.Proofs.YtifkphfhadimaaaGreatDoor.Mini

