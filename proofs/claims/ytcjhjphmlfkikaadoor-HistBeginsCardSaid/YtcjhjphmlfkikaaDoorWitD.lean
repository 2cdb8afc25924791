/- The program's looks. -/
import Derived.Test.YtcjhjphmlfkikaaDoorCards
import Derived.Test.YtcjhjphmlfkikaaDoorWit
set_option linter.unusedVariables false
set_option maxRecDepth 100000
namespace Go.Proofs.YtcjhjphmlfkikaaDoor.Wit
theorem looks1 : true = Tryd.pinned.checked.prog.looks [] := by kernel_rfl
end Go.Proofs.YtcjhjphmlfkikaaDoor.Wit

