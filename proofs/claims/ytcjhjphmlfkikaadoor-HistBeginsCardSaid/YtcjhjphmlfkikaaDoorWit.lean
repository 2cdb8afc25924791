/- A world that holds what the rows list: for the rows' witnesses. -/
import Derived.Test.YtcjhjphmlfkikaaDoorRows
import Derived.WalkKit
import Derived.ProofKit
import Derived.OpenShut
import Derived.ShutString
import Derived.ChangeOld
import Derived.Below
import Derived.Deep.DeepHandedRow
import Derived.Deep.DeepWitnessRowRef
import Derived.Lib.LaidTab
set_option linter.unusedVariables false
set_option maxRecDepth 100000
namespace Go.Proofs.YtcjhjphmlfkikaaDoor.Wit
open Go.ChangeShapes Go.WideShapes Go.ChangeAt Go.RowKit
theorem own : ownKnob Tryd.prog.godebug = none := by kernel_rfl
def cellsD : DataW Unit → List Value
  | .lit (.int k n) => [.int k n]
  | .agg l => l.flatMap fun d => match d with
    | .lit (.int k n) => [.int k n]
    | .agg l => l.flatMap fun d => match d with
      | .lit (.int k n) => [.int k n]
      | _ => []
    | _ => []
  | _ => []
abbrev synS : ByteArray := { data := #[105, 110, 118, 97, 108, 105, 100, 32, 115, 121, 110, 116, 97, 120] }
abbrev rngS : ByteArray := { data := #[118, 97, 108, 117, 101, 32, 111, 117, 116, 32, 111, 102, 32, 114, 97, 110, 103, 101] }
noncomputable def low : Nat := (World.holding Tryd.prog default ⟨#[], #[], []⟩).heap.size
noncomputable def laidWorld (os : Os) : World :=
  let w0 := World.holding Tryd.prog os ⟨#[.cells #[.string synS] 152, .cells #[.string rngS] 152], #[], []⟩
  let put (h : Array Obj) (g : Nat) (cs : Array Value) : Array Obj := h.modify g fun
    | .cells _ t frozen => .cells cs t frozen
    | o => o
  let h1 := put w0.heap 3 (cellsD Rows.laid_internal_strconv_uint64pow10).toArray
  let h2 := put h1 4 (cellsD Rows.laid_unicode_utf8_first).toArray
  let h3 := put h2 5 (cellsD Rows.laid_unicode_utf8_acceptRanges).toArray
  let h4 := put h3 6 (cellsD Rows.laid_math_bits_deBruijn32tab).toArray
  let h5 := put h4 7 (cellsD Rows.laid_math_bits_deBruijn64tab).toArray
  let h6 := put h5 0 #[.iface 150 (.pointer (some ⟨low, 0, none⟩))]
  let h7 := put h6 1 #[.iface 150 (.pointer (some ⟨low + 1, 0, none⟩))]
  { w0 with heap := h7 }
def laidL : List (String × DataW Unit) := [("math/bits.deBruijn32tab", Rows.laid_math_bits_deBruijn32tab), ("math/bits.deBruijn64tab", Rows.laid_math_bits_deBruijn64tab), ("internal/strconv.uint64pow10", Rows.laid_internal_strconv_uint64pow10), ("unicode/utf8.acceptRanges", Rows.laid_unicode_utf8_acceptRanges), ("unicode/utf8.first", Rows.laid_unicode_utf8_first)]
theorem laid_met1 (os : Os) : laidMet Tryd.prog laidL ((laidWorld os).forCall (fun _ _ => 0) ⟨#[], #[.int .i64 0], []⟩).memory :=
  laidMet_of_run' 8 (by kernel_rfl) (by kernel_rfl)
example : Rows.histAheadRow.laid = laidL := rfl
end Go.Proofs.YtcjhjphmlfkikaaDoor.Wit

