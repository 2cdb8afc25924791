/- The abstract machine of this session, part 7: its texts one behind the other. -/
import Derived.Test.YtifkphfhadimaaaGreatDoorAbsG6
/- What runs in a model runs in a model that has more functions. -/
set_option linter.unusedVariables false
set_option linter.unusedSimpArgs false
namespace Go.Abs

/-- A run of operations that the hint says nothing of. -/
def rs : Nat → Hint → Hint
  | 0, h => h
  | n + 1, h => .op ⟨.raw, 0, true, 0⟩ (rs n h)

structure Model.le (M M' : Model) : Prop where
  fn : ∀ f F, M.fn f = some F → M'.fn f = some F
  prim : ∀ f args h Q, M.prim f args h Q → M'.prim f args h Q

end Go.Abs

