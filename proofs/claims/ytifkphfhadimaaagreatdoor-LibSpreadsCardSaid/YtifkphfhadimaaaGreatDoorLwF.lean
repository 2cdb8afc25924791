/- Layer 16: which scripts fit, by the reference; the law LibFits. -/
import Derived.Test.YtifkphfhadimaaaGreatDoorLwD
import Derived.Test.YtifkphfhadimaaaGreatDoorDecV
set_option linter.unusedVariables false
set_option linter.unusedSimpArgs false
set_option maxRecDepth 100000
namespace Go.Proofs.YtifkphfhadimaaaGreatDoor.Mini
open Go.Abs

def thrOf (k i : Nat) : Int := ((lrow k).calls.getD i ([], 0, 0)).2.2
/-! ### The two say the same -/
theorem by_all : ((List.range 21).all fun k => (List.range (lrow k).calls.length).all fun i => (List.range 4).all fun t => byV (nm k) t ((lrow k).calls.getD i ([], 0, 0)).1 == (decide ((t : Int) ≥ 0) && decide ((t : Int) < thrOf k i))) = true := by kernel_rfl
theorem row_total {ls : List (List Form)} {i : Nat} {l : List Form} (h : ls[i]? = some l) : l.length ≤ total ls := by
  unfold total
  induction ls generalizing i with
  | nil => simp at h
  | cons x r ih =>
    cases i with
    | zero =>
      simp at h
      subst h
      simp
    | succ i =>
      have := ih (by simpa using h)
      simp only [List.map_cons, List.sum_cons]
      omega
end Go.Proofs.YtifkphfhadimaaaGreatDoor.Mini

