/- The fixed example of layer 16 runs, and is true. -/
import Derived.Test.YtifkphfhadimaaaGreatDoorMemoA
set_option linter.unusedVariables false
set_option maxRecDepth 100000
namespace Go.Proofs.YtifkphfhadimaaaGreatDoor.Mini
open Go.Abs
noncomputable def prims2 : PrimsV := onFlat (orPrims (memoP memosa) prims1)
noncomputable def K2 : Model := ⟨fnOf tbl, primV prims2⟩
noncomputable def E2 : EMod := ⟨fnR tbl [], prims2⟩
theorem eok2 : EOK K2 E2 := eokR_table goods1 (onFlat_sh _)
theorem ways2 {base : Nat} {w0 : World} {out : Prop} : WaysOK Tryz.prog base w0 out prims2 := onFlat_ok (orPrims_ok (memoP_ok fits1 _) ways1)
theorem fits2 {base : Nat} {w0 : World} {out : Prop} : Fits Tryz.prog base w0 out K2 := fits_ways mixed tbl tbl_ok _ ways2
theorem awake_gives : gives (evF E2 100000 (.call 24 []) 0 0 []) (.flat (.bool true)) = true := by kernel_rfl
end Go.Proofs.YtifkphfhadimaaaGreatDoor.Mini

