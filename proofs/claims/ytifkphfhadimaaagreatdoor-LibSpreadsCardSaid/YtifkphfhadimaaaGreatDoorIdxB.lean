/- The table with the laws of layer 16; the example as a prim. -/
import Derived.Test.YtifkphfhadimaaaGreatDoorAwake
import Derived.Test.YtifkphfhadimaaaGreatDoorMiniB
set_option linter.unusedVariables false
set_option maxRecDepth 100000
namespace Go.Proofs.YtifkphfhadimaaaGreatDoor.Mini
open Go.Abs
noncomputable def mAwake : Memo K2 := ⟨24, [], .flat (.bool true), memo_runs eok2 100000 (by kernel_rfl) awake_gives⟩
noncomputable def tblB : List (Nat × MFunc) := tbl ++ [(4, F4), (5, F5), (6, F6), (10, F10), (11, F11), (26, F26), (27, F27), (28, F28), (29, F29), (30, F30 src30), (31, F31), (32, F32), (33, F33), (34, F34), (41, F41), (42, F42), (43, F43), (44, F44), (45, F45), (76, F76), (77, F77)]
theorem tblB_ok : ∀ p ∈ tblB, (modelOf Tryz.prog noPrim).fn p.1 = some p.2 := by
  intro p hp
  rcases List.mem_append.1 hp with hp | hp
  · exact tbl_ok p hp
  · have : ∀ p ∈ [(4, F4), (5, F5), (6, F6), (10, F10), (11, F11), (26, F26), (27, F27), (28, F28), (29, F29), (30, F30 src30), (31, F31), (32, F32), (33, F33), (34, F34), (41, F41), (42, F42), (43, F43), (44, F44), (45, F45), (76, F76), (77, F77)], (modelOf Tryz.prog noPrim).fn p.1 = some p.2 := by
      simp only [List.mem_cons, List.not_mem_nil, or_false, forall_eq_or_imp, forall_eq]
      exact ⟨fn4, fn5, fn6, fn10, fn11, fn26, fn27, fn28, fn29, fn30, fn31, fn32, fn33, fn34, fn41, fn42, fn43, fn44, fn45, fn76, fn77⟩
    exact this p hp
noncomputable def prims3 : PrimsV := onFlat (orPrims (memoP [mAwake]) prims2)
noncomputable def K3 : Model := ⟨fnOf tblB, primV prims3⟩
noncomputable def E3 : EMod := ⟨fnR tblB [], prims3⟩
theorem goods3 : goodsR tblB [] = true := by kernel_rfl
theorem eok3 : EOK K3 E3 := eokR_table goods3 (onFlat_sh _)
theorem ways3 {base : Nat} {w0 : World} {out : Prop} : WaysOK Tryz.prog base w0 out prims3 := onFlat_ok (orPrims_ok (memoP_ok fits2 _) ways2)
theorem fits3 {base : Nat} {w0 : World} {out : Prop} : Fits Tryz.prog base w0 out K3 := fits_ways mixed tblB tblB_ok _ ways3
end Go.Proofs.YtifkphfhadimaaaGreatDoor.Mini

