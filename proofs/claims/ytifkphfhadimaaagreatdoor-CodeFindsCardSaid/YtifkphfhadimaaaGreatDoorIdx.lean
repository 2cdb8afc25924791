import Derived.Test.YtifkphfhadimaaaGreatDoorMini
import Derived.Test.YtifkphfhadimaaaGreatDoorSh
import Derived.Test.YtifkphfhadimaaaGreatDoorAbsG6
set_option linter.unusedVariables false
set_option maxRecDepth 100000
namespace Go.Proofs.YtifkphfhadimaaaGreatDoor.Mini
open Go.Abs
noncomputable def tbl : List (Nat × MFunc) := [(36, F36), (38, F38), (61, F61), (78, F78), (80, F80), (81, F81), (82, F82), (83, F83), (84, F84), (85, F85), (86, F86), (90, F90), (91, F91), (92, F92), (93, F93), (94, F94), (114, F114), (115, F115), (116, F116), (117, F117), (125, F125), (126, F126), (127, F127), (128, F128), (129, F129), (130, F130), (131, F131), (132, F132), (133, F133), (134, F134), (146, F146), (150, F150), (151, F151), (152, F152), (153, F153), (154, F154), (156, F156), (157, F157), (158, F158), (159, F159), (177, F177), (181, F181), (184, F184), (185, F185), (186, F186), (191, F191), (192, F192), (206, F206), (207, F207), (215, F215)]
def natl : List (Nat × PK) := [(176, .countStr), (204, .indexByteStr)]
def prims1 : PrimsV := onFlat (orPrims (atoiP 155) (flatP (prims natl)))
noncomputable def K1 : Model := ⟨fnOf tbl, primV prims1⟩
noncomputable def E1 : EMod := ⟨fnR tbl [], prims1⟩
theorem goods1 : goodsR tbl [] = true := by kernel_rfl
theorem eok1 : EOK K1 E1 := eokR_table goods1 (onFlat_sh _)
theorem tbl_ok : ∀ p ∈ tbl, (modelOf Tryz.prog noPrim).fn p.1 = some p.2 := by
  simp only [tbl, List.mem_cons, List.not_mem_nil, or_false, forall_eq_or_imp, forall_eq]
  exact ⟨fn36, fn38, fn61, fn78, fn80, fn81, fn82, fn83, fn84, fn85, fn86, fn90, fn91, fn92, fn93, fn94, fn114, fn115, fn116, fn117, fn125, fn126, fn127, fn128, fn129, fn130, fn131, fn132, fn133, fn134, fn146, fn150, fn151, fn152, fn153, fn154, fn156, fn157, fn158, fn159, fn177, fn181, fn184, fn185, fn186, fn191, fn192, fn206, fn207, fn215⟩
theorem isfn155 : IsFn Tryz.prog 155 := by
  have h : Tryz.f155.body.isSome = true := by kernel_rfl
  obtain ⟨c, hc⟩ := Option.isSome_iff_exists.1 h
  exact ⟨Tryz.f155, c, Tryz.func155, by kernel_rfl, hc⟩
theorem ways1 {base : Nat} {w0 : World} {out : Prop} : WaysOK Tryz.prog base w0 out prims1 := by
  refine onFlat_ok (orPrims_ok (atoiP_ok ⟨isfn155, 5, fun s v w h1 h2 => Sh.strconv_Atoi_ok s h1 v h2 w⟩) (flatP_ok (prims_ok ?_)))
  simp only [natl, List.mem_cons, List.not_mem_nil, or_false, forall_eq_or_imp, forall_eq]
  exact ⟨⟨_, Tryz.func176, by kernel_rfl, by kernel_rfl, by kernel_rfl, by kernel_rfl⟩, ⟨_, Tryz.func204, by kernel_rfl, by kernel_rfl, by kernel_rfl, by kernel_rfl⟩⟩
theorem mixed : Tryz.prog.follows .mixedOrders = true := by kernel_rfl
end Go.Proofs.YtifkphfhadimaaaGreatDoor.Mini

