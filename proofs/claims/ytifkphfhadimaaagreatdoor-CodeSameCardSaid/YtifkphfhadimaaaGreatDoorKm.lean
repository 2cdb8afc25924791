import Derived.Test.YtifkphfhadimaaaGreatDoorIdx
import Derived.Test.YtifkphfhadimaaaGreatDoorTxt
set_option linter.unusedVariables false
set_option maxRecDepth 100000
namespace Go.Proofs.YtifkphfhadimaaaGreatDoor.Mini
open Go.Abs
noncomputable def primsQ : PrimsV := quick [155, 176, 204] (orPrims (natE2 204 176) prims1)
noncomputable def K1q : Model := ⟨fnOf tbl, primV primsQ⟩
noncomputable def tblQ : List (Nat × MFunc) := [(36, quickF F36 [0, 2]), (38, F38), (61, F61), (78, F78), (80, F80), (81, F81), (82, F82), (83, F83), (84, F84), (85, quickF F85 [0, 0]), (86, quickF F86 [0, 0]), (90, F90), (91, F91), (92, F92), (93, F93), (94, F94), (114, F114), (115, F115), (116, F116), (117, F117), (125, F125), (126, F126), (127, quickF F127 [0]), (128, quickF F128 [0]), (129, F129), (130, F130), (131, F131), (132, quickF F132 [0, 0, 0]), (133, F133), (134, F134), (146, F146), (150, F150), (151, F151), (152, F152), (153, F153), (154, quickF F154 [2]), (156, F156), (157, F157), (158, F158), (159, F159), (177, F177), (181, F181), (184, F184), (185, F185), (186, F186), (191, F191), (192, F192), (206, F206), (207, F207), (215, F215)]
theorem tblQ_eq : tblQ = tbl.map fun x => (x.1, relaxF x.2 []) := by kernel_rfl
noncomputable def E1q : EMod := ⟨fnOf tblQ, primsQ⟩
theorem eok1q : EOK K1q E1q := eok_quick (eokR_table goods1 (quick_sh _ _)) tblQ_eq
theorem ways204 {base : Nat} {w0 : World} {out : Prop} : WaysOK Tryz.prog base w0 out (natE2 204 176) := natE2_ok (prims_ok (by
  simp only [List.mem_cons, List.not_mem_nil, or_false, forall_eq_or_imp, forall_eq]
  exact ⟨⟨_, Tryz.func176, by kernel_rfl, by kernel_rfl, by kernel_rfl, by kernel_rfl⟩, ⟨_, Tryz.func204, by kernel_rfl, by kernel_rfl, by kernel_rfl, by kernel_rfl⟩⟩)) (by decide)
theorem ways1q {base : Nat} {w0 : World} {out : Prop} : WaysOK Tryz.prog base w0 out primsQ := quick_ok (orPrims_ok ways204 ways1)
theorem fits1q {base : Nat} {w0 : World} {out : Prop} : Fits Tryz.prog base w0 out K1q := fits_ways mixed tbl tbl_ok _ ways1q
end Go.Proofs.YtifkphfhadimaaaGreatDoor.Mini

