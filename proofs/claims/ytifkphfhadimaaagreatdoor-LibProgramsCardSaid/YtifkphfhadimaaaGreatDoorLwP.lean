/- The model in which Valid is told by what was reckoned. -/
import Derived.Test.YtifkphfhadimaaaGreatDoorVa0
import Derived.Test.YtifkphfhadimaaaGreatDoorVa4
set_option linter.unusedVariables false
set_option maxRecDepth 100000
namespace Go.Proofs.YtifkphfhadimaaaGreatDoor.Mini
open Go.Abs
noncomputable def kVal : DomMemo KN := (((((((kVal0).app kVal1 rfl rfl).app kVal2 rfl rfl).app kVal3 rfl rfl).app kVal4 rfl rfl).app kVal5 rfl rfl).app kVal6 rfl rfl).app kVal7 rfl rfl
noncomputable def rawP : PrimsV := orPrims (bucketP kVal) rawN
noncomputable def primsP : PrimsV := quick [24, 26, 80, 128, 191, 192, 129, 130, 131, 82, 83, 81, 155, 176, 204, 61] rawP
noncomputable def KP : Model := ⟨fnOf tblN, primV primsP⟩
noncomputable def EP : EMod := ⟨fnOf (tblQ ++ newQ), primsP⟩
theorem eokP : EOK KP EP := eok_quick (eokR_table goodsN (quick_sh _ _)) (by rw [tblN, List.map_append, tblQ_eq, newQ_eq])
theorem rawN_ok {base : Nat} {w0 : World} {out : Prop} : WaysOK Tryz.prog base w0 out rawN := orPrims_ok awakeP_ok (orPrims_ok nameP_ok (orPrims_ok (keyP_ok fits1q _) (orPrims_ok (memoP_ok fitsA _) (orPrims_ok ways204 ways1))))
theorem waysP {base : Nat} {w0 : World} {out : Prop} : WaysOK Tryz.prog base w0 out primsP := quick_ok (orPrims_ok (bucketP_ok fitsN _) rawN_ok)
theorem fitsP {base : Nat} {w0 : World} {out : Prop} : Fits Tryz.prog base w0 out KP := fits_ways mixed tblN tblN_ok _ waysP
/-- Parse of a source, reckoned. -/
noncomputable def ObjMemo.parse (p : List UInt8 × Int × List Rout) (s : List UInt8) (h : givesO (evE EP 100000 36 [.str s] 0 0 .leaf) (progV p) (progL p) (basesR (evE EP 100000 36 [.str s] 0 0 .leaf)) = true) : ObjMemo KP := ⟨36, [.str s], progV p, progL p, memo_objs eokP (by simp [AV.flats, AV.flat]) h⟩
end Go.Proofs.YtifkphfhadimaaaGreatDoor.Mini

