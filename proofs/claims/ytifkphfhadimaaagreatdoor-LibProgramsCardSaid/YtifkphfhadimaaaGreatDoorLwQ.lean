/- The model in which Parse of the sources is told by what was reckoned; laws of one number in it. -/
import Derived.Test.YtifkphfhadimaaaGreatDoorPa0
import Derived.Test.YtifkphfhadimaaaGreatDoorPa1
import Derived.Test.YtifkphfhadimaaaGreatDoorPa2
import Derived.Test.YtifkphfhadimaaaGreatDoorPa3
import Derived.Test.YtifkphfhadimaaaGreatDoorPa4
import Derived.Test.YtifkphfhadimaaaGreatDoorPa5
import Derived.Test.YtifkphfhadimaaaGreatDoorPa6
import Derived.Test.YtifkphfhadimaaaGreatDoorPa7
import Derived.Test.YtifkphfhadimaaaGreatDoorLwO
set_option linter.unusedVariables false
set_option maxRecDepth 100000
namespace Go.Proofs.YtifkphfhadimaaaGreatDoor.Mini
open Go.Abs
noncomputable def rawR : PrimsV := orPrims (objP [kPar0, kPar1, kPar2, kPar3, kPar4, kPar5, kPar6, kPar7, kPar8, kPar9, kPar10, kPar11, kPar12, kPar13, kPar14, kPar15, kPar16, kPar17, kPar18, kPar19, kPar20]) rawP
noncomputable def primsR : PrimsV := quick [24, 26, 36, 80, 128, 191, 192, 129, 130, 131, 82, 83, 81, 155, 176, 204, 61] rawR
noncomputable def KR : Model := ⟨fnOf tblN, primV primsR⟩
noncomputable def ER : EMod := ⟨fnOf (tblQ ++ newQ), primsR⟩
theorem eokR' : EOK KR ER := eok_quick (eokR_table goodsN (quick_sh _ _)) (by rw [tblN, List.map_append, tblQ_eq, newQ_eq])
theorem waysR {base : Nat} {w0 : World} {out : Prop} : WaysOK Tryz.prog base w0 out primsR := quick_ok (orPrims_ok (objP_ok fitsP _) (orPrims_ok (bucketP_ok fitsN _) rawN_ok))
theorem fitsR {base : Nat} {w0 : World} {out : Prop} : Fits Tryz.prog base w0 out KR := fits_ways mixed tblN tblN_ok _ waysR
theorem primsR_name (i : Int) : primsR 26 [.int .i64 i] = some (.flat (.str (nm (ix i)))) := by kernel_rfl
theorem nonameR : KR.fn 26 = none := by kernel_rfl
theorem name_swapR {k : Nat} (hk : k < 21) {w : Int} (hw : ix w = k) (Q : AV → Heap → Prop) (h : Heap) (hr : Runs KR (.call 26 [.int .i64 (k : Int)] Q) h) : Runs KR (.call 26 [.int .i64 w] Q) h := by
  cases hr with
  | call hF _ => rw [nonameR] at hF; cases hF
  | prim hp =>
    obtain ⟨v, h1, h2⟩ := hp
    rw [primsR_name, ix_self hk] at h1
    injection h1 with h1
    subst h1
    exact .prim ⟨_, primsR_name w, by rw [hw]; exact h2⟩
/-- A law of one number. -/
theorem lawR_ok {f : Nat} {F : MFunc} (hF : KR.fn f = some F) (hp : ∀ i, primsR f [.int .i64 i] = none) (I : List Nat) (h0 : I.contains 0 = true) (hb : F.body.skips I 26 = true) (hrs : F.results.all (resSkips I) = true)
    (hall : ∀ k : Nat, k < 21 → givesT (evE ER 100000 f [.int .i64 (k : Int)] 0 0 .leaf) (.flat (.bool true)) = true) {w : Int} {h : Heap} {P : AV → Heap → Prop} (hP : ∀ t, P (.bool true) t) : CallE KR f [.int .i64 w] h P := by
  have hk := ix_lt w
  intro Q hQ
  have run := callE_evE eokR' (by simp [AV.flats, AV.flat]) (hall (ix w) hk) (g := h) hP Q hQ
  exact swap_call hF (fun Q h hp' => by
    obtain ⟨v, h1, _⟩ := hp'
    rw [hp] at h1
    cases h1) h0 hb hrs (name_swapR hk rfl) run
end Go.Proofs.YtifkphfhadimaaaGreatDoor.Mini

