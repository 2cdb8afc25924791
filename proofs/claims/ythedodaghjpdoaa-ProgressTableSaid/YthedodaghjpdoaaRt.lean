/- The statement ProgressTable: the law locklesslaw28.ProgressTable returns true at every three numbers, and leaves them as they were. Conditions: none beyond the given row's. -/
import Derived.Test.YthedodaghjpdoaaRows
import Derived.Test.YthedodaghjpdoaaPT
import Derived.WalkKit
import Derived.ProofKit
import Derived.OpenShut
import Derived.ShutString
import Derived.ChangeOld
import Derived.Below
import Derived.SizedLaws
import Derived.Lib.SmallJoins
set_option linter.unusedVariables false
namespace Go.Proofs.Ythedodaghjpdoaa.ProgressTable
open Go.ChangeShapes Go.WideShapes Go.ChangeAt Go.RowKit Go.Joins Go.Abs Kinds
theorem own : ownKnob Try.prog.godebug = none := by kernel_rfl
theorem mixed : Try.prog.follows .mixedOrders = true := by kernel_rfl
theorem name4 : (Try.f4.name == "runtime.NumGoroutine") = false := by kernel_rfl
theorem body4 : Try.f4.body.isSome = true := by kernel_rfl
theorem tbl_ok : ∀ p ∈ tbl, (modelOf Try.prog noPrim).fn p.1 = some p.2 := by
  simp only [tbl, List.mem_cons, List.not_mem_nil, or_false, forall_eq_or_imp, forall_eq]
  exact ⟨Mini.fn3, Mini.fn4, Mini.fn12, Mini.fn13, Mini.fn17, Mini.fn18, Mini.fn5, Mini.fn6, Mini.fn7, Mini.fn8, Mini.fn9, Mini.fn10, Mini.fn11, Mini.fn14, Mini.fn15, Mini.fn16, Mini.fn19, Mini.fn20, Mini.fn21, Mini.fn22, Mini.fn23, Mini.fn24⟩
theorem fits {base : Nat} {w0 : World} : Fits Try.prog base w0 False K := fits_table mixed tbl tbl_ok

set_option maxRecDepth 100000 in
theorem lifted (os : Os) (started : os.Started) (H : Type) (enc : TypeId × Value → H) :
    ReturnsInHanded {} Try.checked os 4 .any (Rows.progressTableSpec.pre6 enc Try.prog Try.f4 Rows.progressTableRow.domain false) (Rows.progressTableSpec.post enc Try.prog Try.f4 false true false false) := by
  refine returnsInHanded_of_change_sized (C := Try.checked) own started (by kernel_rfl) Try.func4
    (ChangeSpec.witness6 (enc := enc) (C := Try.checked) false ⟨#[], #[.int .i64 0, .int .i64 0, .int .i64 0], []⟩ 8 (by kernel_rfl) (by kernel_rfl) (by kernel_rfl) (by kernel_rfl)) ?_
  intro W base args ds gs before hval0 hW hcnd hsz0 _
  have hW' := hW
  obtain ⟨p, q, hA0, hV, rfl, hfz, hnd⟩ := hW
  have hA : DataW.TrodAll enc Try.prog W 0 (fun _ => true) true Try.f4.params.toList args.toList ds p := hA0
  have hval : ∀ (j : Nat) t v, Try.f4.params[j]? = some t → args[j]? = some v → Value.okWide Try.prog W .any base t v := hval0
  rw [Try.params4] at hA hval
  obtain ⟨v0, vs0, d0, ds0, p0, q0, hargs, rfl, rfl, h0, r0⟩ := trodAll_cons hA
  obtain ⟨v1, vs1, d1, ds1, p1, q1, rfl, rfl, rfl, h1, r1⟩ := trodAll_cons r0
  obtain ⟨v2, vs2, d2, ds2, p2, q2, rfl, rfl, rfl, h2, r2⟩ := trodAll_cons r1
  obtain ⟨rfl, rfl, rfl⟩ := trodAll_nil r2
  obtain rfl : args = #[v0, v1, v2] := by cases args; simp_all
  obtain ⟨rfl, rfl⟩ := trodVars_none hV
  obtain ⟨x, rfl, rfl, rfl, wx⟩ := open_int Try.underlying3 (hval 0 3 v0 rfl rfl) h0
  obtain ⟨y, rfl, rfl, rfl, wy⟩ := open_int Try.underlying3 (hval 1 3 v1 rfl rfl) h1
  obtain ⟨z, rfl, rfl, rfl, wz⟩ := open_int Try.underlying3 (hval 2 3 v2 rfl rfl) h2
  obtain ⟨c, hbody⟩ := Option.isSome_iff_exists.1 body4
  have hd : Runs K (.call 4 [.int .i64 x, .int .i64 y, .int .i64 z] fun v _ => v = .bool true) [] := pt_ok x y z (P := fun v _ => v = .bool true) (fun _ => rfl) _ fun v _ h => h
  refine (calls_of_runs (args := #[.int .i64 x, .int .i64 y, .int .i64 z]) fits Try.func4 name4 hbody hd ?_ (HR.start W)).mono fun e W' hh => ?_
  · simp [VRs, VR]
  · obtain ⟨v, h1, m', cv, rfl, rfl, _, hv, hk⟩ := hh
    simp only [VR] at hv
    subst hv
    have bel := hk.below
    exact ⟨_, rfl, _, _, _, [], _, [], hW', trodAll_mk1 (shut_bool Try.underlying4 _), trodAll_mk3 (shut_int Try.underlying3 wx) (shut_int Try.underlying3 wy) (shut_int Try.underlying3 wz), rfl, bel.frame _, fun h => by cases h⟩

theorem over : Rows.progressTableRow.holds Try.pinned (OpenSpec.ofChange Rows.progressTableSpec) :=
  OpenClaim.holds_of_wide 4 Try.f4 rfl rfl rfl rfl rfl rfl rfl ⟨rfl, rfl, rfl, rfl, rfl⟩ rfl rfl rfl rfl rfl (by kernel_rfl) Try.func4 (by kernel_rfl)
    (of_decide_eq_true (by kernel_rfl)) (by unfold Func.isWrapper; first | (rw [if_pos (by decide +kernel)]; kernel_rfl) | (rw [if_neg (by decide +kernel)]; exact ⟨rfl, rfl⟩))
    (fun os started H enc _ => lifted os started H enc)
end Go.Proofs.Ythedodaghjpdoaa.ProgressTable
namespace Go.Proofs.Ythedodaghjpdoaa
theorem progressTable_holds : Rows.ProgressTableSaid := ProgressTable.over
#print axioms progressTable_holds
end Go.Proofs.Ythedodaghjpdoaa
