import Derived.Test.YthedodaghjpdoaaRows
import Derived.Test.YthedodaghjpdoaaLaw
import Derived.WalkKit
import Derived.ProofKit
import Derived.OpenShut
import Derived.ShutString
import Derived.ChangeOld
import Derived.Below
import Derived.SizedLaws
import Derived.Lib.SmallJoins
set_option linter.unusedVariables false
namespace Go.Proofs.Ythedodaghjpdoaa.ProgressKinds
open Go.ChangeShapes Go.WideShapes Go.ChangeAt Go.RowKit Go.Joins Go.Abs Kinds
theorem own : ownKnob Try.prog.godebug = none := by kernel_rfl
theorem mixed : Try.prog.follows .mixedOrders = true := by kernel_rfl
theorem name3 : (Try.f3.name == "runtime.NumGoroutine") = false := by kernel_rfl
theorem body3 : Try.f3.body.isSome = true := by kernel_rfl
theorem cells23 : Try.prog.cellsOf 23 = 4 := by kernel_rfl
theorem tbl_ok : ∀ p ∈ tbl, (modelOf Try.prog noPrim).fn p.1 = some p.2 := by
  simp only [tbl, List.mem_cons, List.not_mem_nil, or_false, forall_eq_or_imp, forall_eq]
  exact ⟨Mini.fn3, Mini.fn5, Mini.fn6, Mini.fn7, Mini.fn8, Mini.fn9, Mini.fn10, Mini.fn11, Mini.fn14, Mini.fn15, Mini.fn16, Mini.fn19, Mini.fn20, Mini.fn21, Mini.fn22, Mini.fn23, Mini.fn24⟩
theorem fits {base : Nat} {w0 : World} : Fits Try.prog base w0 False K := fits_table mixed tbl tbl_ok

set_option maxRecDepth 100000 in
theorem lifted (os : Os) (started : os.Started) (H : Type) (enc : TypeId × Value → H) :
    ReturnsInHanded {} Try.checked os 3 .any (Rows.progressKindsSpec.pre6 enc Try.prog Try.f3 Rows.progressKindsRow.domain false) (Rows.progressKindsSpec.post enc Try.prog Try.f3 false true false false) := by
  refine returnsInHanded_of_change_sized (C := Try.checked) own started (by kernel_rfl) Try.func3
    (ChangeSpec.witness6 (enc := enc) (C := Try.checked) false ⟨#[], #[.agg #[.string ByteArray.empty, .string ByteArray.empty, .int .i64 0, .int .i64 0]], []⟩ 8 (by kernel_rfl) (by kernel_rfl) (by kernel_rfl) (by kernel_rfl)) ?_
  intro W base args ds gs before hval0 hW hcnd hsz0 _
  have hval : ∀ (j : Nat) t v, Try.f3.params[j]? = some t → args[j]? = some v → Value.okWide Try.prog W .any base t v := hval0
  have hW' := hW
  obtain ⟨p, q, hA0, hV, rfl, hfz, hnd⟩ := hW
  have hA : DataW.TrodAll enc Try.prog W 0 (fun _ => true) true Try.f3.params.toList args.toList ds p := hA0
  rw [Try.params3] at hA hval
  obtain ⟨v0, vs0, d0, ds0, p0, q0, hargs, rfl, rfl, h0, r0⟩ := trodAll_cons hA
  obtain ⟨rfl, rfl, rfl⟩ := trodAll_nil r0
  obtain rfl : args = #[v0] := by cases args; simp_all
  obtain ⟨rfl, rfl⟩ := trodVars_none hV
  obtain ⟨c0, c1, c2, c3, y0, y1, y2, y3, n, rfl, rfl, rfl, t0, t1, t2, t3⟩ := open_agg4 Try.underlying23 (by kernel_rfl) cells23 (hval 0 23 v0 rfl rfl) h0
  obtain ⟨s0, e0, rfl, l0⟩ := DataW.trod_string Try.underlying9 t0
  obtain ⟨s1, e1, rfl, l1⟩ := DataW.trod_string Try.underlying9 t1
  obtain ⟨x, e2, rfl, wx⟩ := DataW.trod_int Try.underlying3 t2
  obtain ⟨y, e3, rfl, wy⟩ := DataW.trod_int Try.underlying3 t3
  simp at e0 e1 e2 e3
  subst e0 e1 e2 e3
  have hs : ∀ s : ByteArray, (⟨s.data.toList.toArray⟩ : ByteArray) = s := fun s => by cases s; rfl
  obtain ⟨c, hbody⟩ := Option.isSome_iff_exists.1 body3
  obtain ⟨Hx, hd⟩ := walk s0.data.toList s1.data.toList x y
  refine (calls_of_runs (args := #[.agg #[.string s0, .string s1, .int .i64 x, .int .i64 y]]) fits Try.func3 name3 hbody (hd (fun v _ => v = .bool true) rfl) ?_ (HR.start W)).mono fun e W' hh => ?_
  · simp [VRs, VR, hs, isCell]
  · obtain ⟨v, h1, m', cv, rfl, rfl, _, hv, hk⟩ := hh
    simp only [VR] at hv
    subst hv
    have bel := hk.below
    have gs : ∀ s : ByteArray, s.size ≤ maxLen → ∃ n, DataW.trod enc Try.prog W' 0 (fun b => decide (b < W.heap.size)) true n 9 [.string s] = some (.lit (.string s.data.toList), []) := fun s l => ⟨1, by simp [DataW.trod, Try.underlying9, l]⟩
    have gi : ∀ z : Int, (Lit.int .i64 z).wf = true → ∃ n, DataW.trod enc Try.prog W' 0 (fun b => decide (b < W.heap.size)) true n 3 [.int .i64 z] = some (.lit (.int .i64 z), []) := fun z l => ⟨1, by simp [DataW.trod, Try.underlying3, l]⟩
    exact ⟨_, rfl, _, _, _, [], _, [], hW', trodAll_mk1 (shut_bool Try.underlying4 _), trodAll_mk1 (shut_agg4 Try.underlying23 (by kernel_rfl) cells23 (gs s0 l0) (gs s1 l1) (gi x wx) (gi y wy)), rfl, bel.frame _, fun h => by cases h⟩

theorem over : Rows.progressKindsRow.holds Try.pinned (OpenSpec.ofChange Rows.progressKindsSpec) :=
  OpenClaim.holds_of_wide 3 Try.f3 rfl rfl rfl rfl rfl rfl rfl ⟨rfl, rfl, rfl, rfl, rfl⟩ rfl rfl rfl rfl rfl (by kernel_rfl) Try.func3 (by kernel_rfl)
    (of_decide_eq_true (by kernel_rfl)) (by unfold Func.isWrapper; first | (rw [if_pos (by decide +kernel)]; kernel_rfl) | (rw [if_neg (by decide +kernel)]; exact ⟨rfl, rfl⟩))
    (fun os started H enc _ => lifted os started H enc)
end Go.Proofs.Ythedodaghjpdoaa.ProgressKinds
namespace Go.Proofs.Ythedodaghjpdoaa
theorem progressKinds_holds : Rows.ProgressKindsSaid := ProgressKinds.over
#print axioms progressKinds_holds
end Go.Proofs.Ythedodaghjpdoaa
