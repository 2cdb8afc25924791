/- The statement LibPrograms: the law returns true at every number, and leaves it as it was. Conditions: none beyond the given row's (its listed variables start as the program's text lays them). -/
import Derived.Test.YtifkphfhadimaaaGreatDoorPrA
import Derived.Test.YtifkphfhadimaaaGreatDoorHead
import Derived.Test.YtifkphfhadimaaaGreatDoorWitB
import Derived.Test.YtifkphfhadimaaaGreatDoorWitC
import Derived.Test.YtifkphfhadimaaaGreatDoorWitD
import Derived.Test.YtifkphfhadimaaaGreatDoorCards
import Derived.Test.YtifkphfhadimaaaGreatDoorTie
import Derived.SizedLaws
import Derived.Lib.SmallJoins
set_option linter.unusedVariables false
set_option maxRecDepth 100000
namespace Go.Proofs.YtifkphfhadimaaaGreatDoor.LibPrograms
open Go.ChangeShapes Go.WideShapes Go.ChangeAt Go.RowKit Go.Joins Go.Abs Mini
theorem name8 : (Tryz.f8.name == "runtime.NumGoroutine") = false := by kernel_rfl
theorem body8 : Tryz.f8.body.isSome = true := by kernel_rfl
theorem contract (H : Type) (enc : TypeId × Value → H) (W : World) (base : Nat) (args : Array Value) (ds gs : List (DataW H)) (before : List MemPlace)
    (hval : ∀ (j : Nat) t v, Tryz.f8.params[j]? = some t → args[j]? = some v → Value.okWide Tryz.prog W .any base t v)
    (hW : DataW.Whole enc Tryz.prog Tryz.f8.params.toList Rows.libProgramsSpec.vars false W args.toList ds gs before) :
    Calls Tryz.prog 8 args W fun e W' => ∃ v, e = .returned v ∧ Rows.libProgramsSpec.post enc Tryz.prog Tryz.f8 false true false false W args v W' := by
  have hW' := hW
  obtain ⟨p, q, hA0, hV, rfl, hfz, hnd⟩ := hW
  have hA : DataW.TrodAll enc Tryz.prog W 0 (fun _ => true) true Tryz.f8.params.toList args.toList ds p := hA0
  rw [Tryz.params8] at hA hval
  obtain ⟨v0, vs0, d0, ds0, p0, q0, hargs, rfl, rfl, h0, r0⟩ := trodAll_cons hA
  obtain ⟨rfl, rfl, rfl⟩ := trodAll_nil r0
  obtain rfl : args = #[v0] := by cases args; simp_all
  obtain ⟨rfl, rfl⟩ := trodVars_none hV
  obtain ⟨x, rfl, rfl, rfl, wx⟩ := open_int Tryz.underlying3 (hval 0 3 v0 rfl rfl) h0
  clear hA0
  obtain ⟨c, hbody⟩ := Option.isSome_iff_exists.1 body8
  have hd : Runs KR (.call 8 [.int .i64 x] fun v _ => v = .bool true) [] := libPrograms_ok (w := x) (P := fun v _ => v = .bool true) (fun _ => rfl) _ fun v _ h => h
  refine (calls_of_runs (args := #[.int .i64 x]) fitsR Tryz.func8 name8 hbody hd ?_ (HR.start W)).mono fun e W' hh => ?_
  · simp [VRs, VR]
  · obtain ⟨v, h1, m', cv, rfl, rfl, _, hv, hk⟩ := hh
    simp only [VR] at hv
    subst hv
    have bel := hk.below
    exact ⟨_, rfl, _, _, _, [], _, [], hW', trodAll_mk1 (shut_bool Tryz.underlying4 _), trodAll_mk1 (shut_int Tryz.underlying3 wx), rfl, bel.frame _, fun h => by cases h⟩

theorem reads (os : Os) {H : Type} (enc : TypeId × Value → H) : ∃ places, DataW.whole enc Tryz.prog ((Wit.laidWorld os).forCall (fun _ _ => 0) ⟨#[], #[.int .i64 0], []⟩).memory Tryz.f8.params.toList Rows.libProgramsSpec.vars false #[Value.int .i64 0].toList 8 = some ([.lit (.int .i64 0)], [], places) :=
  ⟨[], by kernel_rfl⟩

theorem okw (os : Os) : Input.okWideB Tryz.prog ((Wit.laidWorld os).forCall (fun _ _ => 0) ⟨#[], #[.int .i64 0], []⟩) 8 ⟨#[], #[.int .i64 0], []⟩ = true := by kernel_rfl
theorem prer (os : Os) {H : Type} (enc : TypeId × Value → H) : (OpenSpec.ofChange Rows.libProgramsSpec).preRow enc Tryz.prog Tryz.f8 Rows.libProgramsRow.domain false Rows.libProgramsRow.laid ((Wit.laidWorld os).forCall (fun _ _ => 0) ⟨#[], #[.int .i64 0], []⟩).memory #[.int .i64 0] := by
  obtain ⟨places, hx⟩ := reads os enc
  exact OpenSpec.preRow_of_cond 8 hx (by kernel_rfl) (fun k hk => by cases hk) (by kernel_rfl) (Wit.laid_met1 os)
theorem lifted (os : Os) (started : os.Started) (H : Type) (enc : TypeId × Value → H) (F : Stop.Interp) :
    ReturnsInHanded {} Tryz.checked os 8 .any ((OpenSpec.ofChange Rows.libProgramsSpec).preRow enc Tryz.prog Tryz.f8 Rows.libProgramsRow.domain false Rows.libProgramsRow.laid) (((OpenSpec.ofChange Rows.libProgramsSpec).at F).post enc Tryz.prog Tryz.f8 false true false false) := by
  refine returnsInHanded_of_row (C := Tryz.checked) (s := OpenSpec.ofChange Rows.libProgramsSpec) Wit.own started (by kernel_rfl) Tryz.func8
    (witness_row_atRef (enc := enc) (C := Tryz.checked) false (Wit.laidWorld os) #[.int .i64 0] rfl (Wit.vars1 os) (Wit.rest1 os) (okw os) (prer os enc)) ?_
  intro W base args ds gs before hval hW _ _ _ hL _ _
  exact contract H enc W base args ds gs before hval hW

theorem k10 : (Rows.libProgramsRow.inPlace == Tryz.prog.inPlace 8) = true := by kernel_rfl
theorem k11 : (Rows.libProgramsRow.unfollowed == Tryz.prog.unfollowed 8) = true := by kernel_rfl
theorem k12 : (Rows.libProgramsRow.recurses == Tryz.prog.recurses 8) = true := by kernel_rfl
theorem k13 : (Rows.libProgramsRow.named == Tryz.prog.varsNamed 8) = true := by kernel_rfl
theorem k1 : Rows.libProgramsRow.wf (OpenSpec.ofChange (OpenSpec.ofChange Rows.libProgramsSpec).bare) = true := by kernel_rfl
theorem closed : joinedFacts Tryz.pinned.checked.prog 8 Tryz.f8 (OpenSpec.ofChange Rows.libProgramsSpec).bare Rows.libProgramsRow = true := by
  unfold joinedFacts
  simp only [Bool.and_eq_true]
  refine ⟨⟨⟨⟨⟨⟨⟨⟨⟨⟨⟨⟨⟨⟨⟨⟨⟨⟨⟨⟨⟨⟨⟨⟨⟨⟨⟨⟨⟨⟨⟨k1, ?_⟩, ?_⟩, ?_⟩, ?_⟩, ?_⟩, ?_⟩, ?_⟩, ?_⟩, k10⟩, k11⟩, k12⟩, k13⟩, ?_⟩, ?_⟩, ?_⟩, ?_⟩, ?_⟩, ?_⟩, ?_⟩, ?_⟩, ?_⟩, ?_⟩, ?_⟩, ?_⟩, Head.mayEnter⟩, (congrArg (Rows.libProgramsRow.lifted == ·) Head.lifts).trans (by kernel_rfl)⟩, (congrArg (· == some Rows.libProgramsRow.make) Head.make).trans (by kernel_rfl)⟩, ?_⟩, ?_⟩, ?_⟩, ?_⟩ <;> kernel_rfl
theorem hinst : Tryz.f8.isInstance Tryz.pinned.checked.prog Rows.libProgramsRow.origin Rows.libProgramsRow.targs := of_decide_eq_true (by kernel_rfl)
theorem hwrap : Tryz.f8.isWrapper Tryz.pinned.checked.prog Rows.libProgramsRow.wrapper Rows.libProgramsRow.mainSum := by
  unfold Func.isWrapper
  rw [if_neg (by decide +kernel)]
  exact ⟨rfl, rfl⟩
theorem said : Rows.LibProgramsSaid :=
  OpenClaim.holds_of_cond 8 Tryz.f8 rfl rfl rfl rfl rfl rfl rfl ⟨rfl, rfl, rfl, rfl, rfl⟩ rfl rfl rfl rfl rfl (by kernel_rfl) Tryz.func8 closed hinst hwrap
    (fun os started H enc _ F => by rw [OpenClaim.pre_eq_preRow]; exact lifted os started H enc F)

theorem plain (f : FuncId) (fn : Func) (hf : Tryz.pinned.checked.prog.funcNamed Rows.libProgramsRow.func = some f) (hfn : Tryz.pinned.checked.prog.funcs[f]? = some fn) :
    true = Tryz.pinned.checked.prog.looks [] ∧ ∀ (j : Nat) t, fn.params[j]? = some t → Tryz.pinned.checked.prog.wantsStandIn t = false := by
  obtain rfl : f = 8 := Option.some.inj ((show Tryz.prog.funcNamed Rows.libProgramsRow.func = some 8 by kernel_rfl).symm.trans hf) |>.symm
  obtain rfl : fn = Tryz.f8 := (Option.some.inj (Tryz.func8.symm.trans hfn)).symm
  refine ⟨Wit.looks1, fun j t ht => ?_⟩
  rw [Tryz.params8] at ht
  obtain rfl : t = 3 := by simpa using Array.mem_of_getElem? ht
  exact (show Tryz.prog.wantsStandIn 3 = false by kernel_rfl)

theorem hw : Rows.libProgramsRow.wfByText (OpenSpec.ofChange Rows.libProgramsSpec) = true := by kernel_rfl
theorem hg : false = Rows.libProgramsRow.goesBy Tryz.pinned.checked.prog := by kernel_rfl
theorem hm : Tryz.pinned.checked.prog.mainIs = some (Rows.libProgramsCard.stood.harness.1, Rows.libProgramsCard.stood.harness.2.toList) := Head.mainIs.trans (congrArg (fun s => some (true, s)) Head.sum_io.symm)
theorem card : Rows.LibProgramsCardSaid :=
  Claim7.holds_tied_plain_at .later [] _ _ _ _ said (fun _ h => by cases h) hw (fun _ h => by cases h) libPrograms_row_tie rfl ⟨rfl, rfl⟩ hm rfl plain hg
end Go.Proofs.YtifkphfhadimaaaGreatDoor.LibPrograms
namespace Go.Proofs.YtifkphfhadimaaaGreatDoor
theorem libPrograms_holds : Rows.LibProgramsCardSaid := LibPrograms.card
#print axioms libPrograms_holds
end Go.Proofs.YtifkphfhadimaaaGreatDoor

