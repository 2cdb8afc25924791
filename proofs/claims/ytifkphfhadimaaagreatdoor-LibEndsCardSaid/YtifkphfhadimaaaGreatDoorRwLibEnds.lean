/- The statement LibEnds: the law returns true at all arguments, and leaves them as they were. Conditions: none beyond the given row's (its listed variables start as the program's text lays them). -/
import Derived.Test.YtifkphfhadimaaaGreatDoorLwE
import Derived.Test.YtifkphfhadimaaaGreatDoorHead
import Derived.Test.YtifkphfhadimaaaGreatDoorWit
import Derived.Test.YtifkphfhadimaaaGreatDoorWitD
import Derived.Test.YtifkphfhadimaaaGreatDoorCards
import Derived.Test.YtifkphfhadimaaaGreatDoorTie
import Derived.SizedLaws
import Derived.ChangeMaps5
import Derived.Lib.SmallJoins
set_option linter.unusedVariables false
set_option linter.unusedSimpArgs false
set_option maxRecDepth 100000
namespace Go.Proofs.YtifkphfhadimaaaGreatDoor.LibEnds
open Go.ChangeShapes Go.WideShapes Go.ChangeAt Go.RowKit Go.Joins Go.Abs Mini
theorem name13 : (Tryz.f13.name == "runtime.NumGoroutine") = false := by kernel_rfl
theorem body13 : Tryz.f13.body.isSome = true := by kernel_rfl
theorem contract (H : Type) (enc : TypeId × Value → H) (W : World) (base : Nat) (args : Array Value) (ds gs : List (DataW H)) (before : List MemPlace)
    (hval : ∀ (j : Nat) t v, Tryz.f13.params[j]? = some t → args[j]? = some v → Value.okWide Tryz.prog W .any base t v)
    (hsz : (DataW.weightsEach Tryz.prog (Tryz.f13.params.toList ++ (OpenSpec.ofChange Rows.libEndsSpec).bare.plain.varTypes Tryz.prog) (ds ++ gs)).all (· ≤ reachBytes) = true)
    (hW : DataW.Whole enc Tryz.prog Tryz.f13.params.toList Rows.libEndsSpec.vars false W args.toList ds gs before) :
    Calls Tryz.prog 13 args W fun e W' => ∃ v, e = .returned v ∧ Rows.libEndsSpec.post enc Tryz.prog Tryz.f13 false true false false W args v W' := by
  have hW' := hW
  obtain ⟨p, q, hA0, hV, rfl, hfz, hnd⟩ := hW
  have hA : DataW.TrodAll enc Tryz.prog W 0 (fun _ => true) true Tryz.f13.params.toList args.toList ds p := hA0
  rw [Tryz.params13] at hA hval hsz
  obtain ⟨v0, vs0, d0, ds0, p0, q0, hargs, rfl, rfl, h0, r0⟩ := trodAll_cons hA
  obtain ⟨v1, vs1, d1, ds1, p1, q1, rfl, rfl, rfl, h1, r1⟩ := trodAll_cons r0
  obtain ⟨rfl, rfl, rfl⟩ := trodAll_nil r1
  obtain rfl : args = #[v0, v1] := by cases args; simp_all
  obtain ⟨rfl, rfl⟩ := trodVars_none hV
  obtain ⟨x0, rfl, rfl, rfl, w0⟩ := open_int Tryz.underlying3 (hval 0 3 v0 rfl rfl) h0
  obtain ⟨x1, rfl, rfl, rfl, w1⟩ := open_int Tryz.underlying3 (hval 1 3 v1 rfl rfl) h1
  clear hA0
  obtain ⟨c, hbody⟩ := Option.isSome_iff_exists.1 body13
  have hs : ∀ s : ByteArray, (⟨s.data.toList.toArray⟩ : ByteArray) = s := fun s => by cases s; rfl
  have hd : Runs K5 (.call 13 [.int .i64 x0, .int .i64 x1] fun v _ => v = .bool true) [] := libEnds_ok (P := fun v _ => v = .bool true) (fun _ => rfl) _ fun v _ h => h
  refine (calls_of_runs (args := #[.int .i64 x0, .int .i64 x1]) fits5 Tryz.func13 name13 hbody hd ?_ (HR.start W)).mono fun e W' hh => ?_
  · simp [VRs, VR, hs]
  · obtain ⟨v, h1, m', cv, rfl, rfl, _, hv, hk⟩ := hh
    simp only [VR] at hv
    subst hv
    have bel := hk.below
    exact ⟨_, rfl, _, _, _, [], _, [], hW', trodAll_mk1 (shut_bool Tryz.underlying4 _), trodAll_mk2 (shut_int Tryz.underlying3 w0) (shut_int Tryz.underlying3 w1), rfl, bel.frame _, fun h => by cases h⟩

theorem reads (os : Os) {H : Type} (enc : TypeId × Value → H) : ∃ places, DataW.whole enc Tryz.prog ((Wit.laidWorld os).forCall (fun _ _ => 0) ⟨#[], #[.int .i64 0, .int .i64 0], []⟩).memory Tryz.f13.params.toList Rows.libEndsSpec.vars false (#[.int .i64 0, .int .i64 0] : Array Value).toList 8 = some ([.lit (.int .i64 0), .lit (.int .i64 0)], [], places) :=
  ⟨[], by kernel_rfl⟩

theorem vars1 (os : Os) : ((Wit.laidWorld os).forCall (fun _ _ => 0) ⟨#[], #[.int .i64 0, .int .i64 0], []⟩).variablesRefB Tryz.checked.prog = true := by kernel_rfl
theorem rest1 (os : Os) : (((Wit.laidWorld os).forCall (fun _ _ => 0) ⟨#[], #[.int .i64 0, .int .i64 0], []⟩).heap.toList.drop Tryz.checked.prog.globals.size).take ((begin Tryz.checked.prog (fun _ _ => 0) default).world.heap.size - Tryz.checked.prog.globals.size) =
      (begin Tryz.checked.prog (fun _ _ => 0) default).world.heap.toList.drop Tryz.checked.prog.globals.size := by kernel_rfl
theorem met1 (os : Os) : laidMet Tryz.prog Wit.laidL ((Wit.laidWorld os).forCall (fun _ _ => 0) ⟨#[], #[.int .i64 0, .int .i64 0], []⟩).memory := Wit.laid_met1 os
theorem okw (os : Os) : Input.okWideB Tryz.prog ((Wit.laidWorld os).forCall (fun _ _ => 0) ⟨#[], #[.int .i64 0, .int .i64 0], []⟩) 13 ⟨#[], #[.int .i64 0, .int .i64 0], []⟩ = true := by kernel_rfl
theorem prer (os : Os) {H : Type} (enc : TypeId × Value → H) : (OpenSpec.ofChange Rows.libEndsSpec).preRow enc Tryz.prog Tryz.f13 Rows.libEndsRow.domain false Rows.libEndsRow.laid ((Wit.laidWorld os).forCall (fun _ _ => 0) ⟨#[], #[.int .i64 0, .int .i64 0], []⟩).memory #[.int .i64 0, .int .i64 0] := by
  obtain ⟨places, hx⟩ := reads os enc
  exact OpenSpec.preRow_of_cond 8 hx (by kernel_rfl) (fun k hk => by cases hk) (by kernel_rfl) (met1 os)
theorem lifted (os : Os) (started : os.Started) (H : Type) (enc : TypeId × Value → H) (F : Stop.Interp) :
    ReturnsInHanded {} Tryz.checked os 13 .any ((OpenSpec.ofChange Rows.libEndsSpec).preRow enc Tryz.prog Tryz.f13 Rows.libEndsRow.domain false Rows.libEndsRow.laid) (((OpenSpec.ofChange Rows.libEndsSpec).at F).post enc Tryz.prog Tryz.f13 false true false false) := by
  refine returnsInHanded_of_row (C := Tryz.checked) (s := OpenSpec.ofChange Rows.libEndsSpec) Wit.own started (by kernel_rfl) Tryz.func13
    (witness_row_atRef (enc := enc) (C := Tryz.checked) false (Wit.laidWorld os) #[.int .i64 0, .int .i64 0] rfl (vars1 os) (rest1 os) (okw os) (prer os enc)) ?_
  intro W base args ds gs before hval hW _ _ hsz hL _ _
  exact contract H enc W base args ds gs before hval hsz hW

theorem k10 : (Rows.libEndsRow.inPlace == Tryz.prog.inPlace 13) = true := by kernel_rfl
theorem k11 : (Rows.libEndsRow.unfollowed == Tryz.prog.unfollowed 13) = true := by kernel_rfl
theorem k12 : (Rows.libEndsRow.recurses == Tryz.prog.recurses 13) = true := by kernel_rfl
theorem k13 : (Rows.libEndsRow.named == Tryz.prog.varsNamed 13) = true := by kernel_rfl
theorem k1 : Rows.libEndsRow.wf (OpenSpec.ofChange (OpenSpec.ofChange Rows.libEndsSpec).bare) = true := by kernel_rfl
theorem closed : joinedFacts Tryz.pinned.checked.prog 13 Tryz.f13 (OpenSpec.ofChange Rows.libEndsSpec).bare Rows.libEndsRow = true := by
  unfold joinedFacts
  simp only [Bool.and_eq_true]
  refine ⟨⟨⟨⟨⟨⟨⟨⟨⟨⟨⟨⟨⟨⟨⟨⟨⟨⟨⟨⟨⟨⟨⟨⟨⟨⟨⟨⟨⟨⟨⟨k1, ?_⟩, ?_⟩, ?_⟩, ?_⟩, ?_⟩, ?_⟩, ?_⟩, ?_⟩, k10⟩, k11⟩, k12⟩, k13⟩, ?_⟩, ?_⟩, ?_⟩, ?_⟩, ?_⟩, ?_⟩, ?_⟩, ?_⟩, ?_⟩, ?_⟩, ?_⟩, ?_⟩, Head.mayEnter⟩, (congrArg (Rows.libEndsRow.lifted == ·) Head.lifts).trans (by kernel_rfl)⟩, (congrArg (· == some Rows.libEndsRow.make) Head.make).trans (by kernel_rfl)⟩, ?_⟩, ?_⟩, ?_⟩, ?_⟩ <;> kernel_rfl
theorem hinst : Tryz.f13.isInstance Tryz.pinned.checked.prog Rows.libEndsRow.origin Rows.libEndsRow.targs := of_decide_eq_true (by kernel_rfl)
theorem hwrap : Tryz.f13.isWrapper Tryz.pinned.checked.prog Rows.libEndsRow.wrapper Rows.libEndsRow.mainSum := by
  unfold Func.isWrapper
  rw [if_neg (by decide +kernel)]
  exact ⟨rfl, rfl⟩
theorem said : Rows.LibEndsSaid :=
  OpenClaim.holds_of_cond 13 Tryz.f13 rfl rfl rfl rfl rfl rfl rfl ⟨rfl, rfl, rfl, rfl, rfl⟩ rfl rfl rfl rfl rfl (by kernel_rfl) Tryz.func13 closed hinst hwrap
    (fun os started H enc _ F => by rw [OpenClaim.pre_eq_preRow]; exact lifted os started H enc F)

theorem plain (f : FuncId) (fn : Func) (hf : Tryz.pinned.checked.prog.funcNamed Rows.libEndsRow.func = some f) (hfn : Tryz.pinned.checked.prog.funcs[f]? = some fn) :
    true = Tryz.pinned.checked.prog.looks [] ∧ ∀ (j : Nat) t, fn.params[j]? = some t → Tryz.pinned.checked.prog.wantsStandIn t = false := by
  obtain rfl : f = 13 := Option.some.inj ((show Tryz.prog.funcNamed Rows.libEndsRow.func = some 13 by kernel_rfl).symm.trans hf) |>.symm
  obtain rfl : fn = Tryz.f13 := (Option.some.inj (Tryz.func13.symm.trans hfn)).symm
  refine ⟨Wit.looks1, fun j t ht => ?_⟩
  rw [Tryz.params13] at ht
  have hm := Array.mem_of_getElem? ht
  simp at hm
  subst hm
  exact (show Tryz.prog.wantsStandIn 3 = false by kernel_rfl)

theorem hw : Rows.libEndsRow.wfByText (OpenSpec.ofChange Rows.libEndsSpec) = true := by kernel_rfl
theorem hg : false = Rows.libEndsRow.goesBy Tryz.pinned.checked.prog := by kernel_rfl
theorem hm : Tryz.pinned.checked.prog.mainIs = some (Rows.libEndsCard.stood.harness.1, Rows.libEndsCard.stood.harness.2.toList) := Head.mainIs.trans (congrArg (fun s => some (true, s)) Head.sum_io.symm)
theorem card : Rows.LibEndsCardSaid :=
  Claim7.holds_tied_plain_at .later [] _ _ _ _ said (fun _ h => by cases h) hw (fun _ h => by cases h) libEnds_row_tie rfl ⟨rfl, rfl⟩ hm rfl plain hg
end Go.Proofs.YtifkphfhadimaaaGreatDoor.LibEnds
namespace Go.Proofs.YtifkphfhadimaaaGreatDoor
theorem libEnds_holds : Rows.LibEndsCardSaid := LibEnds.card
#print axioms libEnds_holds
end Go.Proofs.YtifkphfhadimaaaGreatDoor
