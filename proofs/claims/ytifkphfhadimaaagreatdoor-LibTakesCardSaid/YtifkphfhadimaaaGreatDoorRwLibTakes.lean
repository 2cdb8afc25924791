/- The statement LibTakes: the law returns true at all arguments, and leaves them as they were. Conditions: none beyond the given row's (its listed variables start as the program's text lays them). -/
import Derived.Test.YtifkphfhadimaaaGreatDoorLwC
import Derived.Test.YtifkphfhadimaaaGreatDoorHead
import Derived.Test.YtifkphfhadimaaaGreatDoorWit
import Derived.Test.YtifkphfhadimaaaGreatDoorWitD
import Derived.Test.YtifkphfhadimaaaGreatDoorCards
import Derived.Test.YtifkphfhadimaaaGreatDoorTie
import Derived.SizedLaws
import Derived.ChangeMaps5
import Derived.Lib.SmallJoins
set_option linter.unusedVariables false
set_option maxRecDepth 100000
namespace Go.Proofs.YtifkphfhadimaaaGreatDoor.LibTakes
open Go.ChangeShapes Go.WideShapes Go.ChangeAt Go.RowKit Go.Joins Go.Abs Mini
theorem name6 : (Tryz.f6.name == "runtime.NumGoroutine") = false := by kernel_rfl
theorem body6 : Tryz.f6.body.isSome = true := by kernel_rfl
theorem contract (H : Type) (enc : TypeId × Value → H) (W : World) (base : Nat) (args : Array Value) (ds gs : List (DataW H)) (before : List MemPlace)
    (hval : ∀ (j : Nat) t v, Tryz.f6.params[j]? = some t → args[j]? = some v → Value.okWide Tryz.prog W .any base t v)
    (hsz : (DataW.weightsEach Tryz.prog (Tryz.f6.params.toList ++ (OpenSpec.ofChange Rows.libTakesSpec).bare.plain.varTypes Tryz.prog) (ds ++ gs)).all (· ≤ reachBytes) = true)
    (hW : DataW.Whole enc Tryz.prog Tryz.f6.params.toList Rows.libTakesSpec.vars false W args.toList ds gs before) :
    Calls Tryz.prog 6 args W fun e W' => ∃ v, e = .returned v ∧ Rows.libTakesSpec.post enc Tryz.prog Tryz.f6 false true false false W args v W' := by
  have hW' := hW
  obtain ⟨p, q, hA0, hV, rfl, hfz, hnd⟩ := hW
  have hA : DataW.TrodAll enc Tryz.prog W 0 (fun _ => true) true Tryz.f6.params.toList args.toList ds p := hA0
  rw [Tryz.params6] at hA hval hsz
  obtain ⟨v0, vs0, d0, ds0, p0, q0, hargs, rfl, rfl, h0, r0⟩ := trodAll_cons hA
  obtain ⟨v1, vs1, d1, ds1, p1, q1, rfl, rfl, rfl, h1, r1⟩ := trodAll_cons r0
  obtain ⟨rfl, rfl, rfl⟩ := trodAll_nil r1
  obtain rfl : args = #[v0, v1] := by cases args; simp_all
  obtain ⟨rfl, rfl⟩ := trodVars_none hV
  obtain ⟨x0, rfl, rfl, rfl, w0⟩ := open_int Tryz.underlying3 (hval 0 3 v0 rfl rfl) h0
  obtain ⟨x1, rfl, rfl, rfl, w1⟩ := Go.ChangeMaps.open_string Tryz.underlying9 (hval 1 9 v1 rfl rfl) h1
  clear hA0
  obtain ⟨c, hbody⟩ := Option.isSome_iff_exists.1 body6
  have b1 : x1.data.toList.length ≤ 140737488355328 := by
    have h1 := sized_string hsz (j := 1) (t := 9) rfl rfl
    have h2 := reachBytes_lt
    have e3 : (2 : Nat) ^ 47 = 140737488355328 := by decide
    simp only [Array.length_toList] at h1 ⊢
    omega
  have hs : ∀ s : ByteArray, (⟨s.data.toList.toArray⟩ : ByteArray) = s := fun s => by cases s; rfl
  have hd : Runs K4 (.call 6 [.int .i64 x0, .str x1.data.toList] fun v _ => v = .bool true) [] := libTakes_ok b1 (P := fun v _ => v = .bool true) (fun _ => rfl) _ fun v _ h => h
  refine (calls_of_runs (args := #[.int .i64 x0, .string x1]) fits4 Tryz.func6 name6 hbody hd ?_ (HR.start W)).mono fun e W' hh => ?_
  · simp [VRs, VR, hs]
  · obtain ⟨v, h1, m', cv, rfl, rfl, _, hv, hk⟩ := hh
    simp only [VR] at hv
    subst hv
    have bel := hk.below
    exact ⟨_, rfl, _, _, _, [], _, [], hW', trodAll_mk1 (shut_bool Tryz.underlying4 _), trodAll_mk2 (shut_int Tryz.underlying3 w0) (Go.ChangeMaps.shut_string Tryz.underlying9 w1), rfl, bel.frame _, fun h => by cases h⟩

theorem reads (os : Os) {H : Type} (enc : TypeId × Value → H) : ∃ places, DataW.whole enc Tryz.prog ((Wit.laidWorld os).forCall (fun _ _ => 0) ⟨#[], #[.int .i64 0, .string ByteArray.empty], []⟩).memory Tryz.f6.params.toList Rows.libTakesSpec.vars false (#[.int .i64 0, .string ByteArray.empty] : Array Value).toList 8 = some ([.lit (.int .i64 0), .lit (.string [])], [], places) :=
  ⟨[], by kernel_rfl⟩

theorem vars1 (os : Os) : ((Wit.laidWorld os).forCall (fun _ _ => 0) ⟨#[], #[.int .i64 0, .string ByteArray.empty], []⟩).variablesRefB Tryz.checked.prog = true := by kernel_rfl
theorem rest1 (os : Os) : (((Wit.laidWorld os).forCall (fun _ _ => 0) ⟨#[], #[.int .i64 0, .string ByteArray.empty], []⟩).heap.toList.drop Tryz.checked.prog.globals.size).take ((begin Tryz.checked.prog (fun _ _ => 0) default).world.heap.size - Tryz.checked.prog.globals.size) =
      (begin Tryz.checked.prog (fun _ _ => 0) default).world.heap.toList.drop Tryz.checked.prog.globals.size := by kernel_rfl
theorem met1 (os : Os) : laidMet Tryz.prog Wit.laidL ((Wit.laidWorld os).forCall (fun _ _ => 0) ⟨#[], #[.int .i64 0, .string ByteArray.empty], []⟩).memory := Wit.laid_met1 os
theorem okw (os : Os) : Input.okWideB Tryz.prog ((Wit.laidWorld os).forCall (fun _ _ => 0) ⟨#[], #[.int .i64 0, .string ByteArray.empty], []⟩) 6 ⟨#[], #[.int .i64 0, .string ByteArray.empty], []⟩ = true := by kernel_rfl
theorem prer (os : Os) {H : Type} (enc : TypeId × Value → H) : (OpenSpec.ofChange Rows.libTakesSpec).preRow enc Tryz.prog Tryz.f6 Rows.libTakesRow.domain false Rows.libTakesRow.laid ((Wit.laidWorld os).forCall (fun _ _ => 0) ⟨#[], #[.int .i64 0, .string ByteArray.empty], []⟩).memory #[.int .i64 0, .string ByteArray.empty] := by
  obtain ⟨places, hx⟩ := reads os enc
  exact OpenSpec.preRow_of_cond 8 hx (by kernel_rfl) (fun k hk => by cases hk) (by kernel_rfl) (met1 os)
theorem lifted (os : Os) (started : os.Started) (H : Type) (enc : TypeId × Value → H) (F : Stop.Interp) :
    ReturnsInHanded {} Tryz.checked os 6 .any ((OpenSpec.ofChange Rows.libTakesSpec).preRow enc Tryz.prog Tryz.f6 Rows.libTakesRow.domain false Rows.libTakesRow.laid) (((OpenSpec.ofChange Rows.libTakesSpec).at F).post enc Tryz.prog Tryz.f6 false true false false) := by
  refine returnsInHanded_of_row (C := Tryz.checked) (s := OpenSpec.ofChange Rows.libTakesSpec) Wit.own started (by kernel_rfl) Tryz.func6
    (witness_row_atRef (enc := enc) (C := Tryz.checked) false (Wit.laidWorld os) #[.int .i64 0, .string ByteArray.empty] rfl (vars1 os) (rest1 os) (okw os) (prer os enc)) ?_
  intro W base args ds gs before hval hW _ _ hsz hL _ _
  exact contract H enc W base args ds gs before hval hsz hW

theorem k10 : (Rows.libTakesRow.inPlace == Tryz.prog.inPlace 6) = true := by kernel_rfl
theorem k11 : (Rows.libTakesRow.unfollowed == Tryz.prog.unfollowed 6) = true := by kernel_rfl
theorem k12 : (Rows.libTakesRow.recurses == Tryz.prog.recurses 6) = true := by kernel_rfl
theorem k13 : (Rows.libTakesRow.named == Tryz.prog.varsNamed 6) = true := by kernel_rfl
theorem k1 : Rows.libTakesRow.wf (OpenSpec.ofChange (OpenSpec.ofChange Rows.libTakesSpec).bare) = true := by kernel_rfl
theorem closed : joinedFacts Tryz.pinned.checked.prog 6 Tryz.f6 (OpenSpec.ofChange Rows.libTakesSpec).bare Rows.libTakesRow = true := by
  unfold joinedFacts
  simp only [Bool.and_eq_true]
  refine ⟨⟨⟨⟨⟨⟨⟨⟨⟨⟨⟨⟨⟨⟨⟨⟨⟨⟨⟨⟨⟨⟨⟨⟨⟨⟨⟨⟨⟨⟨⟨k1, ?_⟩, ?_⟩, ?_⟩, ?_⟩, ?_⟩, ?_⟩, ?_⟩, ?_⟩, k10⟩, k11⟩, k12⟩, k13⟩, ?_⟩, ?_⟩, ?_⟩, ?_⟩, ?_⟩, ?_⟩, ?_⟩, ?_⟩, ?_⟩, ?_⟩, ?_⟩, ?_⟩, Head.mayEnter⟩, (congrArg (Rows.libTakesRow.lifted == ·) Head.lifts).trans (by kernel_rfl)⟩, (congrArg (· == some Rows.libTakesRow.make) Head.make).trans (by kernel_rfl)⟩, ?_⟩, ?_⟩, ?_⟩, ?_⟩ <;> kernel_rfl
theorem hinst : Tryz.f6.isInstance Tryz.pinned.checked.prog Rows.libTakesRow.origin Rows.libTakesRow.targs := of_decide_eq_true (by kernel_rfl)
theorem hwrap : Tryz.f6.isWrapper Tryz.pinned.checked.prog Rows.libTakesRow.wrapper Rows.libTakesRow.mainSum := by
  unfold Func.isWrapper
  rw [if_neg (by decide +kernel)]
  exact ⟨rfl, rfl⟩
theorem said : Rows.LibTakesSaid :=
  OpenClaim.holds_of_cond 6 Tryz.f6 rfl rfl rfl rfl rfl rfl rfl ⟨rfl, rfl, rfl, rfl, rfl⟩ rfl rfl rfl rfl rfl (by kernel_rfl) Tryz.func6 closed hinst hwrap
    (fun os started H enc _ F => by rw [OpenClaim.pre_eq_preRow]; exact lifted os started H enc F)

theorem plain (f : FuncId) (fn : Func) (hf : Tryz.pinned.checked.prog.funcNamed Rows.libTakesRow.func = some f) (hfn : Tryz.pinned.checked.prog.funcs[f]? = some fn) :
    true = Tryz.pinned.checked.prog.looks [] ∧ ∀ (j : Nat) t, fn.params[j]? = some t → Tryz.pinned.checked.prog.wantsStandIn t = false := by
  obtain rfl : f = 6 := Option.some.inj ((show Tryz.prog.funcNamed Rows.libTakesRow.func = some 6 by kernel_rfl).symm.trans hf) |>.symm
  obtain rfl : fn = Tryz.f6 := (Option.some.inj (Tryz.func6.symm.trans hfn)).symm
  refine ⟨Wit.looks1, fun j t ht => ?_⟩
  rw [Tryz.params6] at ht
  have hm := Array.mem_of_getElem? ht
  simp at hm
  rcases hm with rfl | rfl
  all_goals first | exact (show Tryz.prog.wantsStandIn 3 = false by kernel_rfl) | exact (show Tryz.prog.wantsStandIn 9 = false by kernel_rfl)

theorem hw : Rows.libTakesRow.wfByText (OpenSpec.ofChange Rows.libTakesSpec) = true := by kernel_rfl
theorem hg : false = Rows.libTakesRow.goesBy Tryz.pinned.checked.prog := by kernel_rfl
theorem hm : Tryz.pinned.checked.prog.mainIs = some (Rows.libTakesCard.stood.harness.1, Rows.libTakesCard.stood.harness.2.toList) := Head.mainIs.trans (congrArg (fun s => some (true, s)) Head.sum_io.symm)
theorem card : Rows.LibTakesCardSaid :=
  Claim7.holds_tied_plain_at .later [] _ _ _ _ said (fun _ h => by cases h) hw (fun _ h => by cases h) libTakes_row_tie rfl ⟨rfl, rfl⟩ hm rfl plain hg
end Go.Proofs.YtifkphfhadimaaaGreatDoor.LibTakes
namespace Go.Proofs.YtifkphfhadimaaaGreatDoor
theorem libTakes_holds : Rows.LibTakesCardSaid := LibTakes.card
#print axioms libTakes_holds
end Go.Proofs.YtifkphfhadimaaaGreatDoor
