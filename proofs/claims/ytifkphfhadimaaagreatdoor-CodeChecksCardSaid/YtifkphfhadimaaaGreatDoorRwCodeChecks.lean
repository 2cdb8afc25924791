/- The statement CodeChecks: the law returns true at all arguments, and leaves them as they were. Conditions: none beyond the given row's (its listed variables start as the program's text lays them). -/
import Derived.Test.YtifkphfhadimaaaGreatDoorCeE
import Derived.Test.YtifkphfhadimaaaGreatDoorHead
import Derived.Test.YtifkphfhadimaaaGreatDoorWit
import Derived.Test.YtifkphfhadimaaaGreatDoorWitD
import Derived.Test.YtifkphfhadimaaaGreatDoorCards
import Derived.Test.YtifkphfhadimaaaGreatDoorTie
import Derived.SizedLaws
import Derived.ChangeMaps5
import Derived.Carry
import Derived.ChangeOld
import Derived.Lib.SmallJoins
set_option linter.unusedVariables false
set_option linter.unusedSimpArgs false
set_option maxRecDepth 100000
namespace Go.Proofs.YtifkphfhadimaaaGreatDoor.CodeChecks
open Go.ChangeShapes Go.WideShapes Go.ChangeAt Go.RowKit Go.Joins Go.Abs Mini
theorem name20 : (Tryz.f20.name == "runtime.NumGoroutine") = false := by kernel_rfl
theorem body20 : Tryz.f20.body.isSome = true := by kernel_rfl
theorem laidOut : laidOutB Tryz.prog = true := by kernel_rfl
theorem first : ((begin Tryz.prog (fun _ _ => 0) default).world.heap[0]?.bind Obj.row?).isSome = true := by kernel_rfl
theorem some0 : decide (0 < Tryz.prog.globals.size) = true := by kernel_rfl
theorem heap_cells {W : World} (h : W.ShapedOpen Tryz.prog) : ∃ (g : Nat) (cc : Array Value) (ty : TypeId) (fr : Nat × Nat), W.heap[g]? = some (.cells cc ty fr) := by
  obtain ⟨⟨z, t⟩, hz⟩ := Option.isSome_iff_exists.1 first
  obtain ⟨cs, h1, _⟩ := h.1 0 z t (of_decide_eq_true some0) hz
  exact ⟨0, cs, t, _, h1⟩
theorem contract (H : Type) (enc : TypeId × Value → H) (W : World) (base : Nat) (args : Array Value) (ds gs : List (DataW H)) (before : List MemPlace)
    (hval : ∀ (j : Nat) t v, Tryz.f20.params[j]? = some t → args[j]? = some v → Value.okWide Tryz.prog W .any base t v)
    (hsz : (DataW.weightsEach Tryz.prog (Tryz.f20.params.toList ++ (OpenSpec.ofChange Rows.codeChecksSpec).bare.plain.varTypes Tryz.prog) (ds ++ gs)).all (· ≤ reachBytes) = true)
    (hcl : ∃ (g : Nat) (cc : Array Value) (ty : TypeId) (fr : Nat × Nat), W.heap[g]? = some (.cells cc ty fr))
    (hW : DataW.Whole enc Tryz.prog Tryz.f20.params.toList Rows.codeChecksSpec.vars false W args.toList ds gs before) :
    Calls Tryz.prog 20 args W fun e W' => ∃ v, e = .returned v ∧ Rows.codeChecksSpec.post enc Tryz.prog Tryz.f20 false true false false W args v W' := by
  have hW' := hW
  obtain ⟨p, q, hA0, hV, rfl, hfz, hnd⟩ := hW
  have hA : DataW.TrodAll enc Tryz.prog W 0 (fun _ => true) true Tryz.f20.params.toList args.toList ds p := hA0
  rw [Tryz.params20] at hA hval hsz
  obtain ⟨v0, vs0, d0, ds0, p0, q0, hargs, rfl, rfl, h0, r0⟩ := trodAll_cons hA
  obtain ⟨v1, vs1, d1, ds1, p1, q1, rfl, rfl, rfl, h1, r1⟩ := trodAll_cons r0
  obtain ⟨rfl, rfl, rfl⟩ := trodAll_nil r1
  obtain rfl : args = #[v0, v1] := by cases args; simp_all
  obtain ⟨rfl, rfl⟩ := trodVars_none hV
  obtain ⟨m0, t0, s0, q0', le0, hk0, hv0, hp0, hs0⟩ := prog_arg (h := []) (HR.start W) hcl (hval 0 25 v0 rfl rfl) h0 (fun n hn => by have := List.all_eq_true.1 hsz n (DataW.weights_mem_each (j := 0) (t := 25) rfl rfl n hn); simpa using this)
  have lt0 : ∀ x ∈ p0, x.block < W.heap.size := DataW.TrodAll.lt (trodAll_mk1 h0)
  obtain ⟨x1, rfl, rfl, rfl, w1⟩ := open_int Tryz.underlying3 (hval 1 3 v1 rfl rfl) h1
  clear hA0
  obtain ⟨c, hbody⟩ := Option.isSome_iff_exists.1 body20
  have hs : ∀ s : ByteArray, (⟨s.data.toList.toArray⟩ : ByteArray) = s := fun s => by cases s; rfl
  have hd : Runs KD (.call 20 [.agg [.str q0'.1, .int .i64 q0'.2.1, s0.av], .int .i64 x1] fun v _ => v = .bool true) ([] ++ t0) := codeChecks_ok hp0 hs0 (P := fun v _ => v = .bool true) (fun _ => rfl) _ fun v _ h => h
  refine (calls_of_runs (args := #[v0, .int .i64 x1]) fitsD Tryz.func20 name20 hbody hd ?_ hk0).mono fun e W' hh => ?_
  · refine ⟨_, _, rfl, hv0, _, _, rfl, ?_, rfl⟩
    all_goals simp [VR, hs]
  · obtain ⟨v, hp1, m', cv, rfl, rfl, _, hv, hk⟩ := hh
    simp only [VR] at hv
    subst hv
    have bel := hk.below
    exact ⟨_, rfl, _, _, _, [], _, [], hW', trodAll_mk1 (shut_bool Tryz.underlying4 _), trodAll_mk2 (Below.trod laidOut (by kernel_rfl) (of_decide_eq_true (by kernel_rfl)) h0 bel lt0) (shut_int Tryz.underlying3 w1), rfl, bel.frame _, fun h => by cases h⟩

theorem reads (os : Os) {H : Type} (enc : TypeId × Value → H) : ∃ places, DataW.whole enc Tryz.prog ((Wit.laidWorld os).forCall (fun _ _ => 0) ⟨#[], #[.agg #[.string ByteArray.empty, .int .i64 0, .slice none 0 0], .int .i64 0], []⟩).memory Tryz.f20.params.toList Rows.codeChecksSpec.vars false (#[.agg #[.string ByteArray.empty, .int .i64 0, .slice none 0 0], .int .i64 0] : Array Value).toList 8 = some ([.agg [.lit (.string []), .lit (.int .i64 0), .nil], .lit (.int .i64 0)], [], places) :=
  ⟨[], by kernel_rfl⟩

theorem vars1 (os : Os) : ((Wit.laidWorld os).forCall (fun _ _ => 0) ⟨#[], #[.agg #[.string ByteArray.empty, .int .i64 0, .slice none 0 0], .int .i64 0], []⟩).variablesRefB Tryz.checked.prog = true := by kernel_rfl
theorem rest1 (os : Os) : (((Wit.laidWorld os).forCall (fun _ _ => 0) ⟨#[], #[.agg #[.string ByteArray.empty, .int .i64 0, .slice none 0 0], .int .i64 0], []⟩).heap.toList.drop Tryz.checked.prog.globals.size).take ((begin Tryz.checked.prog (fun _ _ => 0) default).world.heap.size - Tryz.checked.prog.globals.size) =
      (begin Tryz.checked.prog (fun _ _ => 0) default).world.heap.toList.drop Tryz.checked.prog.globals.size := by kernel_rfl
theorem met1 (os : Os) : laidMet Tryz.prog Wit.laidL ((Wit.laidWorld os).forCall (fun _ _ => 0) ⟨#[], #[.agg #[.string ByteArray.empty, .int .i64 0, .slice none 0 0], .int .i64 0], []⟩).memory := Wit.laid_met1 os
theorem okw (os : Os) : Input.okWideB Tryz.prog ((Wit.laidWorld os).forCall (fun _ _ => 0) ⟨#[], #[.agg #[.string ByteArray.empty, .int .i64 0, .slice none 0 0], .int .i64 0], []⟩) 20 ⟨#[], #[.agg #[.string ByteArray.empty, .int .i64 0, .slice none 0 0], .int .i64 0], []⟩ = true := by kernel_rfl
theorem prer (os : Os) {H : Type} (enc : TypeId × Value → H) : (OpenSpec.ofChange Rows.codeChecksSpec).preRow enc Tryz.prog Tryz.f20 Rows.codeChecksRow.domain false Rows.codeChecksRow.laid ((Wit.laidWorld os).forCall (fun _ _ => 0) ⟨#[], #[.agg #[.string ByteArray.empty, .int .i64 0, .slice none 0 0], .int .i64 0], []⟩).memory #[.agg #[.string ByteArray.empty, .int .i64 0, .slice none 0 0], .int .i64 0] := by
  obtain ⟨places, hx⟩ := reads os enc
  exact OpenSpec.preRow_of_cond 8 hx (by kernel_rfl) (fun k hk => by cases hk) (by kernel_rfl) (met1 os)
theorem lifted (os : Os) (started : os.Started) (H : Type) (enc : TypeId × Value → H) (F : Stop.Interp) :
    ReturnsInHanded {} Tryz.checked os 20 .any ((OpenSpec.ofChange Rows.codeChecksSpec).preRow enc Tryz.prog Tryz.f20 Rows.codeChecksRow.domain false Rows.codeChecksRow.laid) (((OpenSpec.ofChange Rows.codeChecksSpec).at F).post enc Tryz.prog Tryz.f20 false true false false) := by
  refine returnsInHanded_of_row (C := Tryz.checked) (s := OpenSpec.ofChange Rows.codeChecksSpec) Wit.own started (by kernel_rfl) Tryz.func20
    (witness_row_atRef (enc := enc) (C := Tryz.checked) false (Wit.laidWorld os) #[.agg #[.string ByteArray.empty, .int .i64 0, .slice none 0 0], .int .i64 0] rfl (vars1 os) (rest1 os) (okw os) (prer os enc)) ?_
  intro W base args ds gs before hval hW _ _ hsz hL hsh _
  exact contract H enc W base args ds gs before hval hsz (heap_cells hsh) hW

theorem k10 : (Rows.codeChecksRow.inPlace == Tryz.prog.inPlace 20) = true := by kernel_rfl
theorem k11 : (Rows.codeChecksRow.unfollowed == Tryz.prog.unfollowed 20) = true := by kernel_rfl
theorem k12 : (Rows.codeChecksRow.recurses == Tryz.prog.recurses 20) = true := by kernel_rfl
theorem k13 : (Rows.codeChecksRow.named == Tryz.prog.varsNamed 20) = true := by kernel_rfl
theorem k1 : Rows.codeChecksRow.wf (OpenSpec.ofChange (OpenSpec.ofChange Rows.codeChecksSpec).bare) = true := by kernel_rfl
theorem closed : joinedFacts Tryz.pinned.checked.prog 20 Tryz.f20 (OpenSpec.ofChange Rows.codeChecksSpec).bare Rows.codeChecksRow = true := by
  unfold joinedFacts
  simp only [Bool.and_eq_true]
  refine ⟨⟨⟨⟨⟨⟨⟨⟨⟨⟨⟨⟨⟨⟨⟨⟨⟨⟨⟨⟨⟨⟨⟨⟨⟨⟨⟨⟨⟨⟨⟨k1, ?_⟩, ?_⟩, ?_⟩, ?_⟩, ?_⟩, ?_⟩, ?_⟩, ?_⟩, k10⟩, k11⟩, k12⟩, k13⟩, ?_⟩, ?_⟩, ?_⟩, ?_⟩, ?_⟩, ?_⟩, ?_⟩, ?_⟩, ?_⟩, ?_⟩, ?_⟩, ?_⟩, Head.mayEnter⟩, (congrArg (Rows.codeChecksRow.lifted == ·) Head.lifts).trans (by kernel_rfl)⟩, (congrArg (· == some Rows.codeChecksRow.make) Head.make).trans (by kernel_rfl)⟩, ?_⟩, ?_⟩, ?_⟩, ?_⟩ <;> kernel_rfl
theorem hinst : Tryz.f20.isInstance Tryz.pinned.checked.prog Rows.codeChecksRow.origin Rows.codeChecksRow.targs := of_decide_eq_true (by kernel_rfl)
theorem hwrap : Tryz.f20.isWrapper Tryz.pinned.checked.prog Rows.codeChecksRow.wrapper Rows.codeChecksRow.mainSum := by
  unfold Func.isWrapper
  rw [if_neg (by decide +kernel)]
  exact ⟨rfl, rfl⟩
theorem said : Rows.CodeChecksSaid :=
  OpenClaim.holds_of_cond 20 Tryz.f20 rfl rfl rfl rfl rfl rfl rfl ⟨rfl, rfl, rfl, rfl, rfl⟩ rfl rfl rfl rfl rfl (by kernel_rfl) Tryz.func20 closed hinst hwrap
    (fun os started H enc _ F => by rw [OpenClaim.pre_eq_preRow]; exact lifted os started H enc F)

theorem plain (f : FuncId) (fn : Func) (hf : Tryz.pinned.checked.prog.funcNamed Rows.codeChecksRow.func = some f) (hfn : Tryz.pinned.checked.prog.funcs[f]? = some fn) :
    true = Tryz.pinned.checked.prog.looks [] ∧ ∀ (j : Nat) t, fn.params[j]? = some t → Tryz.pinned.checked.prog.wantsStandIn t = false := by
  obtain rfl : f = 20 := Option.some.inj ((show Tryz.prog.funcNamed Rows.codeChecksRow.func = some 20 by kernel_rfl).symm.trans hf) |>.symm
  obtain rfl : fn = Tryz.f20 := (Option.some.inj (Tryz.func20.symm.trans hfn)).symm
  refine ⟨Wit.looks1, fun j t ht => ?_⟩
  rw [Tryz.params20] at ht
  have hm := Array.mem_of_getElem? ht
  simp at hm
  rcases hm with rfl | rfl
  all_goals first | exact (show Tryz.prog.wantsStandIn 25 = false by kernel_rfl) | exact (show Tryz.prog.wantsStandIn 3 = false by kernel_rfl)

theorem hw : Rows.codeChecksRow.wfByText (OpenSpec.ofChange Rows.codeChecksSpec) = true := by kernel_rfl
theorem hg : false = Rows.codeChecksRow.goesBy Tryz.pinned.checked.prog := by kernel_rfl
theorem hm : Tryz.pinned.checked.prog.mainIs = some (Rows.codeChecksCard.stood.harness.1, Rows.codeChecksCard.stood.harness.2.toList) := Head.mainIs.trans (congrArg (fun s => some (true, s)) Head.sum_io.symm)
theorem card : Rows.CodeChecksCardSaid :=
  Claim7.holds_tied_plain_at .later [] _ _ _ _ said (fun _ h => by cases h) hw (fun _ h => by cases h) codeChecks_row_tie rfl ⟨rfl, rfl⟩ hm rfl plain hg
end Go.Proofs.YtifkphfhadimaaaGreatDoor.CodeChecks
namespace Go.Proofs.YtifkphfhadimaaaGreatDoor
theorem codeChecks_holds : Rows.CodeChecksCardSaid := CodeChecks.card
#print axioms codeChecks_holds
end Go.Proofs.YtifkphfhadimaaaGreatDoor

