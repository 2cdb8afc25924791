/- The statement HistBegins: the law returns true at all arguments, and leaves them as they were. Conditions: none beyond the given row's (its listed variables start as the program's text lays them). -/
import Derived.Test.YtcjhjphmlfkikaaDoorHfB
import Derived.Test.YtcjhjphmlfkikaaDoorHoA
import Derived.Test.YtcjhjphmlfkikaaDoorHead
import Derived.Test.YtcjhjphmlfkikaaDoorWit
import Derived.Test.YtcjhjphmlfkikaaDoorWitD
import Derived.Test.YtcjhjphmlfkikaaDoorCards
import Derived.Test.YtcjhjphmlfkikaaDoorTie
import Derived.SizedLaws
import Derived.ChangeMaps5
import Derived.Carry
import Derived.ChangeOld
import Derived.Lib.SmallJoins
set_option linter.unusedVariables false
set_option linter.unusedSimpArgs false
set_option maxRecDepth 100000
namespace Go.Proofs.YtcjhjphmlfkikaaDoor.HistBegins
open Go.ChangeShapes Go.WideShapes Go.ChangeAt Go.RowKit Go.Joins Go.Abs Mini
theorem name4 : (Tryd.f4.name == "runtime.NumGoroutine") = false := by kernel_rfl
theorem body4 : Tryd.f4.body.isSome = true := by kernel_rfl
theorem laidOut : laidOutB Tryd.prog = true := by kernel_rfl
theorem first : ((begin Tryd.prog (fun _ _ => 0) default).world.heap[0]?.bind Obj.row?).isSome = true := by kernel_rfl
theorem some0 : decide (0 < Tryd.prog.globals.size) = true := by kernel_rfl
theorem heap_cells {W : World} (h : W.ShapedOpen Tryd.prog) : ∃ (g : Nat) (cc : Array Value) (ty : TypeId) (fr : Nat × Nat), W.heap[g]? = some (.cells cc ty fr) := by
  obtain ⟨⟨z, t⟩, hz⟩ := Option.isSome_iff_exists.1 first
  obtain ⟨cs, h1, _⟩ := h.1 0 z t (of_decide_eq_true some0) hz
  exact ⟨0, cs, t, _, h1⟩
theorem contract (H : Type) (enc : TypeId × Value → H) (W : World) (base : Nat) (args : Array Value) (ds gs : List (DataW H)) (before : List MemPlace)
    (hval : ∀ (j : Nat) t v, Tryd.f4.params[j]? = some t → args[j]? = some v → Value.okWide Tryd.prog W .any base t v)
    (hsz : (DataW.weightsEach Tryd.prog (Tryd.f4.params.toList ++ (OpenSpec.ofChange Rows.histBeginsSpec).bare.plain.varTypes Tryd.prog) (ds ++ gs)).all (· ≤ reachBytes) = true)
    (hcl : ∃ (g : Nat) (cc : Array Value) (ty : TypeId) (fr : Nat × Nat), W.heap[g]? = some (.cells cc ty fr))
    (hW : DataW.Whole enc Tryd.prog Tryd.f4.params.toList Rows.histBeginsSpec.vars false W args.toList ds gs before) :
    Calls Tryd.prog 4 args W fun e W' => ∃ v, e = .returned v ∧ Rows.histBeginsSpec.post enc Tryd.prog Tryd.f4 false true false false W args v W' := by
  have hW' := hW
  obtain ⟨p, q, hA0, hV, rfl, hfz, hnd⟩ := hW
  have hA : DataW.TrodAll enc Tryd.prog W 0 (fun _ => true) true Tryd.f4.params.toList args.toList ds p := hA0
  rw [Tryd.params4] at hA hval hsz
  obtain ⟨v0, vs0, d0, ds0, p0, q0, hargs, rfl, rfl, h0, r0⟩ := trodAll_cons hA
  obtain ⟨v1, vs1, d1, ds1, p1, q1, rfl, rfl, rfl, h1, r1⟩ := trodAll_cons r0
  obtain ⟨rfl, rfl, rfl⟩ := trodAll_nil r1
  obtain rfl : args = #[v0, v1] := by cases args; simp_all
  obtain ⟨rfl, rfl⟩ := trodVars_none hV
  obtain ⟨m0, t0, s0, l0', le0, hk0, hv0, hs0, hm0⟩ := evs_arg (h := []) (HR.start W) hcl (hval 0 22 v0 rfl rfl) h0 (fun n hn => by have := List.all_eq_true.1 hsz n (DataW.weights_mem_each (j := 0) (t := 22) rfl rfl n hn); simpa using this)
  have lt0 : ∀ x ∈ p0, x.block < W.heap.size := DataW.TrodAll.lt (trodAll_mk1 h0)
  obtain ⟨x1, rfl, rfl, rfl, w1⟩ := open_int Tryd.underlying3 (hval 1 3 v1 rfl rfl) h1
  clear hA0
  obtain ⟨c, hbody⟩ := Option.isSome_iff_exists.1 body4
  have hs : ∀ s : ByteArray, (⟨s.data.toList.toArray⟩ : ByteArray) = s := fun s => by cases s; rfl
  have hd : Runs KH (.call 4 [s0.av, .int .i64 x1] fun v _ => v = .bool true) ([] ++ t0) := histBegins_ok hs0 hm0 (P := fun v _ => v = .bool true) (fun _ => rfl) _ fun v _ h => h
  refine (calls_of_runs (args := #[v0, .int .i64 x1]) fitsH Tryd.func4 name4 hbody hd ?_ hk0).mono fun e W' hh => ?_
  · refine ⟨_, _, rfl, hv0, _, _, rfl, ?_, rfl⟩
    all_goals simp [VR, hs]
  · obtain ⟨v, hp1, m', cv, rfl, rfl, _, hv, hk⟩ := hh
    simp only [VR] at hv
    subst hv
    have bel := hk.below
    exact ⟨_, rfl, _, _, _, [], _, [], hW', trodAll_mk1 (shut_bool Tryd.underlying4 _), trodAll_mk2 (Below.trod laidOut (by kernel_rfl) (of_decide_eq_true (by kernel_rfl)) h0 bel lt0) (shut_int Tryd.underlying3 w1), rfl, bel.frame _, fun h => by cases h⟩

theorem reads (os : Os) {H : Type} (enc : TypeId × Value → H) : ∃ places, DataW.whole enc Tryd.prog ((Wit.laidWorld os).forCall (fun _ _ => 0) ⟨#[], #[.slice none 0 0, .int .i64 0], []⟩).memory Tryd.f4.params.toList Rows.histBeginsSpec.vars false (#[.slice none 0 0, .int .i64 0] : Array Value).toList 8 = some ([.nil, .lit (.int .i64 0)], [], places) :=
  ⟨[], by kernel_rfl⟩

theorem vars1 (os : Os) : ((Wit.laidWorld os).forCall (fun _ _ => 0) ⟨#[], #[.slice none 0 0, .int .i64 0], []⟩).variablesRefB Tryd.checked.prog = true := by kernel_rfl
theorem rest1 (os : Os) : (((Wit.laidWorld os).forCall (fun _ _ => 0) ⟨#[], #[.slice none 0 0, .int .i64 0], []⟩).heap.toList.drop Tryd.checked.prog.globals.size).take ((begin Tryd.checked.prog (fun _ _ => 0) default).world.heap.size - Tryd.checked.prog.globals.size) =
      (begin Tryd.checked.prog (fun _ _ => 0) default).world.heap.toList.drop Tryd.checked.prog.globals.size := by kernel_rfl
theorem met1 (os : Os) : laidMet Tryd.prog Wit.laidL ((Wit.laidWorld os).forCall (fun _ _ => 0) ⟨#[], #[.slice none 0 0, .int .i64 0], []⟩).memory := Wit.laid_met1 os
theorem okw (os : Os) : Input.okWideB Tryd.prog ((Wit.laidWorld os).forCall (fun _ _ => 0) ⟨#[], #[.slice none 0 0, .int .i64 0], []⟩) 4 ⟨#[], #[.slice none 0 0, .int .i64 0], []⟩ = true := by kernel_rfl
theorem prer (os : Os) {H : Type} (enc : TypeId × Value → H) : (OpenSpec.ofChange Rows.histBeginsSpec).preRow enc Tryd.prog Tryd.f4 Rows.histBeginsRow.domain false Rows.histBeginsRow.laid ((Wit.laidWorld os).forCall (fun _ _ => 0) ⟨#[], #[.slice none 0 0, .int .i64 0], []⟩).memory #[.slice none 0 0, .int .i64 0] := by
  obtain ⟨places, hx⟩ := reads os enc
  exact OpenSpec.preRow_of_cond 8 hx (by kernel_rfl) (fun k hk => by cases hk) (by kernel_rfl) (met1 os)
theorem lifted (os : Os) (started : os.Started) (H : Type) (enc : TypeId × Value → H) (F : Stop.Interp) :
    ReturnsInHanded {} Tryd.checked os 4 .any ((OpenSpec.ofChange Rows.histBeginsSpec).preRow enc Tryd.prog Tryd.f4 Rows.histBeginsRow.domain false Rows.histBeginsRow.laid) (((OpenSpec.ofChange Rows.histBeginsSpec).at F).post enc Tryd.prog Tryd.f4 false true false false) := by
  refine returnsInHanded_of_row (C := Tryd.checked) (s := OpenSpec.ofChange Rows.histBeginsSpec) Wit.own started (by kernel_rfl) Tryd.func4
    (witness_row_atRef (enc := enc) (C := Tryd.checked) false (Wit.laidWorld os) #[.slice none 0 0, .int .i64 0] rfl (vars1 os) (rest1 os) (okw os) (prer os enc)) ?_
  intro W base args ds gs before hval hW _ _ hsz hL hsh _
  exact contract H enc W base args ds gs before hval hsz (heap_cells hsh) hW

theorem k10 : (Rows.histBeginsRow.inPlace == Tryd.prog.inPlace 4) = true := by kernel_rfl
theorem k11 : (Rows.histBeginsRow.unfollowed == Tryd.prog.unfollowed 4) = true := by kernel_rfl
theorem k12 : (Rows.histBeginsRow.recurses == Tryd.prog.recurses 4) = true := by kernel_rfl
theorem k13 : (Rows.histBeginsRow.named == Tryd.prog.varsNamed 4) = true := by kernel_rfl
theorem k1 : Rows.histBeginsRow.wf (OpenSpec.ofChange (OpenSpec.ofChange Rows.histBeginsSpec).bare) = true := by kernel_rfl
theorem closed : joinedFacts Tryd.pinned.checked.prog 4 Tryd.f4 (OpenSpec.ofChange Rows.histBeginsSpec).bare Rows.histBeginsRow = true := by
  unfold joinedFacts
  simp only [Bool.and_eq_true]
  refine ⟨⟨⟨⟨⟨⟨⟨⟨⟨⟨⟨⟨⟨⟨⟨⟨⟨⟨⟨⟨⟨⟨⟨⟨⟨⟨⟨⟨⟨⟨⟨k1, ?_⟩, ?_⟩, ?_⟩, ?_⟩, ?_⟩, ?_⟩, ?_⟩, ?_⟩, k10⟩, k11⟩, k12⟩, k13⟩, ?_⟩, ?_⟩, ?_⟩, ?_⟩, ?_⟩, ?_⟩, ?_⟩, ?_⟩, ?_⟩, ?_⟩, ?_⟩, ?_⟩, Head.mayEnter⟩, (congrArg (Rows.histBeginsRow.lifted == ·) Head.lifts).trans (by kernel_rfl)⟩, (congrArg (· == some Rows.histBeginsRow.make) Head.make).trans (by kernel_rfl)⟩, ?_⟩, ?_⟩, ?_⟩, ?_⟩ <;> kernel_rfl
theorem hinst : Tryd.f4.isInstance Tryd.pinned.checked.prog Rows.histBeginsRow.origin Rows.histBeginsRow.targs := of_decide_eq_true (by kernel_rfl)
theorem hwrap : Tryd.f4.isWrapper Tryd.pinned.checked.prog Rows.histBeginsRow.wrapper Rows.histBeginsRow.mainSum := by
  unfold Func.isWrapper
  rw [if_neg (by decide +kernel)]
  exact ⟨rfl, rfl⟩
theorem said : Rows.HistBeginsSaid :=
  OpenClaim.holds_of_cond 4 Tryd.f4 rfl rfl rfl rfl rfl rfl rfl ⟨rfl, rfl, rfl, rfl, rfl⟩ rfl rfl rfl rfl rfl (by kernel_rfl) Tryd.func4 closed hinst hwrap
    (fun os started H enc _ F => by rw [OpenClaim.pre_eq_preRow]; exact lifted os started H enc F)

theorem plain (f : FuncId) (fn : Func) (hf : Tryd.pinned.checked.prog.funcNamed Rows.histBeginsRow.func = some f) (hfn : Tryd.pinned.checked.prog.funcs[f]? = some fn) :
    true = Tryd.pinned.checked.prog.looks [] ∧ ∀ (j : Nat) t, fn.params[j]? = some t → Tryd.pinned.checked.prog.wantsStandIn t = false := by
  obtain rfl : f = 4 := Option.some.inj ((show Tryd.prog.funcNamed Rows.histBeginsRow.func = some 4 by kernel_rfl).symm.trans hf) |>.symm
  obtain rfl : fn = Tryd.f4 := (Option.some.inj (Tryd.func4.symm.trans hfn)).symm
  refine ⟨Wit.looks1, fun j t ht => ?_⟩
  rw [Tryd.params4] at ht
  have hm := Array.mem_of_getElem? ht
  simp at hm
  rcases hm with rfl | rfl
  all_goals first | exact (show Tryd.prog.wantsStandIn 22 = false by kernel_rfl) | exact (show Tryd.prog.wantsStandIn 3 = false by kernel_rfl)

theorem hw : Rows.histBeginsRow.wfByText (OpenSpec.ofChange Rows.histBeginsSpec) = true := by kernel_rfl
theorem hg : false = Rows.histBeginsRow.goesBy Tryd.pinned.checked.prog := by kernel_rfl
theorem hm : Tryd.pinned.checked.prog.mainIs = some (Rows.histBeginsCard.stood.harness.1, Rows.histBeginsCard.stood.harness.2.toList) := Head.mainIs.trans (congrArg (fun s => some (true, s)) Head.sum_io.symm)
theorem card : Rows.HistBeginsCardSaid :=
  Claim7.holds_tied_plain_at .later [] _ _ _ _ said (fun _ h => by cases h) hw (fun _ h => by cases h) histBegins_row_tie rfl ⟨rfl, rfl⟩ hm rfl plain hg
end Go.Proofs.YtcjhjphmlfkikaaDoor.HistBegins
namespace Go.Proofs.YtcjhjphmlfkikaaDoor
theorem histBegins_holds : Rows.HistBeginsCardSaid := HistBegins.card
#print axioms histBegins_holds
end Go.Proofs.YtcjhjphmlfkikaaDoor

