/- The statement CodeFinds: the law returns true at all arguments, and leaves them as they were. Conditions: none beyond the given row's (its listed variables start as the program's text lays them). -/
import Derived.Test.YtifkphfhadimaaaGreatDoorCfC
import Derived.Test.YtifkphfhadimaaaGreatDoorHead
import Derived.Test.YtifkphfhadimaaaGreatDoorWit
import Derived.Test.YtifkphfhadimaaaGreatDoorWitD
import Derived.Test.YtifkphfhadimaaaGreatDoorCards
import Derived.Test.YtifkphfhadimaaaGreatDoorTie
import Derived.SizedLaws
import Derived.ChangeMaps5
import Derived.Carry
import Derived.ChangeOld
import Derived.Lib.SmallJoins
set_option linter.unusedVariables false
set_option linter.unusedSimpArgs false
set_option maxRecDepth 100000
namespace Go.Proofs.YtifkphfhadimaaaGreatDoor.CodeFinds
open Go.ChangeShapes Go.WideShapes Go.ChangeAt Go.RowKit Go.Joins Go.Abs Mini
theorem name23 : (Tryz.f23.name == "runtime.NumGoroutine") = false := by kernel_rfl
theorem body23 : Tryz.f23.body.isSome = true := by kernel_rfl
theorem laidOut : laidOutB Tryz.prog = true := by kernel_rfl
theorem first : ((begin Tryz.prog (fun _ _ => 0) default).world.heap[0]?.bind Obj.row?).isSome = true := by kernel_rfl
theorem some0 : decide (0 < Tryz.prog.globals.size) = true := by kernel_rfl
theorem heap_cells {W : World} (h : W.ShapedOpen Tryz.prog) : ∃ (g : Nat) (cc : Array Value) (ty : TypeId) (fr : Nat × Nat), W.heap[g]? = some (.cells cc ty fr) := by
  obtain ⟨⟨z, t⟩, hz⟩ := Option.isSome_iff_exists.1 first
  obtain ⟨cs, h1, _⟩ := h.1 0 z t (of_decide_eq_true some0) hz
  exact ⟨0, cs, t, _, h1⟩
theorem contract (H : Type) (enc : TypeId × Value → H) (W : World) (base : Nat) (args : Array Value) (ds gs : List (DataW H)) (before : List MemPlace)
    (hval : ∀ (j : Nat) t v, Tryz.f23.params[j]? = some t → args[j]? = some v → Value.okWide Tryz.prog W .any base t v)
    (hsz : (DataW.weightsEach Tryz.prog (Tryz.f23.params.toList ++ (OpenSpec.ofChange Rows.codeFindsSpec).bare.plain.varTypes Tryz.prog) (ds ++ gs)).all (· ≤ reachBytes) = true)
    (hcl : ∃ (g : Nat) (cc : Array Value) (ty : TypeId) (fr : Nat × Nat), W.heap[g]? = some (.cells cc ty fr))
    (hW : DataW.Whole enc Tryz.prog Tryz.f23.params.toList Rows.codeFindsSpec.vars false W args.toList ds gs before) :
    Calls Tryz.prog 23 args W fun e W' => ∃ v, e = .returned v ∧ Rows.codeFindsSpec.post enc Tryz.prog Tryz.f23 false true false false W args v W' := by
  have hW' := hW
  obtain ⟨p, q, hA0, hV, rfl, hfz, hnd⟩ := hW
  have hA : DataW.TrodAll enc Tryz.prog W 0 (fun _ => true) true Tryz.f23.params.toList args.toList ds p := hA0
  rw [Tryz.params23] at hA hval hsz
  obtain ⟨v0, vs0, d0, ds0, p0, q0, hargs, rfl, rfl, h0, r0⟩ := trodAll_cons hA
  obtain ⟨v1, vs1, d1, ds1, p1, q1, rfl, rfl, rfl, h1, r1⟩ := trodAll_cons r0
  obtain ⟨v2, vs2, d2, ds2, p2, q2, rfl, rfl, rfl, h2, r2⟩ := trodAll_cons r1
  obtain ⟨rfl, rfl, rfl⟩ := trodAll_nil r2
  obtain rfl : args = #[v0, v1, v2] := by cases args; simp_all
  obtain ⟨rfl, rfl⟩ := trodVars_none hV
  obtain ⟨m0, t0, s0, q0', le0, hk0, hv0, hp0, hs0⟩ := prog_arg (h := []) (HR.start W) hcl (hval 0 25 v0 rfl rfl) h0 (fun n hn => by have := List.all_eq_true.1 hsz n (DataW.weights_mem_each (j := 0) (t := 25) rfl rfl n hn); simpa using this)
  have lt0 : ∀ x ∈ p0, x.block < W.heap.size := DataW.TrodAll.lt (trodAll_mk1 h0)
  obtain ⟨x1, rfl, rfl, rfl, w1⟩ := open_int Tryz.underlying3 (hval 1 3 v1 rfl rfl) h1
  obtain ⟨x2, rfl, rfl, rfl, w2⟩ := Go.ChangeMaps.open_string Tryz.underlying9 (hval 2 9 v2 rfl rfl) h2
  clear hA0
  obtain ⟨c, hbody⟩ := Option.isSome_iff_exists.1 body23
  have b2 : x2.data.toList.length ≤ 140737488355328 := by
    have h1 := sized_string hsz (j := 2) (t := 9) rfl rfl
    have h2 := reachBytes_lt
    have e3 : (2 : Nat) ^ 47 = 140737488355328 := by decide
    simp only [Array.length_toList] at h1 ⊢
    omega
  have hs : ∀ s : ByteArray, (⟨s.data.toList.toArray⟩ : ByteArray) = s := fun s => by cases s; rfl
  have hd : Runs KF (.call 23 [.agg [.str q0'.1, .int .i64 q0'.2.1, s0.av], .int .i64 x1, .str x2.data.toList] fun v _ => v = .bool true) ([] ++ t0) := codeFinds_ok hp0 hs0 (P := fun v _ => v = .bool true) (fun _ => rfl) _ fun v _ h => h
  refine (calls_of_runs (args := #[v0, .int .i64 x1, .string x2]) fitsF Tryz.func23 name23 hbody hd ?_ hk0).mono fun e W' hh => ?_
  · refine ⟨_, _, rfl, hv0, _, _, rfl, ?_, _, _, rfl, ?_, rfl⟩
    all_goals simp [VR, hs]
  · obtain ⟨v, hp1, m', cv, rfl, rfl, _, hv, hk⟩ := hh
    simp only [VR] at hv
    subst hv
    have bel := hk.below
    exact ⟨_, rfl, _, _, _, [], _, [], hW', trodAll_mk1 (shut_bool Tryz.underlying4 _), trodAll_mk3 (Below.trod laidOut (by kernel_rfl) (of_decide_eq_true (by kernel_rfl)) h0 bel lt0) (shut_int Tryz.underlying3 w1) (Go.ChangeMaps.shut_string Tryz.underlying9 w2), rfl, bel.frame _, fun h => by cases h⟩

theorem reads (os : Os) {H : Type} (enc : TypeId × Value → H) : ∃ places, DataW.whole enc Tryz.prog ((Wit.laidWorld os).forCall (fun _ _ => 0) ⟨#[], #[.agg #[.string ByteArray.empty, .int .i64 0, .slice none 0 0], .int .i64 0, .string ByteArray.empty], []⟩).memory Tryz.f23.params.toList Rows.codeFindsSpec.vars false (#[.agg #[.string ByteArray.empty, .int .i64 0, .slice none 0 0], .int .i64 0, .string ByteArray.empty] : Array Value).toList 8 = some ([.agg [.lit (.string []), .lit (.int .i64 0), .nil], .lit (.int .i64 0), .lit (.string [])], [], places) :=
  ⟨[], by kernel_rfl⟩

theorem vars1 (os : Os) : ((Wit.laidWorld os).forCall (fun _ _ => 0) ⟨#[], #[.agg #[.string ByteArray.empty, .int .i64 0, .slice none 0 0], .int .i64 0, .string ByteArray.empty], []⟩).variablesRefB Tryz.checked.prog = true := by kernel_rfl
theorem rest1 (os : Os) : (((Wit.laidWorld os).forCall (fun _ _ => 0) ⟨#[], #[.agg #[.string ByteArray.empty, .int .i64 0, .slice none 0 0], .int .i64 0, .string ByteArray.empty], []⟩).heap.toList.drop Tryz.checked.prog.globals.size).take ((begin Tryz.checked.prog (fun _ _ => 0) default).world.heap.size - Tryz.checked.prog.globals.size) =
      (begin Tryz.checked.prog (fun _ _ => 0) default).world.heap.toList.drop Tryz.checked.prog.globals.size := by kernel_rfl
theorem met1 (os : Os) : laidMet Tryz.prog Wit.laidL ((Wit.laidWorld os).forCall (fun _ _ => 0) ⟨#[], #[.agg #[.string ByteArray.empty, .int .i64 0, .slice none 0 0], .int .i64 0, .string ByteArray.empty], []⟩).memory := Wit.laid_met1 os
theorem okw (os : Os) : Input.okWideB Tryz.prog ((Wit.laidWorld os).forCall (fun _ _ => 0) ⟨#[], #[.agg #[.string ByteArray.empty, .int .i64 0, .slice none 0 0], .int .i64 0, .string ByteArray.empty], []⟩) 23 ⟨#[], #[.agg #[.string ByteArray.empty, .int .i64 0, .slice none 0 0], .int .i64 0, .string ByteArray.empty], []⟩ = true := by kernel_rfl
theorem prer (os : Os) {H : Type} (enc : TypeId × Value → H) : (OpenSpec.ofChange Rows.codeFindsSpec).preRow enc Tryz.prog Tryz.f23 Rows.codeFindsRow.domain false Rows.codeFindsRow.laid ((Wit.laidWorld os).forCall (fun _ _ => 0) ⟨#[], #[.agg #[.string ByteArray.empty, .int .i64 0, .slice none 0 0], .int .i64 0, .string ByteArray.empty], []⟩).memory #[.agg #[.string ByteArray.empty, .int .i64 0, .slice none 0 0], .int .i64 0, .string ByteArray.empty] := by
  obtain ⟨places, hx⟩ := reads os enc
  exact OpenSpec.preRow_of_cond 8 hx (by kernel_rfl) (fun k hk => by cases hk) (by kernel_rfl) (met1 os)
theorem lifted (os : Os) (started : os.Started) (H : Type) (enc : TypeId × Value → H) (F : Stop.Interp) :
    ReturnsInHanded {} Tryz.checked os 23 .any ((OpenSpec.ofChange Rows.codeFindsSpec).preRow enc Tryz.prog Tryz.f23 Rows.codeFindsRow.domain false Rows.codeFindsRow.laid) (((OpenSpec.ofChange Rows.codeFindsSpec).at F).post enc Tryz.prog Tryz.f23 false true false false) := by
  refine returnsInHanded_of_row (C := Tryz.checked) (s := OpenSpec.ofChange Rows.codeFindsSpec) Wit.own started (by kernel_rfl) Tryz.func23
    (witness_row_atRef (enc := enc) (C := Tryz.checked) false (Wit.laidWorld os) #[.agg #[.string ByteArray.empty, .int .i64 0, .slice none 0 0], .int .i64 0, .string ByteArray.empty] rfl (vars1 os) (rest1 os) (okw os) (prer os enc)) ?_
  intro W base args ds gs before hval hW _ _ hsz hL hsh _
  exact contract H enc W base args ds gs before hval hsz (heap_cells hsh) hW

theorem k10 : (Rows.codeFindsRow.inPlace == Tryz.prog.inPlace 23) = true := by kernel_rfl
theorem k11 : (Rows.codeFindsRow.unfollowed == Tryz.prog.unfollowed 23) = true := by kernel_rfl
theorem k12 : (Rows.codeFindsRow.recurses == Tryz.prog.recurses 23) = true := by kernel_rfl
theorem k13 : (Rows.codeFindsRow.named == Tryz.prog.varsNamed 23) = true := by kernel_rfl
theorem k1 : Rows.codeFindsRow.wf (OpenSpec.ofChange (OpenSpec.ofChange Rows.codeFindsSpec).bare) = true := by kernel_rfl
theorem closed : joinedFacts Tryz.pinned.checked.prog 23 Tryz.f23 (OpenSpec.ofChange Rows.codeFindsSpec).bare Rows.codeFindsRow = true := by
  unfold joinedFacts
  simp only [Bool.and_eq_true]
  refine ⟨⟨⟨⟨⟨⟨⟨⟨⟨⟨⟨⟨⟨⟨⟨⟨⟨⟨⟨⟨⟨⟨⟨⟨⟨⟨⟨⟨⟨⟨⟨k1, ?_⟩, ?_⟩, ?_⟩, ?_⟩, ?_⟩, ?_⟩, ?_⟩, ?_⟩, k10⟩, k11⟩, k12⟩, k13⟩, ?_⟩, ?_⟩, ?_⟩, ?_⟩, ?_⟩, ?_⟩, ?_⟩, ?_⟩, ?_⟩, ?_⟩, ?_⟩, ?_⟩, Head.mayEnter⟩, (congrArg (Rows.codeFindsRow.lifted == ·) Head.lifts).trans (by kernel_rfl)⟩, (congrArg (· == some Rows.codeFindsRow.make) Head.make).trans (by kernel_rfl)⟩, ?_⟩, ?_⟩, ?_⟩, ?_⟩ <;> kernel_rfl
theorem hinst : Tryz.f23.isInstance Tryz.pinned.checked.prog Rows.codeFindsRow.origin Rows.codeFindsRow.targs := of_decide_eq_true (by kernel_rfl)
theorem hwrap : Tryz.f23.isWrapper Tryz.pinned.checked.prog Rows.codeFindsRow.wrapper Rows.codeFindsRow.mainSum := by
  unfold Func.isWrapper
  rw [if_neg (by decide +kernel)]
  exact ⟨rfl, rfl⟩
theorem said : Rows.CodeFindsSaid :=
  OpenClaim.holds_of_cond 23 Tryz.f23 rfl rfl rfl rfl rfl rfl rfl ⟨rfl, rfl, rfl, rfl, rfl⟩ rfl rfl rfl rfl rfl (by kernel_rfl) Tryz.func23 closed hinst hwrap
    (fun os started H enc _ F => by rw [OpenClaim.pre_eq_preRow]; exact lifted os started H enc F)

theorem plain (f : FuncId) (fn : Func) (hf : Tryz.pinned.checked.prog.funcNamed Rows.codeFindsRow.func = some f) (hfn : Tryz.pinned.checked.prog.funcs[f]? = some fn) :
    true = Tryz.pinned.checked.prog.looks [] ∧ ∀ (j : Nat) t, fn.params[j]? = some t → Tryz.pinned.checked.prog.wantsStandIn t = false := by
  obtain rfl : f = 23 := Option.some.inj ((show Tryz.prog.funcNamed Rows.codeFindsRow.func = some 23 by kernel_rfl).symm.trans hf) |>.symm
  obtain rfl : fn = Tryz.f23 := (Option.some.inj (Tryz.func23.symm.trans hfn)).symm
  refine ⟨Wit.looks1, fun j t ht => ?_⟩
  rw [Tryz.params23] at ht
  have hm := Array.mem_of_getElem? ht
  simp at hm
  rcases hm with rfl | rfl | rfl
  all_goals first | exact (show Tryz.prog.wantsStandIn 25 = false by kernel_rfl) | exact (show Tryz.prog.wantsStandIn 3 = false by kernel_rfl) | exact (show Tryz.prog.wantsStandIn 9 = false by kernel_rfl)

theorem hw : Rows.codeFindsRow.wfByText (OpenSpec.ofChange Rows.codeFindsSpec) = true := by kernel_rfl
theorem hg : false = Rows.codeFindsRow.goesBy Tryz.pinned.checked.prog := by kernel_rfl
theorem hm : Tryz.pinned.checked.prog.mainIs = some (Rows.codeFindsCard.stood.harness.1, Rows.codeFindsCard.stood.harness.2.toList) := Head.mainIs.trans (congrArg (fun s => some (true, s)) Head.sum_io.symm)
theorem card : Rows.CodeFindsCardSaid :=
  Claim7.holds_tied_plain_at .later [] _ _ _ _ said (fun _ h => by cases h) hw (fun _ h => by cases h) codeFinds_row_tie rfl ⟨rfl, rfl⟩ hm rfl plain hg
end Go.Proofs.YtifkphfhadimaaaGreatDoor.CodeFinds
namespace Go.Proofs.YtifkphfhadimaaaGreatDoor
theorem codeFinds_holds : Rows.CodeFindsCardSaid := CodeFinds.card
#print axioms codeFinds_holds
end Go.Proofs.YtifkphfhadimaaaGreatDoor

