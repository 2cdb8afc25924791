/- From a run of the abstract machine to a call of the program. -/
import Derived.Test.YthedodaghjpdoaaAbsM
set_option linter.unusedVariables false
set_option linter.unusedSimpArgs false
namespace Go.Abs
open Go.RowKit

theorem HR.start (W : World) : HR (fun _ => none) [] W.heap.size W W where
  below := Below.refl _ _
  size := Nat.le_refl _
  obj := fun b o h => by simp at h
  lt := fun b e h => by cases h
  uniq := fun b1 b2 o1 o2 e1 e2 h => by simp at h

theorem calls_of_runs {P : Program} {M : Model} {base : Nat} {W w : World} {f : Nat} {fn : Func} {c : Code} {avs : List AV} {h : Heap} {Q : AV → Heap → Prop} {m : Emb} {args : Array Value}
    (hM : Fits P base W False M) (hfn : P.funcs[f]? = some fn) (hn : (fn.name == "runtime.NumGoroutine") = false) (hb : fn.body = some c) (hr : Runs M (.call f avs Q) h) (hv : VRs m avs args.toList) (hk : HR m h base W w) :
    Calls P f args w fun e W' => ∃ v h1 m' cv, e = .returned cv ∧ Q v h1 ∧ m.le m' ∧ VR m' v cv ∧ HR m' h1 base W W' := by
  have g := sound hM hr m w args hv hk ({ (default : Oper) with dst := some 0 }) { tmps := #[undef], defers := [] }
    (fun a W' => ∃ v h1 m', Q v h1 ∧ m.le m' ∧ VR m' v (a.tmps.getD 0 undef) ∧ HR m' h1 base W W') (fun _ _ _ => False)
    (fun v h1 m' cv w' hQ hle hv hk => ⟨v, h1, m', hQ, hle, by simpa [Act.put] using hv, hk⟩) (fun h => h.elim)
  rw [callFunc_run hfn hn hb, Oper.upon_enter] at g
  refine g.mono fun e W' hh => ?_
  cases e with
  | returned cv =>
    obtain ⟨v, h1, m', hQ, hle, hv, hk⟩ := hh
    exact ⟨v, h1, m', cv, rfl, hQ, hle, by simpa [Act.put] using hv, hk⟩
  | panicked ch => exact hh.elim
  | outgrown =>
    obtain ⟨_, _, hf⟩ := hh
    exact hf.elim
end Go.Abs
