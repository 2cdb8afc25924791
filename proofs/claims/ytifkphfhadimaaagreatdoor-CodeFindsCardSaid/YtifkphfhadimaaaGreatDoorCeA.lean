import Derived.Test.YtifkphfhadimaaaGreatDoorCdD
import Derived.Test.YtifkphfhadimaaaGreatDoorDecN
set_option linter.unusedVariables false
set_option linter.unusedSimpArgs false
set_option maxRecDepth 100000
namespace Go.Proofs.YtifkphfhadimaaaGreatDoor.Mini
open Go.Abs

noncomputable def newY : List (Nat × MFunc) := [(50, F50), (66, F66), (120, F120), (121, F121)]
noncomputable def tblY : List (Nat × MFunc) := tblX ++ newY
theorem tblY_ok : ∀ p ∈ tblY, (modelOf Tryz.prog noPrim).fn p.1 = some p.2 := by
  intro p hp
  rcases List.mem_append.1 hp with hp | hp
  · exact tblX_ok p hp
  · have : ∀ p ∈ newY, (modelOf Tryz.prog noPrim).fn p.1 = some p.2 := by
      simp only [newY, List.mem_cons, List.not_mem_nil, or_false, forall_eq_or_imp, forall_eq]
      exact ⟨fn50, fn66, fn120, fn121⟩
    exact this p hp
noncomputable def KY : Model := ⟨fnOf tblY, primV primsX⟩
noncomputable def KD : Model := withB KY bldN
theorem le_cd : Model.le KC KD := ⟨fun _ _ h => fnOf_app h, fun _ _ _ _ h => h⟩
end Go.Proofs.YtifkphfhadimaaaGreatDoor.Mini

