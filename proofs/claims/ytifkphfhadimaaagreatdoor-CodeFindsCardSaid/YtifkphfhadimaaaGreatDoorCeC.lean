import Derived.Test.YtifkphfhadimaaaGreatDoorCeB
set_option linter.unusedVariables false
set_option linter.unusedSimpArgs false
set_option maxRecDepth 100000
namespace Go.Proofs.YtifkphfhadimaaaGreatDoor.Mini
open Go.Abs

theorem at_app {t u : Heap} {i : Nat} {o : AObj} (h : t[i]? = some o) : (t ++ u)[i]? = some o := by
  rw [List.getElem?_append_left (List.getElem?_eq_some_iff.1 h).1]
  exact h

theorem sane_d {h : Heap} {P : AV → Heap → Prop} (hP : ∀ t, P (.bool true) t) : CallE KD 51 [] h P := CallE.lift le_cd (sane_ok hP)
end Go.Proofs.YtifkphfhadimaaaGreatDoor.Mini

