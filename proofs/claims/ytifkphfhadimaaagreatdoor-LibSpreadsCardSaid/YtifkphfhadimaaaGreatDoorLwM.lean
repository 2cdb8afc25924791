/- Layer 16: the law LibSpreadFits. -/
import Derived.Test.YtifkphfhadimaaaGreatDoorLwK
set_option linter.unusedVariables false
set_option linter.unusedSimpArgs false
set_option maxRecDepth 100000
namespace Go.Proofs.YtifkphfhadimaaaGreatDoor.Mini
open Go.Abs

/-- A shorter list of the same slice. -/
theorem Sl.front {α : Type} {H : Heap} {s : Slc} {es : Nat} {f : α → List AV} {l m : List α} (k : Sl H s es f (l ++ m)) (hn : s.nil = false) : Sl H ⟨s.b, s.o, l.length, false⟩ es f l := by
  refine ⟨rfl, fun i x hi => ?_⟩
  have := k.get i x (by rw [List.getElem?_append_left (List.getElem?_eq_some_iff.1 hi).1]; exact hi)
  exact this
theorem Sl.cut {α : Type} {H : Heap} {s : Slc} {f : α → List AV} {l m : List α} {n : Nat} (k : Sl H s 3 f (l ++ m)) (hn : n = l.length) : Sl H ⟨s.b, s.o + Int.toNat (0 : Int) * 3, Int.toNat ((n : Nat) : Int) - Int.toNat (0 : Int), s.nil⟩ 3 f l := by
  subst hn
  cases hs : s.nil with
  | true =>
    have h1 := k.len
    simp only [Slc.len, hs, cond_true, List.length_append] at h1
    have h2 : l = [] := List.eq_nil_of_length_eq_zero (by omega)
    subst h2
    exact ⟨rfl, fun i x hi => by simp at hi⟩
  | false => exact (Sl.front k hs : Sl H ⟨s.b, s.o, l.length, false⟩ 3 f l)
instance nilapp (b H : Heap) [k : ExtC b H] : ExtC ([] ++ b) H := ⟨k.out⟩
end Go.Proofs.YtifkphfhadimaaaGreatDoor.Mini

