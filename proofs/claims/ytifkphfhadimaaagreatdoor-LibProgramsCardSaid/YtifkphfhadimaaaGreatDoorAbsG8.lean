/- The abstract machine of this session, part 8: its texts one behind the other. -/
import Derived.Test.YtifkphfhadimaaaGreatDoorAbsG7
import Derived.ChangeArms
import Derived.ChangeSlices
/- Arguments that lie on the heap, opened: rows that are only read. -/
set_option linter.unusedVariables false
set_option linter.unusedSimpArgs false
namespace Go.Abs
open Go.RowKit Go.ChangeShapes Go.WideShapes

/-- A row of an elder block, to be read. -/
theorem HR.look {m : Emb} {h : Heap} {base : Nat} {w0 w : World} (k : HR m h base w0 w) {g off es : Nat} {c : List AV} {cc : Array Value} {t : TypeId} {fr : Nat × Nat} (hgb : g < base) (hg : w.heap[g]? = some (.cells cc t fr)) (hoff : off + c.length ≤ cc.size)
    (hc : ∀ (i : Nat) (v : AV), c[i]? = some v → ∃ cv, cc[off + i]? = some cv ∧ VR m v cv ∧ isCell cv = true) :
    HR (m.upd h.length ⟨g, off, cc.size, es⟩) (h ++ [.arr c es true]) base w0 w := by
  have hle : m.le (m.upd h.length ⟨g, off, cc.size, es⟩) := Emb.le_upd k.none_of_len
  refine ⟨k.below, k.size, fun b o hb => ?_, fun b e he => ?_, fun b1 b2 o1 o2 e1 e2 h1 h2 r1 r2 m1 m2 hne => ?_⟩
  · rw [List.getElem?_append] at hb
    split at hb
    · exact (k.obj b o hb).mono hle fun e he => rfl
    · rename_i hge
      have hb1 : b - h.length < [AObj.arr c es true].length := (List.getElem?_eq_some_iff.1 hb).1
      simp at hb1
      have hbe : b = h.length := by omega
      subst hbe
      simp at hb
      subst hb
      refine ⟨_, Emb.upd_same _ _ _, rfl, cc, t, fr, hg, rfl, hoff, fun i v hi => ?_, fun hr => (by cases hr), fun _ => hgb⟩
      obtain ⟨cv, a1, a2, a3⟩ := hc i v hi
      exact ⟨cv, a1, VR.mono hle _ _ a2, a3⟩
  · by_cases hb : b = h.length
    · subst hb
      rw [Emb.upd_same] at he
      cases he
      exact ⟨(by have := k.size; simp only; omega), by simp⟩
    · rw [Emb.upd_ne _ _ hb] at he
      have := k.lt b e he
      exact ⟨this.1, by simp; omega⟩
  · have low : ∀ (b : Nat) (o : AObj), (h ++ [AObj.arr c es true])[b]? = some o → o.rw = true → b ≠ h.length ∧ h[b]? = some o := by
      intro b o ho hr
      rw [List.getElem?_append] at ho
      split at ho
      · rename_i hlt
        exact ⟨by omega, ho⟩
      · have hb1 : b - h.length < [AObj.arr c es true].length := (List.getElem?_eq_some_iff.1 ho).1
        simp at hb1
        have hbe : b = h.length := by omega
        subst hbe
        simp at ho
        subst ho
        cases hr
    obtain ⟨n1, g1⟩ := low b1 o1 h1 r1
    obtain ⟨n2, g2⟩ := low b2 o2 h2 r2
    rw [Emb.upd_ne _ _ n1] at m1
    rw [Emb.upd_ne _ _ n2] at m2
    exact k.uniq b1 b2 o1 o2 e1 e2 g1 g2 r1 r2 m1 m2 hne

section
variable {H : Type} {enc : TypeId × Value → H} {P : Program} {W : World} {t : TypeId}

end
end Go.Abs

/- Slices and structs among the arguments, opened. -/
set_option linter.unusedVariables false
set_option linter.unusedSimpArgs false
namespace Go.Abs
open Go.RowKit Go.ChangeShapes Go.WideShapes

section
variable {H : Type} {enc : TypeId × Value → H} {P : Program} {W : World} {t e : TypeId}

/-! ### Structs -/
end
end Go.Abs

