import Derived.Test.YtifkphfhadimaaaGreatDoorCdC
import Derived.Test.YtifkphfhadimaaaGreatDoorAbsG8
import Derived.SizedLaws
set_option linter.unusedVariables false
set_option linter.unusedSimpArgs false
set_option maxRecDepth 100000
namespace Go.Proofs.YtifkphfhadimaaaGreatDoor.Mini
open Go.Abs Go.RowKit Go.ChangeShapes Go.WideShapes

section
variable {H : Type} {enc : TypeId × Value → H} {W : World}
theorem opens_map {P : Program} {t : TypeId} {α β : Type} {R : Heap → List AV → α → Prop} {D : DataW H → α → Prop} {R' : Heap → List AV → β → Prop} {D' : DataW H → β → Prop} (f : α → β) (K : Opens enc P W t R D) (h1 : ∀ h c a, R h c a → R' h c (f a)) (h2 : ∀ d a, D d a → D' d (f a)) : Opens enc P W t R' D' := by
  intro m h hk fuel cs x hx
  obtain ⟨m1, t1, avs, a, e1, e2, e3, e4, e5, e6⟩ := K m h hk fuel cs x hx
  exact ⟨m1, t1, avs, f a, e1, e2, e3, e4, h1 _ _ _ e5, h2 _ _ e6⟩

theorem opens_opd : Opens enc Tryz.prog W 34 (fun _ avs (a : Int × Int × Unit) => avs = [.int .i64 a.1, .int .i64 a.2.1]) (fun _ _ => True) := by
  have K := opens_struct (enc := enc) (P := Tryz.prog) (W := W) (t := 34) (ts := [(3, 1), (3, 1)]) Tryz.underlying34 (by kernel_rfl) (by kernel_rfl) (fun i f hf => by
    have hi : i < 2 := (Array.getElem?_eq_some_iff.1 hf).1
    rcases (by omega : i = 0 ∨ i = 1) with rfl | rfl <;> · cases hf; rfl)
    (fields_cons (fun _ _ _ _ h => h) (opens_int Tryz.underlying3) (fields_cons (fun _ _ _ _ h => h) (opens_int Tryz.underlying3) fields_nil))
  refine opens_map (fun a => a) K ?_ fun _ _ _ => trivial
  rintro h c a ⟨c, r, rfl, rfl, c', r', rfl, rfl, rfl⟩
  rfl

def b2i (b : Bool) : Int := if b = true then 1 else 0
theorem b2i_eq (b : Bool) : (b2i b == 1) = b := by cases b <;> rfl
abbrev InsT := Int × Bool × Int × (Int × Int × Unit) × (Int × Int × Unit) × (Int × Int × Unit) × Int × Int × Unit
def insL (a : InsT) : List Int := [a.1, b2i a.2.1, a.2.2.1, a.2.2.2.1.1, a.2.2.2.1.2.1, a.2.2.2.2.1.1, a.2.2.2.2.1.2.1, a.2.2.2.2.2.1.1, a.2.2.2.2.2.1.2.1, a.2.2.2.2.2.2.1, a.2.2.2.2.2.2.2.1]
def RIns : Heap → List AV → List Int → Prop := fun _ avs l => avs = insW l
theorem opens_ins : Opens enc Tryz.prog W 36 RIns (fun _ _ => True) := by
  have K := opens_struct (enc := enc) (P := Tryz.prog) (W := W) (t := 36) (ts := [(3, 1), (4, 1), (3, 1), (34, 2), (34, 2), (34, 2), (3, 1), (3, 1)]) Tryz.underlying36 (by kernel_rfl) (by kernel_rfl) (fun i f hf => by
    have hi : i < 8 := (Array.getElem?_eq_some_iff.1 hf).1
    rcases (by omega : i = 0 ∨ i = 1 ∨ i = 2 ∨ i = 3 ∨ i = 4 ∨ i = 5 ∨ i = 6 ∨ i = 7) with rfl | rfl | rfl | rfl | rfl | rfl | rfl | rfl <;> · cases hf; rfl)
    (fields_cons (fun _ _ _ _ h => h) (opens_int Tryz.underlying3) (fields_cons (fun _ _ _ _ h => h) (opens_bool Tryz.underlying4) (fields_cons (fun _ _ _ _ h => h) (opens_int Tryz.underlying3)
      (fields_cons (fun _ _ _ _ h => h) opens_opd (fields_cons (fun _ _ _ _ h => h) opens_opd (fields_cons (fun _ _ _ _ h => h) opens_opd
      (fields_cons (fun _ _ _ _ h => h) (opens_int Tryz.underlying3) (fields_cons (fun _ _ _ _ h => h) (opens_int Tryz.underlying3) fields_nil))))))))
  refine opens_map (α := InsT) insL K ?_ fun _ _ _ => trivial
  rintro h c ⟨a1, a2, a3, a4, a5, a6, a7, a8, a9⟩ ⟨_, _, rfl, rfl, _, _, rfl, rfl, _, _, rfl, rfl, _, _, rfl, rfl, _, _, rfl, rfl, _, _, rfl, rfl, _, _, rfl, rfl, _, _, rfl, rfl, rfl⟩
  simp only [RIns, insW, insL, List.cons_append, List.nil_append, List.getD_cons_zero, List.getD_cons_succ, b2i_eq]

end

theorem agg_of {m : Emb} {avs : List AV} {cs : Array Value} (h1 : VRs m avs cs.toList) (h2 : ∀ c ∈ cs.toList, isCell c = true) : VR m (.agg avs) (.agg cs) := ⟨cs, rfl, h1, h2⟩

theorem ins_arg {H : Type} {enc : TypeId × Value → H} {W : World} {b : Nat} {v : Value} {d : DataW H} {p : List MemPlace} (hv : Value.okWide Tryz.prog W .any b 36 v) (ht : DataW.Trod enc Tryz.prog W 0 (fun _ => true) true 36 v d p) :
    ∃ (m : Emb) (t : Heap) (l : List Int), HR m t W.heap.size W W ∧ VR m (.agg (insW l)) v := by
  obtain ⟨cs, rfl, _⟩ := okWide_struct Tryz.underlying36 hv
  obtain ⟨fuel, hf⟩ := ht
  obtain ⟨m1, t1, avs, l, h1, h2, h3, h4, h5, h6⟩ := opens_ins _ [] (HR.start W) fuel _ _ hf
  exact ⟨m1, t1, l, h2, agg_of (by rw [← h5]; exact h3) h4⟩
end Go.Proofs.YtifkphfhadimaaaGreatDoor.Mini

