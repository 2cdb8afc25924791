/- The abstract machine of this session, part 7: its texts one behind the other. -/
import Derived.Test.YtifkphfhadimaaaGreatDoorAbsG6
/- What runs in a model runs in a model that has more functions. -/
set_option linter.unusedVariables false
set_option linter.unusedSimpArgs false
namespace Go.Abs

/-- A run of operations that the hint says nothing of. -/
def rs : Nat → Hint → Hint
  | 0, h => h
  | n + 1, h => .op ⟨.raw, 0, true, 0⟩ (rs n h)

structure Model.le (M M' : Model) : Prop where
  fn : ∀ f F, M.fn f = some F → M'.fn f = some F
  prim : ∀ f args h Q, M.prim f args h Q → M'.prim f args h Q

theorem Runs.lift {M M' : Model} (k : M.le M') {j : Job} {h : Heap} (r : Runs M j h) : Runs M' j h := by
  induction r with
  | call hF _ ih => exact .call (k.fn _ _ hF) ih
  | prim hp => exact .prim (k.prim _ _ _ _ hp)
  | skip hQ => exact .skip hQ
  | seq Q1 _ _ h3 ih1 ih2 => exact .seq Q1 ih1 ih2 h3
  | condT hc _ ih => exact .condT hc ih
  | condF hc _ ih => exact .condF hc ih
  | block _ ih => exact .block ih
  | loop Q1 _ _ h3 ih1 ih2 => exact .loop Q1 ih1 ih2 h3
  | exit hQ => exact .exit hQ
  | ret hQ => exact .ret hQ
  | region _ ih => exact .region ih
  | nil hQ => exact .nil hQ
  | cons Q1 hw _ _ ih1 ih2 => exact .cons Q1 hw ih1 ih2
  | off hw _ ih => exact .off hw ih
  | draw _ ih => exact .draw ih
  | anyDone h1 h2 => exact .anyDone h1 h2
  | anyStep Q1 h1 _ _ _ ih1 ih2 ih3 => exact .anyStep Q1 h1 ih1 ih2 ih3
  | op h1 h2 => exact .op h1 h2
  | callOp h1 _ ih => exact .callOp h1 ih

theorem CallE.lift {M M' : Model} (k : M.le M') {f : Nat} {args : List AV} {h : Heap} {P : AV → Heap → Prop} (c : CallE M f args h P) : CallE M' f args h P := fun Q hQ => (c Q hQ).lift k

theorem fnOf_app : ∀ {l l' : List (Nat × MFunc)} {f : Nat} {F : MFunc}, fnOf l f = some F → fnOf (l ++ l') f = some F
  | [], _, f, F, h => by simp [fnOf] at h
  | (k, G) :: r, l', f, F, h => by
    simp only [fnOf, List.cons_append] at h ⊢
    cases hb : Nat.beq k f with
    | true => rw [hb] at h; exact h
    | false => rw [hb] at h; exact fnOf_app h
theorem le_app {l l' : List (Nat × MFunc)} {p : Nat → List AV → Heap → (AV → Heap → Prop) → Prop} : Model.le ⟨fnOf l, p⟩ ⟨fnOf (l ++ l'), p⟩ := ⟨fun _ _ h => fnOf_app h, fun _ _ _ _ h => h⟩
end Go.Abs

