/- The laws of layer 16 that take one number and read a source: the model they are reckoned in. -/
import Derived.Test.YtifkphfhadimaaaGreatDoorNm
import Derived.Test.YtifkphfhadimaaaGreatDoorMiniE
set_option linter.unusedVariables false
set_option maxRecDepth 100000
namespace Go.Proofs.YtifkphfhadimaaaGreatDoor.Mini
open Go.Abs
/-- The structure's name of a number. -/
noncomputable def nameP : PrimsV := fun f args => bc (Nat.beq f 26) (@List.rec AV (fun _ => Option PVal) none (fun a r _ => @List.rec AV (fun _ => Option PVal) (eInt a fun q i => bc (kEqE q .i64) (some (.flat (.str (nm (ix i))))) none) (fun _ _ _ => none) r) args) none
theorem nameP_some {f : Nat} {args : List AV} {v : PVal} (h : nameP f args = some v) : f = 26 ∧ ∃ i, args = [.int .i64 i] ∧ v = .flat (.str (nm (ix i))) := by
  unfold nameP at h
  rw [bc_eq] at h
  cases hf : Nat.beq f 26 with
  | false => rw [hf] at h; cases h
  | true =>
    rw [hf, cond_true] at h
    refine ⟨Nat.eq_of_beq_eq_true hf, ?_⟩
    cases args with
    | nil => cases h
    | cons a r =>
      cases r with
      | cons b r => cases h
      | nil =>
        have h' : (eInt a fun q i => bc (kEqE q .i64) (some (PVal.flat (.str (nm (ix i))))) none) = some v := h
        rw [eInt_eq] at h'
        cases a <;> simp only [intK] at h' <;> first
          | (cases h'; done)
          | skip
        rename_i q i
        rw [bc_eq, kEqE_eq] at h'
        cases hk : kEq q .i64 with
        | false => rw [hk] at h'; cases h'
        | true =>
          rw [hk] at h'
          injection h' with h'
          rw [kEq_iff.1 hk]
          exact ⟨i, rfl, h'.symm⟩
theorem nameP_ok {base : Nat} {w0 : World} {out : Prop} : WaysOK Tryz.prog base w0 out nameP := by
  intro f args v hv
  obtain ⟨rfl, i, rfl, rfl⟩ := nameP_some hv
  refine .runs _ KA fitsA fun h => ?_
  exact nameIx_ok (P := fun v t => v = .str (nm (ix i))) (fun t => rfl) _ fun v t e => by
    subst e
    exact ⟨rfl, rfl, t, rfl⟩
noncomputable def awakeP : PrimsV := fun f args => bc (Nat.beq f 24) (@List.rec AV (fun _ => Option PVal) (some (.flat (.bool true))) (fun _ _ _ => none) args) none
theorem awakeP_ok {base : Nat} {w0 : World} {out : Prop} : WaysOK Tryz.prog base w0 out awakeP := by
  intro f args v hv
  unfold awakeP at hv
  rw [bc_eq] at hv
  cases hf : Nat.beq f 24 with
  | false => rw [hf] at hv; cases hv
  | true =>
    rw [hf, cond_true] at hv
    have := Nat.eq_of_beq_eq_true hf
    subst this
    cases args with
    | cons a r => cases hv
    | nil =>
      have hv' : some (PVal.flat (.bool true)) = some v := hv
      injection hv' with hv'
      subst hv'
      refine .runs _ KA fitsA fun h => ?_
      exact awakeA (P := fun v t => v = .bool true) (fun t => rfl) _ fun v t e => by
        subst e
        exact ⟨rfl, rfl, t, rfl⟩
noncomputable def rawN : PrimsV := orPrims awakeP (orPrims nameP (orPrims (keyP keysQ) (orPrims (memoP [kShapes]) (orPrims (natE2 204 176) prims1))))
noncomputable def primsN : PrimsV := quick [24, 26, 80, 128, 191, 192, 129, 130, 131, 82, 83, 81, 155, 176, 204] rawN
noncomputable def tblN : List (Nat × MFunc) := tbl ++ [(3, F3), (7, F7), (8, F8), (29, F29), (34, F34), (35, F35), (37, F37), (79, F79), (87, F87), (88, F88), (89, F89)]
theorem tblN_ok : ∀ p ∈ tblN, (modelOf Tryz.prog noPrim).fn p.1 = some p.2 := by
  intro p hp
  rcases List.mem_append.1 hp with hp | hp
  · exact tbl_ok p hp
  · have : ∀ p ∈ [(3, F3), (7, F7), (8, F8), (29, F29), (34, F34), (35, F35), (37, F37), (79, F79), (87, F87), (88, F88), (89, F89)], (modelOf Tryz.prog noPrim).fn p.1 = some p.2 := by
      simp only [List.mem_cons, List.not_mem_nil, or_false, forall_eq_or_imp, forall_eq]
      exact ⟨fn3, fn7, fn8, fn29, fn34, fn35, fn37, fn79, fn87, fn88, fn89⟩
    exact this p hp
noncomputable def KN : Model := ⟨fnOf tblN, primV primsN⟩
noncomputable def newQ : List (Nat × MFunc) := [(3, F3), (7, quickF F7 [0, 0]), (8, F8), (29, F29), (34, F34), (35, F35), (37, F37), (79, F79), (87, F87), (88, F88), (89, quickF F89 [0])]
noncomputable def EN : EMod := ⟨fnOf (tblQ ++ newQ), primsN⟩
theorem goodsN : goodsR tblN [] = true := by kernel_rfl
theorem newQ_eq : newQ = [(3, F3), (7, F7), (8, F8), (29, F29), (34, F34), (35, F35), (37, F37), (79, F79), (87, F87), (88, F88), (89, F89)].map fun x => (x.1, relaxF x.2 []) := by kernel_rfl
theorem eokN : EOK KN EN := eok_quick (eokR_table goodsN (quick_sh _ _)) (by rw [tblN, List.map_append, tblQ_eq, newQ_eq])
theorem waysN {base : Nat} {w0 : World} {out : Prop} : WaysOK Tryz.prog base w0 out primsN := quick_ok (orPrims_ok awakeP_ok (orPrims_ok nameP_ok (orPrims_ok (keyP_ok fits1q _) (orPrims_ok (memoP_ok fitsA _) (orPrims_ok ways204 ways1)))))
theorem fitsN {base : Nat} {w0 : World} {out : Prop} : Fits Tryz.prog base w0 out KN := fits_ways mixed tblN tblN_ok _ waysN
end Go.Proofs.YtifkphfhadimaaaGreatDoor.Mini

