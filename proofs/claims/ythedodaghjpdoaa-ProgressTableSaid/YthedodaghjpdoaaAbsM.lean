/- The executor's runs are runs. -/
import Derived.Test.YthedodaghjpdoaaAbsL
set_option linter.unusedVariables false
set_option linter.unusedSimpArgs false
namespace Go.Abs

theorem exec_sound {M : Model} : ∀ (n : Nat) (T : Task) (h : Heap) (s : St) (r : Res) (s' : St), exec M n T h s = some (r, s') → ∃ e, s'.ps = e ++ s.ps ∧ ((∀ p ∈ e, p) → Says M T h r) := by
  intro n
  induction n with
  | zero => intro T h s r s' hx; simp [exec] at hx
  | succ n ih =>
    intro T h s r s' hx
    cases T with
    | op o t => simp [exec] at hx
    | code c t =>
      cases c with
      | skip =>
        simp only [exec, Option.some.injEq, Prod.mk.injEq] at hx
        obtain ⟨rfl, rfl⟩ := hx
        exact ⟨[], rfl, fun _ Q hQ => .skip hQ⟩
      | exit id =>
        simp only [exec, Option.some.injEq, Prod.mk.injEq] at hx
        obtain ⟨rfl, rfl⟩ := hx
        exact ⟨[], rfl, fun _ Q hQ => .exit hQ⟩
      | ret =>
        simp only [exec, Option.some.injEq, Prod.mk.injEq] at hx
        obtain ⟨rfl, rfl⟩ := hx
        exact ⟨[], rfl, fun _ Q hQ => .ret hQ⟩
      | seq a b =>
        simp only [exec] at hx
        split at hx
        · rename_i t1 h1 s1 h2
          obtain ⟨e1, g1, k1⟩ := ih _ _ _ _ _ h2
          obtain ⟨e2, g2, k2⟩ := ih _ _ _ _ _ hx
          refine ⟨e2 ++ e1, by rw [g2, g1, List.append_assoc], fun hp => ?_⟩
          have f1 := k1 fun p hp' => hp p (List.mem_append_right _ hp')
          have f2 := k2 fun p hp' => hp p (List.mem_append_left _ hp')
          cases r with
          | code x t2 h2 =>
            exact fun Q hQ => .seq (fun x t h => x = .normal ∧ t = t1 ∧ h = h1) (f1 _ ⟨rfl, rfl, rfl⟩) (by rintro t' h' ⟨_, rfl, rfl⟩; exact f2 Q hQ) (by rintro x t' h' hx ⟨hx', _⟩; exact absurd hx' hx)
          | val v h2 => exact f2.elim
        · rename_i hne
          obtain ⟨e1, g1, k1⟩ := ih _ _ _ _ _ hx
          refine ⟨e1, g1, fun hp => ?_⟩
          have f1 := k1 hp
          cases r with
          | code x t2 h2 =>
            have hxn : x ≠ .normal := by
              rintro rfl
              exact hne _ _ _ hx
            exact fun Q hQ => .seq (fun x' t h => x' = x ∧ t = t2 ∧ h = h2) (f1 _ ⟨rfl, rfl, rfl⟩) (by rintro t' h' ⟨hx', _⟩; exact absurd hx'.symm hxn) (by rintro x' t' h' _ ⟨rfl, rfl, rfl⟩; exact hQ)
          | val v h2 => exact f1.elim
      | cond c a b =>
        simp only [exec] at hx
        split at hx
        · rename_i hc
          obtain ⟨e1, g1, k1⟩ := ih _ _ _ _ _ hx
          refine ⟨e1, g1, fun hp => ?_⟩
          have f1 := k1 hp
          cases r with
          | code x t2 h2 => exact fun Q hQ => .condT hc (f1 Q hQ)
          | val v h2 => exact f1.elim
        · rename_i hc
          obtain ⟨e1, g1, k1⟩ := ih _ _ _ _ _ hx
          refine ⟨e1, g1, fun hp => ?_⟩
          have f1 := k1 hp
          cases r with
          | code x t2 h2 => exact fun Q hQ => .condF hc (f1 Q hQ)
          | val v h2 => exact f1.elim
        · cases hx
      | block id c =>
        simp only [exec] at hx
        split at hx
        · rename_i x t1 h1 s1 h2
          simp only [Option.some.injEq, Prod.mk.injEq] at hx
          obtain ⟨rfl, rfl⟩ := hx
          obtain ⟨e1, g1, k1⟩ := ih _ _ _ _ _ h2
          refine ⟨e1, g1, fun hp => ?_⟩
          have f1 := k1 hp
          exact fun Q hQ => .block (f1 _ hQ)
        · cases hx
      | loop c =>
        simp only [exec] at hx
        split at hx
        · rename_i t1 h1 s1 h2
          obtain ⟨e1, g1, k1⟩ := ih _ _ _ _ _ h2
          obtain ⟨e2, g2, k2⟩ := ih _ _ _ _ _ hx
          refine ⟨e2 ++ e1, by rw [g2, g1, List.append_assoc], fun hp => ?_⟩
          have f1 := k1 fun p hp' => hp p (List.mem_append_right _ hp')
          have f2 := k2 fun p hp' => hp p (List.mem_append_left _ hp')
          cases r with
          | code x t2 h2 =>
            exact fun Q hQ => .loop (fun x t h => x = .normal ∧ t = t1 ∧ h = h1) (f1 _ ⟨rfl, rfl, rfl⟩) (by rintro t' h' ⟨_, rfl, rfl⟩; exact f2 Q hQ) (by rintro x t' h' hx ⟨hx', _⟩; exact absurd hx' hx)
          | val v h2 => exact f2.elim
        · rename_i hne
          obtain ⟨e1, g1, k1⟩ := ih _ _ _ _ _ hx
          refine ⟨e1, g1, fun hp => ?_⟩
          have f1 := k1 hp
          cases r with
          | code x t2 h2 =>
            have hxn : x ≠ .normal := by
              rintro rfl
              exact hne _ _ _ hx
            exact fun Q hQ => .loop (fun x' t h => x' = x ∧ t = t2 ∧ h = h2) (f1 _ ⟨rfl, rfl, rfl⟩) (by rintro t' h' ⟨hx', _⟩; exact absurd hx'.symm hxn) (by rintro x' t' h' _ ⟨rfl, rfl, rfl⟩; exact hQ)
          | val v h2 => exact f1.elim
      | region l =>
        simp only [exec] at hx
        obtain ⟨e1, g1, k1⟩ := ih _ _ _ _ _ hx
        refine ⟨e1, g1, fun hp => ?_⟩
        have f1 := k1 hp
        cases r with
        | code x t2 h2 =>
          obtain ⟨rfl, f1⟩ := f1
          exact fun Q hQ => .region (f1 _ hQ)
        | val v h2 => exact f1.elim
      | draw l pre =>
        simp only [exec] at hx
        split at hx
        · rename_i hok
          obtain ⟨e1, g1, k1⟩ := ih _ _ _ _ _ hx
          refine ⟨e1, g1, fun hp => ?_⟩
          have f1 := k1 hp
          cases r with
          | code x t2 h2 =>
            obtain ⟨rfl, f1⟩ := f1
            exact fun Q hQ => .draw (draw_runs hok (f1 _ hQ))
          | val v h2 => exact f1.elim
        · cases hx
    | ops l t =>
      cases l with
      | nil =>
        simp only [exec, Option.some.injEq, Prod.mk.injEq] at hx
        obtain ⟨rfl, rfl⟩ := hx
        exact ⟨[], rfl, fun _ => ⟨rfl, fun Q hQ => .nil hQ⟩⟩
      | cons o l =>
        have fin : ∀ (v v' : AV) (h1 : Heap) (s1 : St) (e0 : List Prop), s1.ps = e0 ++ s.ps → wantedM t o.guard = true → ((∀ p ∈ e0, p) → v' = v ∧ ∀ Q : AV → Heap → Prop, Q v h1 → Runs M (.op o.op t Q) h) →
            exec M n (.ops l (put t o.dst v')) h1 s1 = some (r, s') → ∃ e, s'.ps = e ++ s.ps ∧ ((∀ p ∈ e, p) → Says M (.ops (o :: l) t) h r) := by
          intro v v' h1 s1 e0 he0 hw hop hx
          obtain ⟨e2, g2, k2⟩ := ih _ _ _ _ _ hx
          refine ⟨e2 ++ e0, by rw [g2, he0]; simp, fun hp => ?_⟩
          obtain ⟨rfl, f0⟩ := hop fun p hp' => hp p (List.mem_append_right _ hp')
          have f2 := k2 fun p hp' => hp p (List.mem_append_left _ hp')
          cases r with
          | code x t2 h2 =>
            obtain ⟨rfl, f2⟩ := f2
            refine ⟨rfl, fun Q hQ => .cons (fun v'' h' => v'' = v' ∧ h' = h1) hw (f0 _ ⟨rfl, rfl⟩) ?_⟩
            rintro v'' h' ⟨rfl, rfl⟩
            exact f2 Q hQ
          | val v h2 => exact f2.elim
        simp only [exec] at hx
        split at hx
        · rename_i hw
          split at hx
          · rename_i v' h1 htok
            exact fin v' v' h1 _ [_] rfl hw (fun hp => ⟨rfl, fun Q hQ => .op (hp _ (List.mem_singleton.2 rfl)) hQ⟩) hx
          · rename_i v' h1 htok
            split at hx
            · rename_i f args hop
              split at hx
              · rename_i g cap hf
                exact fin v' v' h1 _ [_] rfl hw (fun hp => ⟨rfl, fun Q hQ => by rw [hop]; exact .callOp hf (hp _ (List.mem_singleton.2 rfl) Q hQ)⟩) hx
              · cases hx
            · cases hx
          · rename_i v' htok
            split at hx
            · rename_i v h1 he
              exact fin v v' h1 _ [_] rfl hw (fun hp => ⟨(hp _ (List.mem_singleton.2 rfl)).symm, fun Q hQ => .op he hQ⟩) hx
            · cases hx
          · split at hx
            · rename_i f args hop
              split at hx
              · rename_i g cap hf
                split at hx
                · rename_i v h1 s1 hcall
                  obtain ⟨e1, g1, k1⟩ := ih _ _ _ _ _ hcall
                  exact fin v v h1 s1 e1 g1 hw (fun hp => ⟨rfl, fun Q hQ => by rw [hop]; exact .callOp hf (k1 hp Q hQ)⟩) hx
                · cases hx
              · cases hx
            · split at hx
              · rename_i v h1 he
                exact fin v v h1 s [] rfl hw (fun _ => ⟨rfl, fun Q hQ => .op he hQ⟩) hx
              · cases hx
        · rename_i hw
          obtain ⟨e1, g1, k1⟩ := ih _ _ _ _ _ hx
          refine ⟨e1, g1, fun hp => ?_⟩
          have f1 := k1 hp
          cases r with
          | code x t2 h2 =>
            obtain ⟨rfl, f1⟩ := f1
            exact ⟨rfl, fun Q hQ => .off (by simpa using hw) (f1 Q hQ)⟩
          | val v h2 => exact f1.elim
    | call f args =>
      simp only [exec] at hx
      split at hx
      · rename_i F hF
        split at hx
        · rename_i x t1 h1 s1 hbody
          split at hx
          · rename_i hxx
            simp only [Option.map_eq_some_iff, Prod.mk.injEq] at hx
            obtain ⟨v, hv, rfl, rfl⟩ := hx
            obtain ⟨e1, g1, k1⟩ := ih _ _ _ _ _ hbody
            exact ⟨e1, g1, fun hp Q hQ => .call hF (k1 hp _ ⟨hxx, v, hv, hQ⟩)⟩
          · cases hx
        · cases hx
      · cases hx

theorem code_of_exec {M : Model} {n : Nat} {c : MCode} {t : Tmps} {h : Heap} {orc : Orc} {Q : MX → Tmps → Heap → Prop} {x : MX} {t' : Tmps} {h' : Heap} {o' : Orc} {ps : List Prop} (hx : exec M n (.code c t) h ⟨orc, []⟩ = some (.code x t' h', ⟨o', ps⟩)) (hp : ∀ p ∈ ps, p) (hQ : Q x t' h') : Runs M (.code c t Q) h := by
  obtain ⟨e, g, k⟩ := exec_sound n _ _ _ _ _ hx
  simp only [List.append_nil] at g
  exact k (g ▸ hp) Q hQ

/-- What is used: the executor's answer, its equations, and what is asked of the answer. -/
theorem call_of_exec {M : Model} {n : Nat} {f : Nat} {args : List AV} {h : Heap} {orc : Orc} {Q : AV → Heap → Prop} {v : AV} {h' : Heap} {o' : Orc} {ps : List Prop} (hx : exec M n (.call f args) h ⟨orc, []⟩ = some (.val v h', ⟨o', ps⟩)) (hp : ∀ p ∈ ps, p) (hQ : Q v h') : Runs M (.call f args Q) h := by
  obtain ⟨e, g, k⟩ := exec_sound n _ _ _ _ _ hx
  simp only [List.append_nil] at g
  exact k (g ▸ hp) Q hQ
end Go.Abs

namespace Go.Abs
/-- The program's own functions, as they are compiled; no primitive. -/
def modelOf (P : Program) (prim : Nat → List AV → Heap → (AV → Heap → Prop) → Prop) : Model := ⟨fun f => (P.funcs[f]?).bind (compF P), prim⟩
def noPrim : Nat → List AV → Heap → (AV → Heap → Prop) → Prop := fun _ _ _ _ => False

theorem fits_modelOf {P : Program} {base : Nat} {w0 : World} {out : Prop} (hm : P.follows .mixedOrders = true) {prim : Nat → List AV → Heap → (AV → Heap → Prop) → Prop}
    (hp : ∀ f args h Q, prim f args h Q → Good P base w0 out (.call f args Q) h) : Fits P base w0 out (modelOf P prim) where
  mixed := hm
  fn := fun f F hF => by
    simp only [modelOf, Option.bind_eq_some_iff] at hF
    exact hF
  prim := hp
  ops := fun O mo hc htodo a m h h' w t v ht hk he => op_sound hc htodo ht hk he

theorem fits_noPrim {P : Program} {base : Nat} {w0 : World} {out : Prop} (hm : P.follows .mixedOrders = true) : Fits P base w0 out (modelOf P noPrim) := fits_modelOf hm fun _ _ _ _ h => h.elim
end Go.Abs
