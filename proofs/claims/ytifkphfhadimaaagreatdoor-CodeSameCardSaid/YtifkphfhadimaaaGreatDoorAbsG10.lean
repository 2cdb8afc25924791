import Derived.Test.YtifkphfhadimaaaGreatDoorAbsG9
set_option linter.unusedVariables false
set_option linter.unusedSimpArgs false
namespace Go.Abs

inductive RO where
  | loc (p : Nat)
  | old (x : MO)
noncomputable def hdS (S : List AV) : AV := @List.rec AV (fun _ => AV) .undef (fun x _ _ => x) S
noncomputable def tlS (S : List AV) : List AV := @List.rec AV (fun _ => List AV) [] (fun _ r _ => r) S
noncomputable def nthS (p : Nat) : List AV → AV := @Nat.rec (fun _ => List AV → AV) (fun S => hdS S) (fun _ ih S => ih (tlS S)) p
abbrev Gam := List (Option Nat)
noncomputable def isD (d : Option Nat) (i : Nat) : Bool := @Option.rec Nat (fun _ => Bool) false (fun j => Nat.beq j i) d
noncomputable def posOf (G : Gam) (i : Nat) : Option Nat := @List.rec (Option Nat) (fun _ => Option Nat) none (fun d _ ih => bc (isD d i) (some 0) (@Option.rec Nat (fun _ => Option Nat) none (fun p => some (Nat.add p 1)) ih)) G
noncomputable def res (G : Gam) (x : MO) : RO := @MO.rec (fun _ => RO) (fun i => @Option.rec Nat (fun _ => RO) (.old (.tmp i)) (fun p => .loc p) (posOf G i)) (fun v => .old (.const v)) x
structure Inv (N : Nat) (G : Gam) (S : List AV) (T : BT AV) : Prop where
  dom : ∀ i, i < N → (T.at i).isSome = true
  loc : ∀ i p, posOf G i = some p → i < N ∧ nthS p S = T.getD .undef i
abbrev Kd := Cx → List AV → BT AV → Nat → Nat → BT AObj → Option TRes
noncomputable def dstN (N : Nat) (d : Option Nat) : Option Nat := @Option.rec Nat (fun _ => Option Nat) none (fun i => bc (Nat.blt i N) (some i) none) d
theorem Inv.push {N : Nat} {G : Gam} {S : List AV} {T : BT AV} (k : Inv N G S T) (d : Option Nat) (v : AV) : Inv N (dstN N d :: G) (v :: S) (putT T d v) := by
  have dom : ∀ i, i < N → ((putT T d v).at i).isSome = true := by
    intro i hi
    have h0 := k.dom i hi
    cases d with
    | none => exact h0
    | some j =>
      show ((T.set j v).at i).isSome = true
      rw [at_set]
      split
      · cases h : T.at i with
        | none => rw [h] at h0; cases h0
        | some w => rfl
      · exact h0
  refine ⟨dom, fun i p hp => ?_⟩
  have e : posOf (dstN N d :: G) i = bc (isD (dstN N d) i) (some 0) (@Option.rec Nat (fun _ => Option Nat) none (fun p => some (Nat.add p 1)) (posOf G i)) := rfl
  rw [e, bc_eq] at hp
  cases hd : isD (dstN N d) i with
  | true =>
    rw [hd] at hp
    injection hp with hp
    subst hp
    cases d with
    | none => cases hd
    | some j =>
      have e2 : dstN N (some j) = bc (Nat.blt j N) (some j) none := rfl
      rw [e2, bc_eq] at hd
      cases hj : Nat.blt j N with
      | false => rw [hj] at hd; cases hd
      | true =>
        rw [hj] at hd
        have hij : j = i := Nat.eq_of_beq_eq_true hd
        subst hij
        have h0 := k.dom j (blt_lt.1 hj)
        refine ⟨blt_lt.1 hj, ?_⟩
        rw [getD_atD, atD_eq]
        show v = ((T.set j v).at j).getD .undef
        rw [at_set, if_pos rfl]
        cases h : T.at j with
        | none => rw [h] at h0; cases h0
        | some w => rfl
  | false =>
    rw [hd] at hp
    have hp' : (@Option.rec Nat (fun _ => Option Nat) none (fun p => some (Nat.add p 1)) (posOf G i)) = some p := hp
    cases hg : posOf G i with
    | none => rw [hg] at hp'; cases hp'
    | some q =>
      rw [hg] at hp'
      injection hp' with hp'
      subst hp'
      obtain ⟨hiN, h1⟩ := k.loc i q hg
      refine ⟨hiN, ?_⟩
      rw [getD_atD, atD_eq] at h1 ⊢
      have e3 : nthS (Nat.add q 1) (v :: S) = nthS q S := rfl
      rw [e3, h1]
      cases d with
      | none => rfl
      | some j =>
        show (T.at i).getD .undef = ((T.set j v).at i).getD .undef
        rw [at_set]
        by_cases hji : j = i
        · subst hji
          -- the place is out of the frame, or it would have been found
          cases hj : Nat.blt j N with
          | true =>
            have e2 : isD (dstN N (some j)) j = isD (bc (Nat.blt j N) (some j) none) j := rfl
            rw [e2, hj] at hd
            have : Nat.beq j j = false := hd
            rw [Nat.beq_refl] at this
            cases this
          | false =>
            rw [blt_lt.2 hiN] at hj
            cases hj
        · rw [if_neg hji]

end Go.Abs

set_option linter.unusedVariables false
set_option linter.unusedSimpArgs false
namespace Go.Abs

inductive R4 where
  | loc (p : Nat)
  | liv (p : Nat)
  | con (v : AV)
  | bad
noncomputable def posN (L : List Nat) (i : Nat) : Option Nat := @List.rec Nat (fun _ => Option Nat) none (fun d _ ih => bc (Nat.beq d i) (some 0) (@Option.rec Nat (fun _ => Option Nat) none (fun p => some (Nat.add p 1)) ih)) L
noncomputable def posL (L : List Nat) (N i : Nat) : Option Nat := bc (Nat.blt i N) (posN L i) none
noncomputable def pL (L : List Nat) (N : Nat) (d : Option Nat) : Option Nat := @Option.rec Nat (fun _ => Option Nat) none (fun i => posL L N i) d
noncomputable def rs1 (L : List Nat) (N : Nat) (G : Gam) (x : MO) : R4 := @MO.rec (fun _ => R4) (fun i => @Option.rec Nat (fun _ => R4) (@Option.rec Nat (fun _ => R4) .bad (fun p => .liv p) (posL L N i)) (fun p => .loc p) (posOf G i)) (fun v => .con v) x
noncomputable def gd (x : R4) : Bool := @R4.rec (fun _ => Bool) (fun _ => true) (fun _ => true) (fun _ => true) false x
noncomputable def rvE (x : R4) : List AV → BT AV → AV := @R4.rec (fun _ => List AV → BT AV → AV) (fun p S _ => nthS p S) (fun p _ T => T.getD .undef p) (fun v _ _ => v) (fun _ _ => .undef) x
noncomputable def rsL (L : List Nat) (N : Nat) (G : Gam) (l : List MO) : List R4 := @List.rec MO (fun _ => List R4) [] (fun x _ ih => rs1 L N G x :: ih) l
noncomputable def gdL (l : List R4) : Bool := @List.rec R4 (fun _ => Bool) true (fun x _ ih => bc (gd x) ih false) l
noncomputable def rvsE (l : List R4) : List AV → BT AV → List AV := @List.rec R4 (fun _ => List AV → BT AV → List AV) (fun _ _ => []) (fun x _ ih S T => rvE x S T :: ih S T) l
noncomputable def constsE (l : List AV) : List MO := @List.rec AV (fun _ => List MO) [] (fun x _ ih => .const x :: ih) l
abbrev RPt := Nat × Nat × R4
noncomputable def rsP (L : List Nat) (N : Nat) (G : Gam) (l : List (Nat × Nat × MO)) : List RPt := @List.rec (Nat × Nat × MO) (fun _ => List RPt) [] (fun p _ ih => (p.1, p.2.1, rs1 L N G p.2.2) :: ih) l
noncomputable def gdP (l : List RPt) : Bool := @List.rec RPt (fun _ => Bool) true (fun p _ ih => bc (gd p.2.2) ih false) l
noncomputable def partsE (l : List RPt) : List AV → BT AV → List (Nat × Nat × MO) := @List.rec RPt (fun _ => List AV → BT AV → List (Nat × Nat × MO)) (fun _ _ => []) (fun p _ ih S T => (p.1, p.2.1, .const (rvE p.2.2 S T)) :: ih S T) l
noncomputable def rsO (L : List Nat) (N : Nat) (G : Gam) (x : Option MO) : Option R4 := @Option.rec MO (fun _ => Option R4) none (fun x => some (rs1 L N G x)) x
noncomputable def gdO (x : Option R4) : Bool := @Option.rec R4 (fun _ => Bool) true (fun x => gd x) x
noncomputable def rvO (x : Option R4) : List AV → BT AV → Option MO := @Option.rec R4 (fun _ => List AV → BT AV → Option MO) (fun _ _ => none) (fun x S T => some (.const (rvE x S T))) x

structure EnvC (N : Nat) (L : List Nat) (T Tf : BT AV) : Prop where
  dom : ∀ i, i < N → (Tf.at i).isSome = true
  liv : ∀ i p, posL L N i = some p → T.at p = Tf.at i
structure EnvE (N : Nat) (L : List Nat) (G : Gam) (S : List AV) (T Tf : BT AV) : Prop where
  c : EnvC N L T Tf
  loc : ∀ i p, posOf G i = some p → i < N ∧ nthS p S = Tf.getD .undef i
theorem bc_and {a b : Bool} (h : bc a b false = true) : a = true ∧ b = true := by
  rw [bc_eq] at h
  cases a with
  | false => cases h
  | true => exact ⟨rfl, h⟩
theorem rv_ok {N : Nat} {L : List Nat} {G : Gam} {S : List AV} {T Tf : BT AV} (k : EnvE N L G S T Tf) {x : MO} (hg : gd (rs1 L N G x) = true) : rvE (rs1 L N G x) S T = x.bt Tf := by
  cases x with
  | const v => rfl
  | tmp i =>
    have e : rs1 L N G (.tmp i) = @Option.rec Nat (fun _ => R4) (@Option.rec Nat (fun _ => R4) .bad (fun p => .liv p) (posL L N i)) (fun p => .loc p) (posOf G i) := rfl
    rw [e] at hg ⊢
    have eb : (MO.tmp i).bt Tf = Tf.atD .undef i := rfl
    cases hp : posOf G i with
    | some p =>
      have := (k.loc i p hp).2
      rw [getD_atD] at this
      exact this
    | none =>
      rw [hp] at hg
      cases hq : posL L N i with
      | none => rw [hq] at hg; cases hg
      | some p =>
        have h1 := k.c.liv i p hq
        show T.getD .undef p = Tf.atD .undef i
        rw [getD_atD, atD_eq, atD_eq, h1]
theorem rvs_ok {N : Nat} {L : List Nat} {G : Gam} {S : List AV} {T Tf : BT AV} (k : EnvE N L G S T Tf) : ∀ (l : List MO), gdL (rsL L N G l) = true → rvsE (rsL L N G l) S T = btF Tf l
  | [], _ => rfl
  | x :: l, hg => by
    have hg' : bc (gd (rs1 L N G x)) (gdL (rsL L N G l)) false = true := hg
    obtain ⟨h1, h2⟩ := bc_and hg'
    have e : rvsE (rsL L N G (x :: l)) S T = rvE (rs1 L N G x) S T :: rvsE (rsL L N G l) S T := rfl
    have e2 : btF Tf (x :: l) = x.bt Tf :: btF Tf l := rfl
    rw [e, e2, rv_ok k h1, rvs_ok k l h2]
theorem consts_bt (T : BT AV) : ∀ l : List AV, btF T (constsE l) = l
  | [] => rfl
  | x :: l => by
    have e : btF T (constsE (x :: l)) = x :: btF T (constsE l) := rfl
    rw [e, consts_bt T l]
theorem parts_ok {N : Nat} {L : List Nat} {G : Gam} {S : List AV} {T Tf : BT AV} (k : EnvE N L G S T Tf) : ∀ (l : List (Nat × Nat × MO)), gdP (rsP L N G l) = true → partsE (rsP L N G l) S T = partsT Tf l
  | [], _ => rfl
  | p :: l, hg => by
    have hg' : bc (gd (rs1 L N G p.2.2)) (gdP (rsP L N G l)) false = true := hg
    obtain ⟨h1, h2⟩ := bc_and hg'
    have e : partsE (rsP L N G (p :: l)) S T = (p.1, p.2.1, .const (rvE (rs1 L N G p.2.2) S T)) :: partsE (rsP L N G l) S T := rfl
    have e2 : partsT Tf (p :: l) = (p.1, p.2.1, .const (p.2.2.bt Tf)) :: partsT Tf l := rfl
    rw [e, e2, rv_ok k h1, parts_ok k l h2]
theorem parts_twice (T' T : BT AV) : ∀ l : List (Nat × Nat × MO), partsT T' (partsT T l) = partsT T l
  | [] => rfl
  | p :: l => by
    have e : partsT T' (partsT T (p :: l)) = (p.1, p.2.1, .const (p.2.2.bt T)) :: partsT T' (partsT T l) := rfl
    rw [e, parts_twice T' T l]
    rfl
theorem rvO_ok {N : Nat} {L : List Nat} {G : Gam} {S : List AV} {T Tf : BT AV} (k : EnvE N L G S T Tf) (x : Option MO) (hg : gdO (rsO L N G x) = true) : rvO (rsO L N G x) S T = optT Tf x := by
  cases x with
  | none => rfl
  | some x =>
    have h1 : gd (rs1 L N G x) = true := hg
    show some (MO.const (rvE (rs1 L N G x) S T)) = some (MO.const (x.bt Tf))
    rw [rv_ok k h1]
theorem posN_get : ∀ {L : List Nat} {i p : Nat}, posN L i = some p → L[p]? = some i
  | [], i, p, h => by cases h
  | d :: L, i, p, h => by
    have e : posN (d :: L) i = bc (Nat.beq d i) (some 0) (@Option.rec Nat (fun _ => Option Nat) none (fun p => some (Nat.add p 1)) (posN L i)) := rfl
    rw [e, bc_eq] at h
    cases hb : Nat.beq d i with
    | true =>
      rw [hb] at h
      injection h with h
      subst h
      rw [Nat.eq_of_beq_eq_true hb]
      rfl
    | false =>
      rw [hb, cond_false] at h
      cases hq : posN L i with
      | none => rw [hq] at h; cases h
      | some q =>
        rw [hq] at h
        injection h with h
        subst h
        exact posN_get (L := L) hq
theorem posL_some {L : List Nat} {N i p : Nat} (h : posL L N i = some p) : i < N ∧ L[p]? = some i := by
  unfold posL at h
  rw [bc_eq] at h
  cases hb : Nat.blt i N with
  | false => rw [hb] at h; cases h
  | true =>
    rw [hb, cond_true] at h
    exact ⟨blt_lt.1 hb, posN_get h⟩
noncomputable def putE (T : BT AV) (p : Option Nat) (v : AV) : BT AV := @Option.rec Nat (fun _ => BT AV → AV → BT AV) (fun T _ => T) (fun p T v => T.put p v) p T v
theorem EnvC.put {N : Nat} {L : List Nat} {T Tf : BT AV} (k : EnvC N L T Tf) (d : Option Nat) (v : AV) : EnvC N L (putE T (pL L N d) v) (putT Tf d v) := by
  cases d with
  | none => exact k
  | some j =>
    refine ⟨fun i hi => ?_, fun i p hp => ?_⟩
    · have h0 := k.dom i hi
      show ((Tf.set j v).at i).isSome = true
      rw [at_set]
      split
      · cases h : Tf.at i with
        | none => rw [h] at h0; cases h0
        | some w => rfl
      · exact h0
    · have h1 := k.liv i p hp
      obtain ⟨hiN, hLi⟩ := posL_some hp
      have e : putE T (pL L N (some j)) v = putE T (posL L N j) v := rfl
      rw [e]
      show _ = (Tf.set j v).at i
      rw [at_set]
      by_cases hji : j = i
      · subst hji
        rw [hp, if_pos rfl]
        show (T.put p v).at p = _
        rw [put_set, at_set, if_pos rfl, h1]
      · rw [if_neg hji]
        cases hq : posL L N j with
        | none => exact h1
        | some q =>
          show (T.put q v).at p = _
          rw [put_set, at_set, if_neg, h1]
          intro e2
          subst e2
          have := (posL_some hq).2
          rw [hLi] at this
          injection this with this
          exact hji this.symm
theorem EnvE.push {N : Nat} {L : List Nat} {G : Gam} {S : List AV} {T Tf : BT AV} (k : EnvE N L G S T Tf) (d : Option Nat) (v : AV) : EnvE N L (dstN N d :: G) (v :: S) (putE T (pL L N d) v) (putT Tf d v) :=
  ⟨k.c.put d v, ((⟨k.c.dom, k.loc⟩ : Inv N G S Tf).push d v).loc⟩

inductive EOps where
  | nil
  | cons (f : Kd → Kd) (rest : EOps)
noncomputable def runE (c : EOps) : Kd := @EOps.rec (fun _ => Kd) (fun _ _ T _ n H => some (.code .normal T n H)) (fun f _ ih => f ih) c
noncomputable def goE (a : Ac) : Option Nat → Kd → Cx → List AV → BT AV → Nat → Nat → BT AObj → Option TRes := @Ac.rec (fun _ => Option Nat → Kd → Cx → List AV → BT AV → Nat → Nat → BT AObj → Option TRes)
  (fun v d k cx S T z n H => k cx (v :: S) (putE T d v) z n H)
  (fun v b x d k cx S T z n H => bc (Nat.blt b n) (k cx (v :: S) (putE T d v) z n (H.put b x)) none)
  (fun v y d k cx S T z n H => k cx (v :: S) (putE T d v) z (Nat.add n 1) (H.add n y))
  (fun v b x y d k cx S T z n H => bc (Nat.blt b n) (k cx (v :: S) (putE T d v) z (Nat.add n 1) ((H.put b x).add n y)) none) a
noncomputable def stuckE : Kd → Kd := fun _ _ _ _ _ _ _ => none
noncomputable def eMov (x : R4) (d : Option Nat) : Kd → Kd := fun k cx S T z n H => k cx (rvE x S T :: S) (putE T d (rvE x S T)) z n H
noncomputable def eAct0 (f : ActS) (d : Option Nat) : Kd → Kd := fun k cx S T z n H => eOpt (f z n H .leaf) fun a => goE a d k cx S T z n H
noncomputable def eAct1 (f : MO → ActS) (x : R4) (d : Option Nat) : Kd → Kd := fun k cx S T z n H => eOpt (f (.const (rvE x S T)) z n H .leaf) fun a => goE a d k cx S T z n H
noncomputable def eAct2 (f : MO → MO → ActS) (x y : R4) (d : Option Nat) : Kd → Kd := fun k cx S T z n H => eOpt (f (.const (rvE x S T)) (.const (rvE y S T)) z n H .leaf) fun a => goE a d k cx S T z n H
noncomputable def eAct3 (f : MO → MO → MO → ActS) (x y w : R4) (d : Option Nat) : Kd → Kd := fun k cx S T z n H => eOpt (f (.const (rvE x S T)) (.const (rvE y S T)) (.const (rvE w S T)) z n H .leaf) fun a => goE a d k cx S T z n H
noncomputable def eParts (f : List (Nat × Nat × MO) → ActS) (ps : List RPt) (d : Option Nat) : Kd → Kd := fun k cx S T z n H => eOpt (f (partsE ps S T) z n H .leaf) fun a => goE a d k cx S T z n H
noncomputable def eList (f : List MO → ActS) (l : List R4) (d : Option Nat) : Kd → Kd := fun k cx S T z n H => eOpt (f (constsE (rvsE l S T)) z n H .leaf) fun a => goE a d k cx S T z n H
noncomputable def eSli (f : MO → Option MO → Option MO → ActS) (x : R4) (lo hi : Option R4) (d : Option Nat) : Kd → Kd := fun k cx S T z n H => eOpt (f (.const (rvE x S T)) (rvO lo S T) (rvO hi S T) z n H .leaf) fun a => goE a d k cx S T z n H
noncomputable def contE (x : Option TRes) : Option Nat → Kd → Cx → List AV → BT AV → Nat → Option TRes := @Option.rec TRes (fun _ => Option Nat → Kd → Cx → List AV → BT AV → Nat → Option TRes) (fun _ _ _ _ _ _ => none)
  (fun y => @TRes.rec (fun _ => Option Nat → Kd → Cx → List AV → BT AV → Nat → Option TRes) (fun _ _ _ _ _ _ _ _ _ _ => none) (fun v n1 H1 d k cx S T z => k cx (v :: S) (putE T d v) z n1 H1) y) x
noncomputable def eCall (dr : Bool) (f : R4) (args : List R4) (d : Option Nat) : Kd → Kd := fun k cx S T z n H => eFn (rvE f S T) fun g cap => contE (cx g (appF (rvsE args S T) cap) (bc dr n z) n H) d k cx S T z
noncomputable def eGuard (g : Nat × Bool) (r : R4) (d : Option Nat) (f : Kd → Kd) : Kd → Kd := fun k cx S T z n H => bc (eWant (rvE r S T) g.2) (f k cx S T z n H) (k cx (.undef :: S) (putE T d .undef) z n H)
noncomputable def ck (c : Bool) (k : (Kd → Kd) → EOps) (f : Kd → Kd) : EOps := bc c (k f) (k stuckE)
noncomputable def copE (dr : Bool) (L : List Nat) (N : Nat) (G : Gam) (o : MOp) : Option Nat → ((Kd → Kd) → EOps) → EOps := @MOp.rec (fun _ => Option Nat → ((Kd → Kd) → EOps) → EOps) (fun x d k => ck (gd (rs1 L N G x)) k (eMov (rs1 L N G x) (pL L N d))) (fun c a b d k => ck (bc (gd (rs1 L N G c)) (bc (gd (rs1 L N G a)) (gd (rs1 L N G b)) false) false) k (eAct3 (fun c' a' b' => (sPick c' a' b')) (rs1 L N G c) (rs1 L N G a) (rs1 L N G b) (pL L N d))) (fun c es d k => k (eAct0 (sAlloc c es) (pL L N d))) (fun k1 x d k => ck (gd (rs1 L N G x)) k (eAct1 (fun x' => (sBox k1 x')) (rs1 L N G x) (pL L N d))) (fun c ps d k => ck (gdP (rsP L N G ps)) k (eParts (sBuild c) (rsP L N G ps) (pL L N d))) (fun k1 es c ps d k => ck (gdP (rsP L N G ps)) k (eParts (sBuildSlice k1 es c) (rsP L N G ps) (pL L N d))) (fun agg a d k => ck (gd (rs1 L N G a)) k (eAct1 (fun a' => (sLoad agg a')) (rs1 L N G a) (pL L N d))) (fun k1 a x d k => ck (bc (gd (rs1 L N G a)) (gd (rs1 L N G x)) false) k (eAct2 (fun a' x' => (sStore k1 a' x')) (rs1 L N G a) (rs1 L N G x) (pL L N d))) (fun x d k => ck (gd (rs1 L N G x)) k (eAct1 (fun x' => (sNilCheck x')) (rs1 L N G x) (pL L N d))) (fun op x y d k => ck (bc (gd (rs1 L N G x)) (gd (rs1 L N G y)) false) k (eAct2 (fun x' y' => (sBin op x' y')) (rs1 L N G x) (rs1 L N G y) (pL L N d))) (fun k1 neg x y d k => ck (bc (gd (rs1 L N G x)) (gd (rs1 L N G y)) false) k (eAct2 (fun x' y' => (sEqv k1 neg x' y')) (rs1 L N G x) (rs1 L N G y) (pL L N d))) (fun ks neg x y d k => ck (bc (gd (rs1 L N G x)) (gd (rs1 L N G y)) false) k (eAct2 (fun x' y' => (sOld (.eqAgg ks neg x' y'))) (rs1 L N G x) (rs1 L N G y) (pL L N d))) (fun neg x d k => ck (gd (rs1 L N G x)) k (eAct1 (fun x' => (sOld (.isNil neg x'))) (rs1 L N G x) (pL L N d))) (fun op x d k => ck (gd (rs1 L N G x)) k (eAct1 (fun x' => (sUn op x')) (rs1 L N G x) (pL L N d))) (fun k1 x d k => ck (gd (rs1 L N G x)) k (eAct1 (fun x' => (sConvInt k1 x')) (rs1 L N G x) (pL L N d))) (fun x d k => ck (gd (rs1 L N G x)) k (eAct1 (fun x' => (sConvStr x')) (rs1 L N G x) (pL L N d))) (fun ty x d k => ck (gd (rs1 L N G x)) k (eAct1 (fun x' => (sMkIface ty x')) (rs1 L N G x) (pL L N d))) (fun f cap d k => ck (gdL (rsL L N G cap)) k (eList (sMkFn f) (rsL L N G cap) (pL L N d))) (fun d k => k (eAct0 sMkMap (pL L N d))) (fun c bytes l1 c1 d k => ck (bc (gd (rs1 L N G l1)) (gd (rs1 L N G c1)) false) k (eAct2 (fun l1' c1' => (sOld (.mkSlice c bytes l1' c1'))) (rs1 L N G l1) (rs1 L N G c1) (pL L N d))) (fun x lo hi d k => ck (bc (gd (rs1 L N G x)) (bc (gdO (rsO L N G lo)) (gdO (rsO L N G hi)) false) false) k (eSli sSliceStr (rs1 L N G x) (rsO L N G lo) (rsO L N G hi) (pL L N d))) (fun es x lo hi d k => ck (bc (gd (rs1 L N G x)) (bc (gdO (rsO L N G lo)) (gdO (rsO L N G hi)) false) false) k (eSli (sSliceSlc es) (rs1 L N G x) (rsO L N G lo) (rsO L N G hi) (pL L N d))) (fun off x d k => ck (gd (rs1 L N G x)) k (eAct1 (fun x' => (sFieldAddr off x')) (rs1 L N G x) (pL L N d))) (fun off agg x d k => ck (gd (rs1 L N G x)) k (eAct1 (fun x' => (sField off agg x')) (rs1 L N G x) (pL L N d))) (fun es x i d k => ck (bc (gd (rs1 L N G x)) (gd (rs1 L N G i)) false) k (eAct2 (fun x' i' => (sIndexAddr es x' i')) (rs1 L N G x) (rs1 L N G i) (pL L N d))) (fun es m x i d k => ck (bc (gd (rs1 L N G x)) (gd (rs1 L N G i)) false) k (eAct2 (fun x' i' => (sIndexArr es m x' i')) (rs1 L N G x) (rs1 L N G i) (pL L N d))) (fun x i d k => ck (bc (gd (rs1 L N G x)) (gd (rs1 L N G i)) false) k (eAct2 (fun x' i' => (sIndexStr x' i')) (rs1 L N G x) (rs1 L N G i) (pL L N d))) (fun es agg m x i d k => ck (bc (gd (rs1 L N G x)) (gd (rs1 L N G i)) false) k (eAct2 (fun x' i' => (sIndexAgg es agg m x' i')) (rs1 L N G x) (rs1 L N G i) (pL L N d))) (fun y ok m k1 d k => ck (bc (gd (rs1 L N G m)) (gd (rs1 L N G k1)) false) k (eAct2 (fun m' k1' => (sLookup y ok m' k1')) (rs1 L N G m) (rs1 L N G k1) (pL L N d))) (fun m k1 v d k => ck (bc (gd (rs1 L N G m)) (bc (gd (rs1 L N G k1)) (gd (rs1 L N G v)) false) false) k (eAct3 (fun m' k1' v' => (sMapUpdate m' k1' v')) (rs1 L N G m) (rs1 L N G k1) (rs1 L N G v) (pL L N d))) (fun m k1 d k => ck (bc (gd (rs1 L N G m)) (gd (rs1 L N G k1)) false) k (eAct2 (fun m' k1' => (sOld (.mapDelete m' k1'))) (rs1 L N G m) (rs1 L N G k1) (pL L N d))) (fun x d k => ck (gd (rs1 L N G x)) k (eAct1 (fun x' => (sLenStr x')) (rs1 L N G x) (pL L N d))) (fun x d k => ck (gd (rs1 L N G x)) k (eAct1 (fun x' => (sLenSlc x')) (rs1 L N G x) (pL L N d))) (fun x d k => ck (gd (rs1 L N G x)) k (eAct1 (fun x' => (sOld (.lenMap x'))) (rs1 L N G x) (pL L N d))) (fun m d k => k (eAct0 (sLenConst m) (pL L N d))) (fun es bytes s x d k => ck (bc (gd (rs1 L N G s)) (gd (rs1 L N G x)) false) k (eAct2 (fun s' x' => (sAppend es bytes s' x')) (rs1 L N G s) (rs1 L N G x) (pL L N d))) (fun s x d k => ck (bc (gd (rs1 L N G s)) (gd (rs1 L N G x)) false) k (eAct2 (fun s' x' => (sOld (.appendStr s' x'))) (rs1 L N G s) (rs1 L N G x) (pL L N d))) (fun _ _ _ _ k => k stuckE) (fun x y d k => ck (bc (gd (rs1 L N G x)) (gd (rs1 L N G y)) false) k (eAct2 (fun x' y' => (sOld (.mini x' y'))) (rs1 L N G x) (rs1 L N G y) (pL L N d))) (fun x y d k => ck (bc (gd (rs1 L N G x)) (gd (rs1 L N G y)) false) k (eAct2 (fun x' y' => (sOld (.maxi x' y'))) (rs1 L N G x) (rs1 L N G y) (pL L N d))) (fun x d k => ck (gd (rs1 L N G x)) k (eAct1 (fun x' => (sRangeStr x')) (rs1 L N G x) (pL L N d))) (fun x d k => ck (gd (rs1 L N G x)) k (eAct1 (fun x' => (sOld (.runes x'))) (rs1 L N G x) (pL L N d))) (fun x d k => ck (gd (rs1 L N G x)) k (eAct1 (fun x' => (sNextStr x')) (rs1 L N G x) (pL L N d))) (fun i x d k => ck (gd (rs1 L N G x)) k (eAct1 (fun x' => (sExtract i x')) (rs1 L N G x) (pL L N d))) (fun f args d k => ck (bc (gd (rs1 L N G f)) (gdL (rsL L N G args)) false) k (eCall dr (rs1 L N G f) (rsL L N G args) (pL L N d))) o
noncomputable def compE1 (dr : Bool) (L : List Nat) (N : Nat) (G : Gam) (o : MOper) (rest : EOps) : EOps := copE dr L N G o.op o.dst fun f => @Option.rec (Nat × Bool) (fun _ => EOps) (.cons f rest) (fun g => bc (gd (rs1 L N G (.tmp g.1))) (.cons (eGuard g (rs1 L N G (.tmp g.1)) (pL L N o.dst) f) rest) (.cons stuckE rest)) o.guard
noncomputable def compEL (dr : Bool) (L : List Nat) (N : Nat) (l : List MOper) : Gam → EOps := @List.rec MOper (fun _ => Gam → EOps) (fun _ => .nil) (fun o _ ih G => compE1 dr L N G o (ih (dstN N o.dst :: G))) l
theorem ck_spec (c : Bool) (X : Kd → Kd) (Q : (Kd → Kd) → Prop) (h : c = true → Q X) : ∃ f : Kd → Kd, (∀ k, ck c k X = k f) ∧ (f = stuckE ∨ Q f) := by
  cases c with
  | false => exact ⟨stuckE, fun k => rfl, .inl rfl⟩
  | true => exact ⟨X, fun k => rfl, .inr (h rfl)⟩
theorem copE_spec (dr : Bool) (L : List Nat) (N : Nat) (G : Gam) (o : MOp) (d : Option Nat) : ∃ f : Kd → Kd, (∀ k, copE dr L N G o d k = k f) ∧ (f = stuckE ∨ ((callOf o = none ∧ ∀ (S : List AV) (T Tf : BT AV), EnvE N L G S T Tf → ∀ k cx z n H, f k cx S T z n H = eOpt (ofA3 (actT o z n H.at Tf)) fun a => goE a (pL L N d) k cx S T z n H) ∨ ∃ g args, o = .call g args ∧ gd (rs1 L N G g) = true ∧ gdL (rsL L N G args) = true ∧ f = eCall dr (rs1 L N G g) (rsL L N G args) (pL L N d))) := by
  cases o
  case mov x =>
    refine ck_spec (gd (rs1 L N G x)) _ _ fun hc => .inl ⟨rfl, fun S T Tf env k cx z n H => ?_⟩
    show k cx (rvE (rs1 L N G x) S T :: S) (putE T (pL L N d) (rvE (rs1 L N G x) S T)) z n H = _
    rw [rv_ok env hc]
    rfl
  case pick c a b =>
    refine ck_spec (bc (gd (rs1 L N G c)) (bc (gd (rs1 L N G a)) (gd (rs1 L N G b)) false) false) _ _ fun hc => .inl ⟨rfl, fun S T Tf env k cx z n H => ?_⟩
    obtain ⟨h1, hc⟩ := bc_and hc
    obtain ⟨h2, hc⟩ := bc_and hc
    show (eOpt (sPick (.const (rvE (rs1 L N G c) S T)) (.const (rvE (rs1 L N G a) S T)) (.const (rvE (rs1 L N G b) S T)) z n H .leaf) fun a => goE a (pL L N d) k cx S T z n H) = _
    rw [rv_ok env h1, rv_ok env h2, rv_ok env hc]
    exact congrArg (fun x => eOpt x fun a => goE a (pL L N d) k cx S T z n H) (actS_eq (.pick (.const (c.bt Tf)) (.const (a.bt Tf)) (.const (b.bt Tf))) z n H .leaf)
  case alloc c es => exact ⟨_, fun k => rfl, .inr (.inl ⟨rfl, fun S T Tf env k cx z n H => congrArg (fun x => eOpt x fun a => goE a (pL L N d) k cx S T z n H) (actS_eq (.alloc c es) z n H .leaf)⟩)⟩
  case box k1 x =>
    refine ck_spec (gd (rs1 L N G x)) _ _ fun hc => .inl ⟨rfl, fun S T Tf env k cx z n H => ?_⟩
    show (eOpt (sBox k1 (.const (rvE (rs1 L N G x) S T)) z n H .leaf) fun a => goE a (pL L N d) k cx S T z n H) = _
    rw [rv_ok env hc]
    exact congrArg (fun x => eOpt x fun a => goE a (pL L N d) k cx S T z n H) (actS_eq (.box k1 (.const (x.bt Tf))) z n H .leaf)
  case build c ps =>
    refine ck_spec (gdP (rsP L N G ps)) _ _ fun hc => .inl ⟨rfl, fun S T Tf env k cx z n H => ?_⟩
    show (eOpt (sBuild c (partsE (rsP L N G ps) S T) z n H .leaf) fun a => goE a (pL L N d) k cx S T z n H) = _
    rw [parts_ok env ps hc]
    refine congrArg (fun x => eOpt x fun a => goE a (pL L N d) k cx S T z n H) ((actS_eq (.build c (partsT Tf ps)) z n H .leaf).trans ?_)
    show ofA3 (pR (fBuild c (partsT .leaf (partsT Tf ps)) 0 0 [] [])) = ofA3 (pR (fBuild c (partsT Tf ps) 0 0 [] []))
    rw [parts_twice]
  case buildSlice k1 es c ps =>
    refine ck_spec (gdP (rsP L N G ps)) _ _ fun hc => .inl ⟨rfl, fun S T Tf env k cx z n H => ?_⟩
    show (eOpt (sBuildSlice k1 es c (partsE (rsP L N G ps) S T) z n H .leaf) fun a => goE a (pL L N d) k cx S T z n H) = _
    rw [parts_ok env ps hc]
    refine congrArg (fun x => eOpt x fun a => goE a (pL L N d) k cx S T z n H) ((actS_eq (.buildSlice k1 es c (partsT Tf ps)) z n H .leaf).trans ?_)
    show ofA3 (aBuildSlice n k1 es c (partsT .leaf (partsT Tf ps))) = ofA3 (aBuildSlice n k1 es c (partsT Tf ps))
    rw [parts_twice]
  case load agg a =>
    refine ck_spec (gd (rs1 L N G a)) _ _ fun hc => .inl ⟨rfl, fun S T Tf env k cx z n H => ?_⟩
    show (eOpt (sLoad agg (.const (rvE (rs1 L N G a) S T)) z n H .leaf) fun a => goE a (pL L N d) k cx S T z n H) = _
    rw [rv_ok env hc]
    exact congrArg (fun x => eOpt x fun a => goE a (pL L N d) k cx S T z n H) (actS_eq (.load agg (.const (a.bt Tf))) z n H .leaf)
  case store k1 a x =>
    refine ck_spec (bc (gd (rs1 L N G a)) (gd (rs1 L N G x)) false) _ _ fun hc => .inl ⟨rfl, fun S T Tf env k cx z n H => ?_⟩
    obtain ⟨h1, hc⟩ := bc_and hc
    show (eOpt (sStore k1 (.const (rvE (rs1 L N G a) S T)) (.const (rvE (rs1 L N G x) S T)) z n H .leaf) fun a => goE a (pL L N d) k cx S T z n H) = _
    rw [rv_ok env h1, rv_ok env hc]
    exact congrArg (fun x => eOpt x fun a => goE a (pL L N d) k cx S T z n H) (actS_eq (.store k1 (.const (a.bt Tf)) (.const (x.bt Tf))) z n H .leaf)
  case nilCheck x =>
    refine ck_spec (gd (rs1 L N G x)) _ _ fun hc => .inl ⟨rfl, fun S T Tf env k cx z n H => ?_⟩
    show (eOpt (sNilCheck (.const (rvE (rs1 L N G x) S T)) z n H .leaf) fun a => goE a (pL L N d) k cx S T z n H) = _
    rw [rv_ok env hc]
    exact congrArg (fun x => eOpt x fun a => goE a (pL L N d) k cx S T z n H) (actS_eq (.nilCheck (.const (x.bt Tf))) z n H .leaf)
  case bin op x y =>
    refine ck_spec (bc (gd (rs1 L N G x)) (gd (rs1 L N G y)) false) _ _ fun hc => .inl ⟨rfl, fun S T Tf env k cx z n H => ?_⟩
    obtain ⟨h1, hc⟩ := bc_and hc
    show (eOpt (sBin op (.const (rvE (rs1 L N G x) S T)) (.const (rvE (rs1 L N G y) S T)) z n H .leaf) fun a => goE a (pL L N d) k cx S T z n H) = _
    rw [rv_ok env h1, rv_ok env hc]
    exact congrArg (fun x => eOpt x fun a => goE a (pL L N d) k cx S T z n H) (actS_eq (.bin op (.const (x.bt Tf)) (.const (y.bt Tf))) z n H .leaf)
  case eqv k1 neg x y =>
    refine ck_spec (bc (gd (rs1 L N G x)) (gd (rs1 L N G y)) false) _ _ fun hc => .inl ⟨rfl, fun S T Tf env k cx z n H => ?_⟩
    obtain ⟨h1, hc⟩ := bc_and hc
    show (eOpt (sEqv k1 neg (.const (rvE (rs1 L N G x) S T)) (.const (rvE (rs1 L N G y) S T)) z n H .leaf) fun a => goE a (pL L N d) k cx S T z n H) = _
    rw [rv_ok env h1, rv_ok env hc]
    exact congrArg (fun x => eOpt x fun a => goE a (pL L N d) k cx S T z n H) (actS_eq (.eqv k1 neg (.const (x.bt Tf)) (.const (y.bt Tf))) z n H .leaf)
  case eqAgg ks neg x y =>
    refine ck_spec (bc (gd (rs1 L N G x)) (gd (rs1 L N G y)) false) _ _ fun hc => .inl ⟨rfl, fun S T Tf env k cx z n H => ?_⟩
    obtain ⟨h1, hc⟩ := bc_and hc
    show (eOpt (sOld (.eqAgg ks neg (.const (rvE (rs1 L N G x) S T)) (.const (rvE (rs1 L N G y) S T))) z n H .leaf) fun a => goE a (pL L N d) k cx S T z n H) = _
    rw [rv_ok env h1, rv_ok env hc]
    exact congrArg (fun x => eOpt x fun a => goE a (pL L N d) k cx S T z n H) (actS_eq (.eqAgg ks neg (.const (x.bt Tf)) (.const (y.bt Tf))) z n H .leaf)
  case isNil neg x =>
    refine ck_spec (gd (rs1 L N G x)) _ _ fun hc => .inl ⟨rfl, fun S T Tf env k cx z n H => ?_⟩
    show (eOpt (sOld (.isNil neg (.const (rvE (rs1 L N G x) S T))) z n H .leaf) fun a => goE a (pL L N d) k cx S T z n H) = _
    rw [rv_ok env hc]
    exact congrArg (fun x => eOpt x fun a => goE a (pL L N d) k cx S T z n H) (actS_eq (.isNil neg (.const (x.bt Tf))) z n H .leaf)
  case un op x =>
    refine ck_spec (gd (rs1 L N G x)) _ _ fun hc => .inl ⟨rfl, fun S T Tf env k cx z n H => ?_⟩
    show (eOpt (sUn op (.const (rvE (rs1 L N G x) S T)) z n H .leaf) fun a => goE a (pL L N d) k cx S T z n H) = _
    rw [rv_ok env hc]
    exact congrArg (fun x => eOpt x fun a => goE a (pL L N d) k cx S T z n H) (actS_eq (.un op (.const (x.bt Tf))) z n H .leaf)
  case convInt k1 x =>
    refine ck_spec (gd (rs1 L N G x)) _ _ fun hc => .inl ⟨rfl, fun S T Tf env k cx z n H => ?_⟩
    show (eOpt (sConvInt k1 (.const (rvE (rs1 L N G x) S T)) z n H .leaf) fun a => goE a (pL L N d) k cx S T z n H) = _
    rw [rv_ok env hc]
    exact congrArg (fun x => eOpt x fun a => goE a (pL L N d) k cx S T z n H) (actS_eq (.convInt k1 (.const (x.bt Tf))) z n H .leaf)
  case convStr x =>
    refine ck_spec (gd (rs1 L N G x)) _ _ fun hc => .inl ⟨rfl, fun S T Tf env k cx z n H => ?_⟩
    show (eOpt (sConvStr (.const (rvE (rs1 L N G x) S T)) z n H .leaf) fun a => goE a (pL L N d) k cx S T z n H) = _
    rw [rv_ok env hc]
    exact congrArg (fun x => eOpt x fun a => goE a (pL L N d) k cx S T z n H) (actS_eq (.convStr (.const (x.bt Tf))) z n H .leaf)
  case mkIface ty x =>
    refine ck_spec (gd (rs1 L N G x)) _ _ fun hc => .inl ⟨rfl, fun S T Tf env k cx z n H => ?_⟩
    show (eOpt (sMkIface ty (.const (rvE (rs1 L N G x) S T)) z n H .leaf) fun a => goE a (pL L N d) k cx S T z n H) = _
    rw [rv_ok env hc]
    exact congrArg (fun x => eOpt x fun a => goE a (pL L N d) k cx S T z n H) (actS_eq (.mkIface ty (.const (x.bt Tf))) z n H .leaf)
  case mkFn f cap =>
    refine ck_spec (gdL (rsL L N G cap)) _ _ fun hc => .inl ⟨rfl, fun S T Tf env k cx z n H => ?_⟩
    show (eOpt (sMkFn f (constsE (rvsE (rsL L N G cap) S T)) z n H .leaf) fun a => goE a (pL L N d) k cx S T z n H) = _
    rw [rvs_ok env cap hc]
    refine congrArg (fun x => eOpt x fun a => goE a (pL L N d) k cx S T z n H) ((actS_eq (.mkFn f (constsE (btF Tf cap))) z n H .leaf).trans ?_)
    show ofA3 (some (.fn f (btF .leaf (constsE (btF Tf cap))), none, none)) = ofA3 (some (.fn f (btF Tf cap), none, none))
    rw [consts_bt]
  case mkMap => exact ⟨_, fun k => rfl, .inr (.inl ⟨rfl, fun S T Tf env k cx z n H => congrArg (fun x => eOpt x fun a => goE a (pL L N d) k cx S T z n H) (actS_eq (.mkMap) z n H .leaf)⟩)⟩
  case mkSlice c bytes l1 c1 =>
    refine ck_spec (bc (gd (rs1 L N G l1)) (gd (rs1 L N G c1)) false) _ _ fun hc => .inl ⟨rfl, fun S T Tf env k cx z n H => ?_⟩
    obtain ⟨h1, hc⟩ := bc_and hc
    show (eOpt (sOld (.mkSlice c bytes (.const (rvE (rs1 L N G l1) S T)) (.const (rvE (rs1 L N G c1) S T))) z n H .leaf) fun a => goE a (pL L N d) k cx S T z n H) = _
    rw [rv_ok env h1, rv_ok env hc]
    exact congrArg (fun x => eOpt x fun a => goE a (pL L N d) k cx S T z n H) (actS_eq (.mkSlice c bytes (.const (l1.bt Tf)) (.const (c1.bt Tf))) z n H .leaf)
  case sliceStr x lo hi =>
    refine ck_spec (bc (gd (rs1 L N G x)) (bc (gdO (rsO L N G lo)) (gdO (rsO L N G hi)) false) false) _ _ fun hc => .inl ⟨rfl, fun S T Tf env k cx z n H => ?_⟩
    obtain ⟨h1, h2⟩ := bc_and hc
    obtain ⟨h2, h3⟩ := bc_and h2
    show (eOpt (sSliceStr (.const (rvE (rs1 L N G x) S T)) (rvO (rsO L N G lo) S T) (rvO (rsO L N G hi) S T) z n H .leaf) fun a => goE a (pL L N d) k cx S T z n H) = _
    rw [rv_ok env h1, rvO_ok env lo h2, rvO_ok env hi h3]
    refine congrArg (fun x => eOpt x fun a => goE a (pL L N d) k cx S T z n H) ((actS_eq (.sliceStr (.const (x.bt Tf)) (optT Tf lo) (optT Tf hi)) z n H .leaf).trans ?_)
    cases lo <;> cases hi <;> rfl
  case sliceSlc es x lo hi =>
    refine ck_spec (bc (gd (rs1 L N G x)) (bc (gdO (rsO L N G lo)) (gdO (rsO L N G hi)) false) false) _ _ fun hc => .inl ⟨rfl, fun S T Tf env k cx z n H => ?_⟩
    obtain ⟨h1, h2⟩ := bc_and hc
    obtain ⟨h2, h3⟩ := bc_and h2
    show (eOpt (sSliceSlc es (.const (rvE (rs1 L N G x) S T)) (rvO (rsO L N G lo) S T) (rvO (rsO L N G hi) S T) z n H .leaf) fun a => goE a (pL L N d) k cx S T z n H) = _
    rw [rv_ok env h1, rvO_ok env lo h2, rvO_ok env hi h3]
    refine congrArg (fun x => eOpt x fun a => goE a (pL L N d) k cx S T z n H) ((actS_eq (.sliceSlc es (.const (x.bt Tf)) (optT Tf lo) (optT Tf hi)) z n H .leaf).trans ?_)
    cases lo <;> cases hi <;> rfl
  case fieldAddr off x =>
    refine ck_spec (gd (rs1 L N G x)) _ _ fun hc => .inl ⟨rfl, fun S T Tf env k cx z n H => ?_⟩
    show (eOpt (sFieldAddr off (.const (rvE (rs1 L N G x) S T)) z n H .leaf) fun a => goE a (pL L N d) k cx S T z n H) = _
    rw [rv_ok env hc]
    exact congrArg (fun x => eOpt x fun a => goE a (pL L N d) k cx S T z n H) (actS_eq (.fieldAddr off (.const (x.bt Tf))) z n H .leaf)
  case field off agg x =>
    refine ck_spec (gd (rs1 L N G x)) _ _ fun hc => .inl ⟨rfl, fun S T Tf env k cx z n H => ?_⟩
    show (eOpt (sField off agg (.const (rvE (rs1 L N G x) S T)) z n H .leaf) fun a => goE a (pL L N d) k cx S T z n H) = _
    rw [rv_ok env hc]
    exact congrArg (fun x => eOpt x fun a => goE a (pL L N d) k cx S T z n H) (actS_eq (.field off agg (.const (x.bt Tf))) z n H .leaf)
  case indexAddr es x i =>
    refine ck_spec (bc (gd (rs1 L N G x)) (gd (rs1 L N G i)) false) _ _ fun hc => .inl ⟨rfl, fun S T Tf env k cx z n H => ?_⟩
    obtain ⟨h1, hc⟩ := bc_and hc
    show (eOpt (sIndexAddr es (.const (rvE (rs1 L N G x) S T)) (.const (rvE (rs1 L N G i) S T)) z n H .leaf) fun a => goE a (pL L N d) k cx S T z n H) = _
    rw [rv_ok env h1, rv_ok env hc]
    exact congrArg (fun x => eOpt x fun a => goE a (pL L N d) k cx S T z n H) (actS_eq (.indexAddr es (.const (x.bt Tf)) (.const (i.bt Tf))) z n H .leaf)
  case indexArr es m x i =>
    refine ck_spec (bc (gd (rs1 L N G x)) (gd (rs1 L N G i)) false) _ _ fun hc => .inl ⟨rfl, fun S T Tf env k cx z n H => ?_⟩
    obtain ⟨h1, hc⟩ := bc_and hc
    show (eOpt (sIndexArr es m (.const (rvE (rs1 L N G x) S T)) (.const (rvE (rs1 L N G i) S T)) z n H .leaf) fun a => goE a (pL L N d) k cx S T z n H) = _
    rw [rv_ok env h1, rv_ok env hc]
    exact congrArg (fun x => eOpt x fun a => goE a (pL L N d) k cx S T z n H) (actS_eq (.indexArr es m (.const (x.bt Tf)) (.const (i.bt Tf))) z n H .leaf)
  case indexStr x i =>
    refine ck_spec (bc (gd (rs1 L N G x)) (gd (rs1 L N G i)) false) _ _ fun hc => .inl ⟨rfl, fun S T Tf env k cx z n H => ?_⟩
    obtain ⟨h1, hc⟩ := bc_and hc
    show (eOpt (sIndexStr (.const (rvE (rs1 L N G x) S T)) (.const (rvE (rs1 L N G i) S T)) z n H .leaf) fun a => goE a (pL L N d) k cx S T z n H) = _
    rw [rv_ok env h1, rv_ok env hc]
    exact congrArg (fun x => eOpt x fun a => goE a (pL L N d) k cx S T z n H) (actS_eq (.indexStr (.const (x.bt Tf)) (.const (i.bt Tf))) z n H .leaf)
  case indexAgg es agg m x i =>
    refine ck_spec (bc (gd (rs1 L N G x)) (gd (rs1 L N G i)) false) _ _ fun hc => .inl ⟨rfl, fun S T Tf env k cx z n H => ?_⟩
    obtain ⟨h1, hc⟩ := bc_and hc
    show (eOpt (sIndexAgg es agg m (.const (rvE (rs1 L N G x) S T)) (.const (rvE (rs1 L N G i) S T)) z n H .leaf) fun a => goE a (pL L N d) k cx S T z n H) = _
    rw [rv_ok env h1, rv_ok env hc]
    exact congrArg (fun x => eOpt x fun a => goE a (pL L N d) k cx S T z n H) (actS_eq (.indexAgg es agg m (.const (x.bt Tf)) (.const (i.bt Tf))) z n H .leaf)
  case lookup y ok m k1 =>
    refine ck_spec (bc (gd (rs1 L N G m)) (gd (rs1 L N G k1)) false) _ _ fun hc => .inl ⟨rfl, fun S T Tf env k cx z n H => ?_⟩
    obtain ⟨h1, hc⟩ := bc_and hc
    show (eOpt (sLookup y ok (.const (rvE (rs1 L N G m) S T)) (.const (rvE (rs1 L N G k1) S T)) z n H .leaf) fun a => goE a (pL L N d) k cx S T z n H) = _
    rw [rv_ok env h1, rv_ok env hc]
    exact congrArg (fun x => eOpt x fun a => goE a (pL L N d) k cx S T z n H) (actS_eq (.lookup y ok (.const (m.bt Tf)) (.const (k1.bt Tf))) z n H .leaf)
  case mapUpdate m k1 v =>
    refine ck_spec (bc (gd (rs1 L N G m)) (bc (gd (rs1 L N G k1)) (gd (rs1 L N G v)) false) false) _ _ fun hc => .inl ⟨rfl, fun S T Tf env k cx z n H => ?_⟩
    obtain ⟨h1, hc⟩ := bc_and hc
    obtain ⟨h2, hc⟩ := bc_and hc
    show (eOpt (sMapUpdate (.const (rvE (rs1 L N G m) S T)) (.const (rvE (rs1 L N G k1) S T)) (.const (rvE (rs1 L N G v) S T)) z n H .leaf) fun a => goE a (pL L N d) k cx S T z n H) = _
    rw [rv_ok env h1, rv_ok env h2, rv_ok env hc]
    exact congrArg (fun x => eOpt x fun a => goE a (pL L N d) k cx S T z n H) (actS_eq (.mapUpdate (.const (m.bt Tf)) (.const (k1.bt Tf)) (.const (v.bt Tf))) z n H .leaf)
  case mapDelete m k1 =>
    refine ck_spec (bc (gd (rs1 L N G m)) (gd (rs1 L N G k1)) false) _ _ fun hc => .inl ⟨rfl, fun S T Tf env k cx z n H => ?_⟩
    obtain ⟨h1, hc⟩ := bc_and hc
    show (eOpt (sOld (.mapDelete (.const (rvE (rs1 L N G m) S T)) (.const (rvE (rs1 L N G k1) S T))) z n H .leaf) fun a => goE a (pL L N d) k cx S T z n H) = _
    rw [rv_ok env h1, rv_ok env hc]
    exact congrArg (fun x => eOpt x fun a => goE a (pL L N d) k cx S T z n H) (actS_eq (.mapDelete (.const (m.bt Tf)) (.const (k1.bt Tf))) z n H .leaf)
  case lenStr x =>
    refine ck_spec (gd (rs1 L N G x)) _ _ fun hc => .inl ⟨rfl, fun S T Tf env k cx z n H => ?_⟩
    show (eOpt (sLenStr (.const (rvE (rs1 L N G x) S T)) z n H .leaf) fun a => goE a (pL L N d) k cx S T z n H) = _
    rw [rv_ok env hc]
    exact congrArg (fun x => eOpt x fun a => goE a (pL L N d) k cx S T z n H) (actS_eq (.lenStr (.const (x.bt Tf))) z n H .leaf)
  case lenSlc x =>
    refine ck_spec (gd (rs1 L N G x)) _ _ fun hc => .inl ⟨rfl, fun S T Tf env k cx z n H => ?_⟩
    show (eOpt (sLenSlc (.const (rvE (rs1 L N G x) S T)) z n H .leaf) fun a => goE a (pL L N d) k cx S T z n H) = _
    rw [rv_ok env hc]
    exact congrArg (fun x => eOpt x fun a => goE a (pL L N d) k cx S T z n H) (actS_eq (.lenSlc (.const (x.bt Tf))) z n H .leaf)
  case lenMap x =>
    refine ck_spec (gd (rs1 L N G x)) _ _ fun hc => .inl ⟨rfl, fun S T Tf env k cx z n H => ?_⟩
    show (eOpt (sOld (.lenMap (.const (rvE (rs1 L N G x) S T))) z n H .leaf) fun a => goE a (pL L N d) k cx S T z n H) = _
    rw [rv_ok env hc]
    exact congrArg (fun x => eOpt x fun a => goE a (pL L N d) k cx S T z n H) (actS_eq (.lenMap (.const (x.bt Tf))) z n H .leaf)
  case lenConst m => exact ⟨_, fun k => rfl, .inr (.inl ⟨rfl, fun S T Tf env k cx z n H => congrArg (fun x => eOpt x fun a => goE a (pL L N d) k cx S T z n H) (actS_eq (.lenConst m) z n H .leaf)⟩)⟩
  case append es bytes s x =>
    refine ck_spec (bc (gd (rs1 L N G s)) (gd (rs1 L N G x)) false) _ _ fun hc => .inl ⟨rfl, fun S T Tf env k cx z n H => ?_⟩
    obtain ⟨h1, hc⟩ := bc_and hc
    show (eOpt (sAppend es bytes (.const (rvE (rs1 L N G s) S T)) (.const (rvE (rs1 L N G x) S T)) z n H .leaf) fun a => goE a (pL L N d) k cx S T z n H) = _
    rw [rv_ok env h1, rv_ok env hc]
    exact congrArg (fun x => eOpt x fun a => goE a (pL L N d) k cx S T z n H) (actS_eq (.append es bytes (.const (s.bt Tf)) (.const (x.bt Tf))) z n H .leaf)
  case appendStr s x =>
    refine ck_spec (bc (gd (rs1 L N G s)) (gd (rs1 L N G x)) false) _ _ fun hc => .inl ⟨rfl, fun S T Tf env k cx z n H => ?_⟩
    obtain ⟨h1, hc⟩ := bc_and hc
    show (eOpt (sOld (.appendStr (.const (rvE (rs1 L N G s) S T)) (.const (rvE (rs1 L N G x) S T))) z n H .leaf) fun a => goE a (pL L N d) k cx S T z n H) = _
    rw [rv_ok env h1, rv_ok env hc]
    exact congrArg (fun x => eOpt x fun a => goE a (pL L N d) k cx S T z n H) (actS_eq (.appendStr (.const (s.bt Tf)) (.const (x.bt Tf))) z n H .leaf)
  case copy => exact ⟨stuckE, fun k => rfl, .inl rfl⟩
  case mini x y =>
    refine ck_spec (bc (gd (rs1 L N G x)) (gd (rs1 L N G y)) false) _ _ fun hc => .inl ⟨rfl, fun S T Tf env k cx z n H => ?_⟩
    obtain ⟨h1, hc⟩ := bc_and hc
    show (eOpt (sOld (.mini (.const (rvE (rs1 L N G x) S T)) (.const (rvE (rs1 L N G y) S T))) z n H .leaf) fun a => goE a (pL L N d) k cx S T z n H) = _
    rw [rv_ok env h1, rv_ok env hc]
    exact congrArg (fun x => eOpt x fun a => goE a (pL L N d) k cx S T z n H) (actS_eq (.mini (.const (x.bt Tf)) (.const (y.bt Tf))) z n H .leaf)
  case maxi x y =>
    refine ck_spec (bc (gd (rs1 L N G x)) (gd (rs1 L N G y)) false) _ _ fun hc => .inl ⟨rfl, fun S T Tf env k cx z n H => ?_⟩
    obtain ⟨h1, hc⟩ := bc_and hc
    show (eOpt (sOld (.maxi (.const (rvE (rs1 L N G x) S T)) (.const (rvE (rs1 L N G y) S T))) z n H .leaf) fun a => goE a (pL L N d) k cx S T z n H) = _
    rw [rv_ok env h1, rv_ok env hc]
    exact congrArg (fun x => eOpt x fun a => goE a (pL L N d) k cx S T z n H) (actS_eq (.maxi (.const (x.bt Tf)) (.const (y.bt Tf))) z n H .leaf)
  case rangeStr x =>
    refine ck_spec (gd (rs1 L N G x)) _ _ fun hc => .inl ⟨rfl, fun S T Tf env k cx z n H => ?_⟩
    show (eOpt (sRangeStr (.const (rvE (rs1 L N G x) S T)) z n H .leaf) fun a => goE a (pL L N d) k cx S T z n H) = _
    rw [rv_ok env hc]
    exact congrArg (fun x => eOpt x fun a => goE a (pL L N d) k cx S T z n H) (actS_eq (.rangeStr (.const (x.bt Tf))) z n H .leaf)
  case runes x =>
    refine ck_spec (gd (rs1 L N G x)) _ _ fun hc => .inl ⟨rfl, fun S T Tf env k cx z n H => ?_⟩
    show (eOpt (sOld (.runes (.const (rvE (rs1 L N G x) S T))) z n H .leaf) fun a => goE a (pL L N d) k cx S T z n H) = _
    rw [rv_ok env hc]
    exact congrArg (fun x => eOpt x fun a => goE a (pL L N d) k cx S T z n H) (actS_eq (.runes (.const (x.bt Tf))) z n H .leaf)
  case nextStr x =>
    refine ck_spec (gd (rs1 L N G x)) _ _ fun hc => .inl ⟨rfl, fun S T Tf env k cx z n H => ?_⟩
    show (eOpt (sNextStr (.const (rvE (rs1 L N G x) S T)) z n H .leaf) fun a => goE a (pL L N d) k cx S T z n H) = _
    rw [rv_ok env hc]
    exact congrArg (fun x => eOpt x fun a => goE a (pL L N d) k cx S T z n H) (actS_eq (.nextStr (.const (x.bt Tf))) z n H .leaf)
  case extract i x =>
    refine ck_spec (gd (rs1 L N G x)) _ _ fun hc => .inl ⟨rfl, fun S T Tf env k cx z n H => ?_⟩
    show (eOpt (sExtract i (.const (rvE (rs1 L N G x) S T)) z n H .leaf) fun a => goE a (pL L N d) k cx S T z n H) = _
    rw [rv_ok env hc]
    exact congrArg (fun x => eOpt x fun a => goE a (pL L N d) k cx S T z n H) (actS_eq (.extract i (.const (x.bt Tf))) z n H .leaf)
  case call f args =>
    refine ck_spec (bc (gd (rs1 L N G f)) (gdL (rsL L N G args)) false) _ _ fun hc => .inr ?_
    obtain ⟨h1, h2⟩ := bc_and hc
    exact ⟨f, args, rfl, h1, h2, rfl⟩
end Go.Abs

set_option linter.unusedVariables false
set_option linter.unusedSimpArgs false
namespace Go.Abs

theorem goE_eq (a : A3) (d : Option Nat) (k : Kd) (cx : Cx) (S : List AV) (T : BT AV) (z n : Nat) (H : BT AObj) : (eOpt (ofA3 a) fun a => goE a d k cx S T z n H) = match runT n H a with
    | some p => k cx (p.1 :: S) (putE T d p.1) z p.2.1 p.2.2
    | none => none := by
  rw [eOpt_eq]
  cases a with
  | none => rfl
  | some p =>
    obtain ⟨v, s, y⟩ := p
    cases s with
    | none =>
      cases y with
      | none => rfl
      | some y =>
        show k cx (v :: S) (putE T d v) z (n + 1) (H.add n y) = k cx (v :: S) (putE T d v) z (n + 1) (H.push n y)
        rw [add_push]
    | some q =>
      obtain ⟨b, x⟩ := q
      cases y with
      | none =>
        show bc (Nat.blt b n) (k cx (v :: S) (putE T d v) z n (H.put b x)) none = _
        simp only [runT]
        rw [put_set, bc_eq]
        cases Nat.blt b n <;> rfl
      | some y =>
        show bc (Nat.blt b n) (k cx (v :: S) (putE T d v) z (n + 1) ((H.put b x).add n y)) none = _
        simp only [runT]
        rw [put_set, add_push, bc_eq]
        cases Nat.blt b n <;> rfl

def RelE (N : Nat) (L : List Nat) : TRes → TRes → Prop
  | .code m T n H, .code m' Tf n' H' => m = m' ∧ n = n' ∧ H = H' ∧ EnvC N L T Tf
  | .val v n H, .val v' n' H' => v = v' ∧ n = n' ∧ H = H'
  | _, _ => False
theorem rel_code {N : Nat} {L : List Nat} {m : MX} {T : BT AV} {n : Nat} {H : BT AObj} {r : TRes} (h : RelE N L (.code m T n H) r) : ∃ Tf, r = .code m Tf n H ∧ EnvC N L T Tf := by
  cases r with
  | val v n' H' => cases h
  | code m' Tf n' H' =>
    obtain ⟨rfl, rfl, rfl, k⟩ := h
    exact ⟨Tf, rfl, k⟩
theorem rel_val {N : Nat} {L : List Nat} {v : AV} {n : Nat} {H : BT AObj} {r : TRes} (h : RelE N L (.val v n H) r) : r = .val v n H := by
  cases r with
  | code m' Tf n' H' => cases h
  | val v' n' H' =>
    obtain ⟨rfl, rfl, rfl⟩ := h
    rfl

theorem runE_ok {E : EMod} {cx : Cx} (hcx : CxOK E cx) (dr : Bool) (N : Nat) (L : List Nat) : ∀ (l : List MOper) (G : Gam) (S : List AV) (T Tf : BT AV) (z n : Nat) (H : BT AObj) (r : TRes), EnvE N L G S T Tf → runE (compEL dr L N l G) cx S T z n H = some r → ∃ r', Rk E (.ops dr l Tf) z n H r' ∧ RelE N L r r'
  | [], G, S, T, Tf, z, n, H, r, hi, h => by
    have h' : some (TRes.code .normal T n H) = some r := h
    injection h' with h'
    subst h'
    exact ⟨_, ⟨1, rfl⟩, rfl, rfl, rfl, hi.c⟩
  | o :: l, G, S, T, Tf, z, n, H, r, hi, h => by
    obtain ⟨f, hf, hk⟩ := copE_spec dr L N G o.op o.dst
    have e : compEL dr L N (o :: l) G = compE1 dr L N G o (compEL dr L N l (dstN N o.dst :: G)) := rfl
    rw [e] at h
    unfold compE1 at h
    rw [hf] at h
    have want : ∀ (b : Bool), wantT Tf o.guard = b → ∀ k, evT E (k + 1) (.ops dr (o :: l) Tf) z n H = cond b (opKT (evT E k) dr o.op o.dst l Tf z n H) (evT E k (.ops dr l (putT Tf o.dst .undef)) z n H) := by
      intro b hb k
      rw [← hb]
      rfl
    have main : wantT Tf o.guard = true → f (runE (compEL dr L N l (dstN N o.dst :: G))) cx S T z n H = some r → ∃ r', Rk E (.ops dr (o :: l) Tf) z n H r' ∧ RelE N L r r' := by
      intro hw h
      rcases hk with rfl | ⟨hc, hk⟩ | ⟨g, args, hc, hg1, hg2, rfl⟩
      · cases h
      · rw [hk S T Tf hi, goE_eq] at h
        cases hx : runT n H (actT o.op z n H.at Tf) with
        | none => rw [hx] at h; cases h
        | some p =>
          rw [hx] at h
          obtain ⟨r', ⟨k, h1⟩, h2⟩ := runE_ok hcx dr N L l _ _ _ _ _ _ _ _ (hi.push o.dst p.1) h
          refine ⟨r', ⟨k + 1, ?_⟩, h2⟩
          rw [want true hw]
          simp only [cond_true, opKT, hc, hx]
          exact h1
      · have h' : (eFn (rvE (rs1 L N G g) S T) fun g cap => contE (cx g (appF (rvsE (rsL L N G args) S T) cap) (bc dr n z) n H) (pL L N o.dst) (runE (compEL dr L N l (dstN N o.dst :: G))) cx S T z) = some r := h
        rw [rv_ok hi hg1, eFn_eq] at h'
        cases hv : g.bt Tf <;> rw [hv] at h' <;> simp only [fnK] at h' <;> first
          | (cases h'; done)
          | skip
        rename_i g' cap
        rw [rvs_ok hi args hg2, bc_eq] at h'
        cases h1 : cx g' (appF (btF Tf args) cap) (cond dr n z) n H with
        | none => rw [h1] at h'; cases h'
        | some y =>
          rw [h1] at h'
          cases y with
          | code m T1 n1 H1 => cases h'
          | val v n1 H1 =>
            have h2 : runE (compEL dr L N l (dstN N o.dst :: G)) cx (v :: S) (putE T (pL L N o.dst) v) z n1 H1 = some r := h'
            obtain ⟨r', ⟨k1, h3⟩, h7⟩ := runE_ok hcx dr N L l _ _ _ _ _ _ _ _ (hi.push o.dst v) h2
            obtain ⟨k2, h4⟩ := hcx.out _ _ _ _ _ _ h1
            refine ⟨r', ⟨max k1 k2 + 1, ?_⟩, h7⟩
            rw [want true hw]
            have h5 := (evT_mono E (Nat.le_max_right k1 k2)).out _ _ _ _ _ h4
            have h6 := (evT_mono E (Nat.le_max_left k1 k2)).out _ _ _ _ _ h3
            simp only [cond_true, opKT, hc, callOf, hv, fnK, h5, nextVT]
            exact h6
    cases hg : o.guard with
    | none =>
      rw [hg] at h
      exact main (by rw [hg]; rfl) h
    | some g =>
      rw [hg] at h
      have h' : runE (bc (gd (rs1 L N G (.tmp g.1))) (.cons (eGuard g (rs1 L N G (.tmp g.1)) (pL L N o.dst) f) (compEL dr L N l (dstN N o.dst :: G))) (.cons stuckE (compEL dr L N l (dstN N o.dst :: G)))) cx S T z n H = some r := h
      rw [bc_eq] at h'
      cases hgd : gd (rs1 L N G (.tmp g.1)) with
      | false =>
        rw [hgd] at h'
        cases h'
      | true =>
        rw [hgd] at h'
        have h2 : bc (eWant (rvE (rs1 L N G (.tmp g.1)) S T) g.2) (f (runE (compEL dr L N l (dstN N o.dst :: G))) cx S T z n H) (runE (compEL dr L N l (dstN N o.dst :: G)) cx (.undef :: S) (putE T (pL L N o.dst) .undef) z n H) = some r := h'
        have hw : eWant (rvE (rs1 L N G (.tmp g.1)) S T) g.2 = wantT Tf (some g) := by
          rw [rv_ok hi hgd, ← val_eq]
          exact wantB_eq Tf (some g)
        rw [bc_eq, hw] at h2
        cases hb : wantT Tf (some g) with
        | true =>
          rw [hb] at h2
          exact main (by rw [hg]; exact hb) h2
        | false =>
          rw [hb] at h2
          simp only [cond_false] at h2
          obtain ⟨r', ⟨k, h1⟩, h3⟩ := runE_ok hcx dr N L l _ _ _ _ _ _ _ _ (hi.push o.dst .undef) h2
          refine ⟨r', ⟨k + 1, ?_⟩, h3⟩
          rw [want false (by rw [hg]; exact hb)]
          exact h1

inductive EC where
  | skip
  | ops (l : EOps)
  | seq (a b : EC)
  | cond (c : R4) (a b : EC)
  | block (id : Nat) (c : EC)
  | loop (c : EC)
  | exit (id : Nat)
  | ret
noncomputable def compEM (L : List Nat) (N : Nat) (c : MCode) : EC := @MCode.rec (fun _ => EC) .skip (fun l => .ops (compEL false L N l [])) (fun l _ => .ops (compEL true L N l [])) (fun _ _ a b => .seq a b) (fun c _ _ a b => .cond (rs1 L N [] c) a b) (fun id _ c => .block id c) (fun _ c => .loop c) (fun id => .exit id) .ret c
noncomputable def blkE (x : Option TRes) : Nat → Option TRes := @Option.rec TRes (fun _ => Nat → Option TRes) (fun _ => none) (fun y => @TRes.rec (fun _ => Nat → Option TRes) (fun m T1 n1 H1 id => some (.code (unblk id m) T1 n1 H1)) (fun _ _ _ _ => none) y) x
noncomputable def runEC (c : EC) : Kc := @EC.rec (fun _ => Kc)
  (fun _ _ T _ n H => some (.code .normal T n H))
  (fun l cx _ T z n H => runE l cx [] T z n H)
  (fun _ _ a b cx q T z n H => seqC (a cx q T z n H) b cx q z)
  (fun c _ _ a b cx q T z n H => eBool (rvE c [] T) fun v => bc v (a cx q T z n H) (b cx q T z n H))
  (fun id _ a cx q T z n H => blkE (a cx q T z n H) id)
  (fun _ a cx q T z n H => turnC a cx q z q T n H)
  (fun id _ _ T _ n H => some (.code (.exit id) T n H))
  (fun _ _ T _ n H => some (.code .ret T n H)) c
theorem env0 {N : Nat} {L : List Nat} {T Tf : BT AV} (h : EnvC N L T Tf) : EnvE N L [] [] T Tf := ⟨h, fun i p hp => by cases hp⟩
theorem Rk.cond {E : EMod} {c : MO} {a b : MCode} {T : BT AV} {z n : Nat} {H : BT AObj} {r : TRes} {v : Bool} (hv : c.bt T = .bool v) (h : Rk E (.code (_root_.cond v a b) T) z n H r) : Rk E (.code (.cond c a b) T) z n H r := by
  obtain ⟨k, h1⟩ := h
  refine ⟨k + 1, ?_⟩
  show (boolK (c.bt T) fun v => evT E k (.code (_root_.cond v a b) T) z n H) = some r
  rw [hv]
  exact h1
theorem rel_out {N : Nat} {L : List Nat} {x x' : TRes} (h : RelE N L x x') : (∃ T Tf n H, x = .code .normal T n H ∧ x' = .code .normal Tf n H ∧ EnvC N L T Tf) ∨ ((∀ T n H, x ≠ .code .normal T n H) ∧ ∀ T n H, x' ≠ .code .normal T n H) := by
  cases x with
  | val v n H =>
    have := rel_val h
    subst this
    refine .inr ⟨fun _ _ _ e => ?_, fun _ _ _ e => ?_⟩ <;> cases e
  | code m T n H =>
    obtain ⟨Tf, rfl, k⟩ := rel_code h
    cases m with
    | normal => exact .inl ⟨T, Tf, n, H, rfl, rfl, k⟩
    | exit id => refine .inr ⟨fun _ _ _ e => ?_, fun _ _ _ e => ?_⟩ <;> cases e
    | ret => refine .inr ⟨fun _ _ _ e => ?_, fun _ _ _ e => ?_⟩ <;> cases e
theorem seqC_else {x : TRes} (h : ∀ T n H, x ≠ .code .normal T n H) (k : Kc) (cx : Cx) (q z : Nat) : seqC (some x) k cx q z = some x := by
  cases x with
  | val v n H => rfl
  | code m T n H =>
    cases m with
    | normal => exact absurd rfl (h T n H)
    | exit id => rfl
    | ret => rfl
theorem loopC_else {x : TRes} (h : ∀ T n H, x ≠ .code .normal T n H) (k : Kl) : loopC (some x) k = some x := by
  cases x with
  | val v n H => rfl
  | code m T n H =>
    cases m with
    | normal => exact absurd rfl (h T n H)
    | exit id => rfl
    | ret => rfl
theorem Rk.seq_else {E : EMod} {a b : MCode} {T : BT AV} {z n : Nat} {H : BT AObj} {x : TRes} (ha : Rk E (.code a T) z n H x) (h : ∀ T n H, x ≠ .code .normal T n H) : Rk E (.code (.seq a b) T) z n H x := by
  refine ha.seq ?_
  cases x with
  | val v n H => rfl
  | code m T n H =>
    cases m with
    | normal => exact absurd rfl (h T n H)
    | exit id => rfl
    | ret => rfl
theorem Rk.loop_else {E : EMod} {a : MCode} {T : BT AV} {z n : Nat} {H : BT AObj} {x : TRes} (ha : Rk E (.code a T) z n H x) (h : ∀ T n H, x ≠ .code .normal T n H) : Rk E (.code (.loop a) T) z n H x := by
  refine ha.loop ?_
  cases x with
  | val v n H => rfl
  | code m T n H =>
    cases m with
    | normal => exact absurd rfl (h T n H)
    | exit id => rfl
    | ret => rfl

theorem runEC_ok {E : EMod} {cx : Cx} (hcx : CxOK E cx) (q N : Nat) (L : List Nat) : ∀ (c : MCode) (T Tf : BT AV) (z n : Nat) (H : BT AObj) (r : TRes), EnvC N L T Tf → runEC (compEM L N c) cx q T z n H = some r → ∃ r', Rk E (.code c Tf) z n H r' ∧ RelE N L r r'
  | .skip, T, Tf, z, n, H, r, hd, h => by
    have h' : some (TRes.code .normal T n H) = some r := h
    injection h' with h'
    subst h'
    exact ⟨_, ⟨1, rfl⟩, rfl, rfl, rfl, hd⟩
  | .region l, T, Tf, z, n, H, r, hd, h => by
    obtain ⟨r', ⟨k, h1⟩, h2⟩ := runE_ok hcx false N L l [] [] T Tf z n H r (env0 hd) h
    exact ⟨r', ⟨k + 1, h1⟩, h2⟩
  | .draw l pre, T, Tf, z, n, H, r, hd, h => by
    obtain ⟨r', ⟨k, h1⟩, h2⟩ := runE_ok hcx true N L l [] [] T Tf z n H r (env0 hd) h
    exact ⟨r', ⟨k + 1, h1⟩, h2⟩
  | .seq a b, T, Tf, z, n, H, r, hd, h => by
    have h' : seqC (runEC (compEM L N a) cx q T z n H) (runEC (compEM L N b)) cx q z = some r := h
    cases h1 : runEC (compEM L N a) cx q T z n H with
    | none => rw [h1] at h'; cases h'
    | some x =>
      rw [h1] at h'
      obtain ⟨x', r1, rel⟩ := runEC_ok hcx q N L a T Tf z n H x hd h1
      rcases rel_out rel with ⟨T1, Tf1, n1, H1, rfl, rfl, k⟩ | ⟨n1, n2⟩
      · obtain ⟨r', r2, rel2⟩ := runEC_ok hcx q N L b T1 Tf1 z n1 H1 r k h'
        exact ⟨r', r1.seq r2, rel2⟩
      · rw [seqC_else n1] at h'
        injection h' with h'
        subst h'
        exact ⟨x', r1.seq_else n2, rel⟩
  | .cond c a b, T, Tf, z, n, H, r, hd, h => by
    have h' : (eBool (rvE (rs1 L N [] c) [] T) fun v => bc v (runEC (compEM L N a) cx q T z n H) (runEC (compEM L N b) cx q T z n H)) = some r := h
    rw [eBool_eq] at h'
    cases hg : gd (rs1 L N [] c) with
    | false =>
      have : rvE (rs1 L N [] c) [] T = .undef := by
        revert hg
        cases rs1 L N [] c <;> intro hg <;> first
          | rfl
          | cases hg
      rw [this] at h'
      cases h'
    | true =>
      rw [rv_ok (env0 hd) hg] at h'
      cases hv : c.bt Tf <;> rw [hv] at h' <;> simp only [boolK] at h' <;> first
        | (cases h'; done)
        | skip
      rename_i v
      rw [bc_eq] at h'
      cases v with
      | true =>
        obtain ⟨r', r1, rel⟩ := runEC_ok hcx q N L a T Tf z n H r hd h'
        exact ⟨r', r1.cond (b := b) (v := true) hv, rel⟩
      | false =>
        obtain ⟨r', r1, rel⟩ := runEC_ok hcx q N L b T Tf z n H r hd h'
        exact ⟨r', Rk.cond (a := a) (v := false) hv r1, rel⟩
  | .block id a, T, Tf, z, n, H, r, hd, h => by
    have h' : blkE (runEC (compEM L N a) cx q T z n H) id = some r := h
    cases h1 : runEC (compEM L N a) cx q T z n H with
    | none => rw [h1] at h'; cases h'
    | some x =>
      rw [h1] at h'
      obtain ⟨x', ⟨k, h2⟩, rel⟩ := runEC_ok hcx q N L a T Tf z n H x hd h1
      cases x with
      | val v n1 H1 => cases h'
      | code m T1 n1 H1 =>
        obtain ⟨Tf1, rfl, kk⟩ := rel_code rel
        have h3 : some (TRes.code (unblk id m) T1 n1 H1) = some r := h'
        injection h3 with h3
        subst h3
        refine ⟨.code (unblk id m) Tf1 n1 H1, ⟨k + 1, ?_⟩, rfl, rfl, rfl, kk⟩
        show blockKT id (evT E k (.code a Tf) z n H) = _
        rw [h2]
        rfl
  | .loop a, T, Tf, z, n, H, r, hd, h => by
    have key : ∀ (p : Nat) (T Tf : BT AV) (n : Nat) (H : BT AObj), EnvC N L T Tf → turnC (runEC (compEM L N a)) cx q z p T n H = some r → ∃ r', Rk E (.code (.loop a) Tf) z n H r' ∧ RelE N L r r' := by
      intro p
      induction p with
      | zero => intro T Tf n H _ h; cases h
      | succ p ih =>
        intro T Tf n H hd h
        have h' : loopC (runEC (compEM L N a) cx q T z n H) (turnC (runEC (compEM L N a)) cx q z p) = some r := h
        cases h1 : runEC (compEM L N a) cx q T z n H with
        | none => rw [h1] at h'; cases h'
        | some x =>
          rw [h1] at h'
          obtain ⟨x', r1, rel⟩ := runEC_ok hcx q N L a T Tf z n H x hd h1
          rcases rel_out rel with ⟨T1, Tf1, n1, H1, rfl, rfl, k⟩ | ⟨n1, n2⟩
          · obtain ⟨r', r2, rel2⟩ := ih T1 Tf1 n1 H1 k h'
            exact ⟨r', r1.loop r2, rel2⟩
          · rw [loopC_else n1] at h'
            injection h' with h'
            subst h'
            exact ⟨x', r1.loop_else n2, rel⟩
    exact key q T Tf n H hd h
  | .exit id, T, Tf, z, n, H, r, hd, h => by
    have h' : some (TRes.code (.exit id) T n H) = some r := h
    injection h' with h'
    subst h'
    exact ⟨_, ⟨1, rfl⟩, rfl, rfl, rfl, hd⟩
  | .ret, T, Tf, z, n, H, r, hd, h => by
    have h' : some (TRes.code .ret T n H) = some r := h
    injection h' with h'
    subst h'
    exact ⟨_, ⟨1, rfl⟩, rfl, rfl, rfl, hd⟩

noncomputable def argsE (L : List Nat) (N : Nat) (l : List AV) : Nat → BT AV → BT AV := @List.rec AV (fun _ => Nat → BT AV → BT AV) (fun _ T => T) (fun x _ ih i T => ih (Nat.add i 1) (putE T (posL L N i) x)) l
theorem args_env {N : Nat} {L : List Nat} : ∀ (l : List AV) (i : Nat) {T Tf : BT AV}, EnvC N L T Tf → EnvC N L (argsE L N l i T) (argsT l i Tf)
  | [], i, T, Tf, k => k
  | x :: l, i, T, Tf, k => args_env l (i + 1) (k.put (some i) x)
noncomputable def frameE (L : List Nat) (F : MFunc) (args : List AV) : BT AV := argsE L F.ntmps args 0 (BT.full .undef (lenE L) (lenE L))
theorem frame_env (L : List Nat) (F : MFunc) (args : List AV) : EnvC F.ntmps L (frameE L F args) (frameT F args) := by
  unfold frameE frameT
  refine args_env args 0 ⟨fun i hi => ?_, fun i p hp => ?_⟩
  · rw [at_full _ _ _ (Nat.le_refl _), if_pos]
    · rfl
    · rw [lenF_eq]
      show i < args.length + (F.ntmps - args.length)
      omega
  · obtain ⟨h1, h2⟩ := posL_some hp
    rw [at_full _ _ _ (Nat.le_refl _), at_full _ _ _ (Nat.le_refl _), if_pos, if_pos]
    · rw [lenF_eq]
      show i < args.length + (F.ntmps - args.length)
      omega
    · rw [lenE_eq, lenF_eq]
      exact (List.getElem?_eq_some_iff.1 h2).1
noncomputable def resE (L : List Nat) (N : Nat) (x : MRes) : BT AObj → BT AV → Option AV := @MRes.rec (fun _ => BT AObj → BT AV → Option AV) (fun i _ T => eOpt (posL L N i) fun p => some (T.getD .undef p)) (fun agg i H T => eOpt (posL L N i) fun p => ePtr (T.getD .undef p) fun b o => eArr (H.get b) fun c _ _ => rdE c o agg) x
theorem resE_ok {L : List Nat} {N : Nat} {T Tf : BT AV} (k : EnvC N L T Tf) {x : MRes} {H : BT AObj} {v : AV} (h : resE L N x H T = some v) : resT H Tf x = some v := by
  have key : ∀ i p, posL L N i = some p → T.getD .undef p = Tf.getD .undef i := fun i p hp => by
    rw [getD_atD, getD_atD, atD_eq, atD_eq, k.liv i p hp]
  cases x with
  | tmp i =>
    have h' : (eOpt (posL L N i) fun p => some (T.getD .undef p)) = some v := h
    rw [eOpt_eq] at h'
    cases hp : posL L N i with
    | none => rw [hp] at h'; cases h'
    | some p =>
      rw [hp] at h'
      have h2 : some (T.getD .undef p) = some v := h'
      rw [key i p hp] at h2
      rw [← resC_eq]
      exact h2
  | cell agg i =>
    have h' : (eOpt (posL L N i) fun p => ePtr (T.getD .undef p) fun b o => eArr (H.get b) fun c _ _ => rdE c o agg) = some v := h
    rw [eOpt_eq] at h'
    cases hp : posL L N i with
    | none => rw [hp] at h'; cases h'
    | some p =>
      rw [hp] at h'
      have h2 : (ePtr (T.getD .undef p) fun b o => eArr (H.get b) fun c _ _ => rdE c o agg) = some v := h'
      rw [key i p hp] at h2
      rw [← resC_eq]
      exact h2
noncomputable def ressE (L : List Nat) (N : Nat) (rs : List MRes) : BT AObj → BT AV → Option (List AV) := @List.rec MRes (fun _ => BT AObj → BT AV → Option (List AV)) (fun _ _ => some []) (fun x _ ih H T => eOpt (resE L N x H T) fun v => eOpt (ih H T) fun l => some (v :: l)) rs
theorem ressE_ok {L : List Nat} {N : Nat} {T Tf : BT AV} (k : EnvC N L T Tf) {H : BT AObj} : ∀ {rs : List MRes} {vs : List AV}, ressE L N rs H T = some vs → resTs H Tf rs = some vs
  | [], vs, h => h
  | x :: rs, vs, h => by
    have h' : (eOpt (resE L N x H T) fun v => eOpt (ressE L N rs H T) fun l => some (v :: l)) = some vs := h
    have e2 : resTs H Tf (x :: rs) = optK (resT H Tf x) fun v => consO v (resTs H Tf rs) := rfl
    rw [eOpt_eq] at h'
    cases h1 : resE L N x H T with
    | none => rw [h1] at h'; cases h'
    | some v =>
      rw [h1] at h'
      have h2 : (eOpt (ressE L N rs H T) fun l => some (v :: l)) = some vs := h'
      rw [eOpt_eq] at h2
      cases h3 : ressE L N rs H T with
      | none => rw [h3] at h2; cases h2
      | some l =>
        rw [h3] at h2
        rw [e2, resE_ok k h1, ressE_ok k h3]
        exact h2
noncomputable def tupE (x : Option (List AV)) : Option AV := eOpt x fun l => @List.rec AV (fun _ => Option AV) (some (.tuple [])) (fun v r _ => @List.rec AV (fun _ => AV → Option AV) (fun v => some v) (fun y r' _ v => some (.tuple (v :: y :: r'))) r v) l
theorem tupE_eq (x : Option (List AV)) : tupE x = tupR x := by
  cases x with
  | none => rfl
  | some l =>
    cases l with
    | nil => rfl
    | cons v r => cases r <;> rfl
noncomputable def okE (m : MX) : Bool := @MX.rec (fun _ => Bool) true (fun _ => false) true m
theorem okE_eq (m : MX) : okE m = okX m := by cases m <;> rfl
noncomputable def retE (L : List Nat) (N : Nat) (rs : List MRes) (x : Option TRes) : Option TRes := @Option.rec TRes (fun _ => List Nat → Nat → List MRes → Option TRes) (fun _ _ _ => none)
  (fun y => @TRes.rec (fun _ => List Nat → Nat → List MRes → Option TRes) (fun m T1 n1 H1 L N rs => bc (okE m) (eOpt (tupE (ressE L N rs H1 T1)) fun v => some (.val v n1 H1)) none) (fun _ _ _ _ _ _ => none) y) x L N rs

noncomputable def addL (L : List Nat) (i : Nat) : List Nat := bc (memN L i) L (i :: L)
noncomputable def inG (G : Gam) (i : Nat) : Bool := @List.rec (Option Nat) (fun _ => Bool) false (fun d _ ih => bc (isD d i) true ih) G
noncomputable def livT (G : Gam) (l : List Nat) : List Nat → List Nat := @List.rec Nat (fun _ => List Nat → List Nat) (fun L => L) (fun i _ ih L => ih (bc (inG G i) L (addL L i))) l
noncomputable def livO (l : List MOper) : Gam → List Nat → List Nat := @List.rec MOper (fun _ => Gam → List Nat → List Nat) (fun _ L => L) (fun o _ ih G L => ih (o.dst :: G) (livT G o.reads2 L)) l
noncomputable def livC (c : MCode) : List Nat → List Nat := @MCode.rec (fun _ => List Nat → List Nat) (fun L => L) (fun l L => livO l [] L) (fun l _ L => livO l [] L) (fun _ _ a b L => b (a L)) (fun c _ _ a b L => b (a (@MO.rec (fun _ => List Nat) (fun i => addL L i) (fun _ => L) c))) (fun _ _ a L => a L) (fun _ a L => a L) (fun _ L => L) (fun L => L) c
noncomputable def livR (rs : List MRes) : List Nat → List Nat := @List.rec MRes (fun _ => List Nat → List Nat) (fun L => L) (fun x _ ih L => ih (@MRes.rec (fun _ => List Nat) (fun i => addL L i) (fun _ i => addL L i) x)) rs
noncomputable def liv (F : MFunc) : List Nat := livR F.results (livC F.body [])

noncomputable def fnE (x : Option MFunc) : Cx → List AV → Nat → Nat → BT AObj → Option TRes := @Option.rec MFunc (fun _ => Cx → List AV → Nat → Nat → BT AObj → Option TRes) (fun _ _ _ _ _ => none) (fun F cx args z n H => retE (liv F) F.ntmps F.results (runEC (compEM (liv F) F.ntmps F.body) cx 100000 (frameE (liv F) F args) z n H)) x
noncomputable def callE2 (E : EMod) (cx : Cx) : Cx := fun f args z n H => @Option.rec PVal (fun _ => EMod → Cx → Nat → List AV → Nat → Nat → BT AObj → Option TRes) (fun E cx f args z n H => fnE (E.fn f) cx args z n H) (fun v _ _ _ _ _ n H => some (v.resT n H)) (E.prim f args) E cx f args z n H
noncomputable def evE (E : EMod) (k : Nat) : Cx := @Nat.rec (fun _ => Cx) (fun _ _ _ _ _ => none) (fun _ ih => callE2 E ih) k
theorem evE_ok (E : EMod) : ∀ k, CxOK E (evE E k)
  | 0 => ⟨fun f args z n H r h => by cases h⟩
  | k + 1 => ⟨fun f args z n H r h => by
    have hk := evE_ok E k
    have h' : callE2 E (evE E k) f args z n H = some r := h
    unfold callE2 at h'
    cases hp : E.prim f args with
    | some v =>
      rw [hp] at h'
      injection h' with h'
      subst h'
      refine ⟨1, ?_⟩
      show callKT E _ f args z n H = _
      simp only [callKT, hp]
    | none =>
      rw [hp] at h'
      have h2 : fnE (E.fn f) (evE E k) args z n H = some r := h'
      cases hF : E.fn f with
      | none => rw [hF] at h2; cases h2
      | some F =>
        rw [hF] at h2
        have h3 : retE (liv F) F.ntmps F.results (runEC (compEM (liv F) F.ntmps F.body) (evE E k) 100000 (frameE (liv F) F args) z n H) = some r := h2
        cases h1 : runEC (compEM (liv F) F.ntmps F.body) (evE E k) 100000 (frameE (liv F) F args) z n H with
        | none => rw [h1] at h3; cases h3
        | some y =>
          rw [h1] at h3
          obtain ⟨y', ⟨k1, h4⟩, rel⟩ := runEC_ok hk 100000 F.ntmps (liv F) F.body _ _ z n H y (frame_env (liv F) F args) h1
          cases y with
          | val v n1 H1 => cases h3
          | code m T1 n1 H1 =>
            obtain ⟨Tf1, rfl, kk⟩ := rel_code rel
            have h5 : bc (okE m) (eOpt (tupE (ressE (liv F) F.ntmps F.results H1 T1)) fun v => some (TRes.val v n1 H1)) none = some r := h3
            rw [bc_eq, okE_eq, tupE_eq, eOpt_eq] at h5
            refine ⟨k1 + 1, ?_⟩
            show callKT E (evT E k1) f args z n H = _
            simp only [callKT, hp, hF, h4, retKT]
            cases hm : okX m with
            | false => rw [hm] at h5; cases h5
            | true =>
              rw [hm] at h5
              cases h6 : ressE (liv F) F.ntmps F.results H1 T1 with
              | none => rw [h6] at h5; cases h5
              | some vs =>
                rw [h6] at h5
                rw [ressE_ok kk h6]
                exact h5⟩
theorem evE_evF {E : EMod} {k f : Nat} {args : List AV} {v : AV} {n : Nat} {H : BT AObj} (h : evE E k f args 0 0 .leaf = some (.val v n H)) : ∃ k' r, evF E k' (.call f args) 0 0 [] = some (.val v n r) ∧ HI H n r := by
  obtain ⟨k', h1⟩ := (evE_ok E k).out _ _ _ _ _ _ h
  obtain ⟨r, h2, h3⟩ := evT_ev h1
  exact ⟨k', r, h2, h3⟩
end Go.Abs

set_option linter.unusedVariables false
set_option linter.unusedSimpArgs false
namespace Go.Abs

noncomputable def sameF (v : AV) : AV → Bool := @AV.rec (fun _ => AV → Bool) (fun _ => List AV → Bool) (fun _ => false) (fun b y => isU (eBool y fun c => bc (bc b c (notE c)) (some ()) none)) (fun k n y => isU (eInt y fun q m => bc (bc (kEqE k q) (eqE n m) false) (some ()) none)) (fun s y => isU (eStr y fun u => bc (strEqE s u) (some ()) none)) (fun b o y => isU (ePtr y fun c p => bc (bc (Nat.beq b c) (Nat.beq o p) false) (some ()) none)) (fun _ => false) (fun b o n y => isU (eSlice y fun c p m => bc (bc (Nat.beq b c) (bc (Nat.beq o p) (Nat.beq n m) false) false) (some ()) none)) (fun y => isU (eSl y (fun _ _ _ => none) (some ()))) (fun _ _ => false) (fun _ => false) (fun _ _ _ _ => false) (fun _ => false) (fun _ _ _ _ => false) (fun _ => false) (fun _ ih y => isU (eAgg y fun l => bc (ih l) (some ()) none)) (fun _ ih y => isU (eTup y fun l => bc (ih l) (some ()) none)) (fun y => @List.rec AV (fun _ => Bool) true (fun _ _ _ => false) y) (fun _ _ a b y => @List.rec AV (fun _ => Bool) false (fun z r _ => bc (a z) (b r) false) y) v
noncomputable def samesF (l : List AV) : List AV → Bool := @AV.rec_1 (fun _ => AV → Bool) (fun _ => List AV → Bool) (fun _ => false) (fun b y => isU (eBool y fun c => bc (bc b c (notE c)) (some ()) none)) (fun k n y => isU (eInt y fun q m => bc (bc (kEqE k q) (eqE n m) false) (some ()) none)) (fun s y => isU (eStr y fun u => bc (strEqE s u) (some ()) none)) (fun b o y => isU (ePtr y fun c p => bc (bc (Nat.beq b c) (Nat.beq o p) false) (some ()) none)) (fun _ => false) (fun b o n y => isU (eSlice y fun c p m => bc (bc (Nat.beq b c) (bc (Nat.beq o p) (Nat.beq n m) false) false) (some ()) none)) (fun y => isU (eSl y (fun _ _ _ => none) (some ()))) (fun _ _ => false) (fun _ => false) (fun _ _ _ _ => false) (fun _ => false) (fun _ _ _ _ => false) (fun _ => false) (fun _ ih y => isU (eAgg y fun l => bc (ih l) (some ()) none)) (fun _ ih y => isU (eTup y fun l => bc (ih l) (some ()) none)) (fun y => @List.rec AV (fun _ => Bool) true (fun _ _ _ => false) y) (fun _ _ a b y => @List.rec AV (fun _ => Bool) false (fun z r _ => bc (a z) (b r) false) y) l
mutual
theorem sameF_eq : ∀ (a b : AV), sameF a b = true → a = b
  | .bool b, y, h => by
    have h' : isU (eBool y fun c => bc (bc b c (notE c)) (some ()) none) = true := h
    rw [eBool_eq] at h'
    cases y <;> simp only [boolK] at h' <;> first
      | (cases h'; done)
      | skip
    rename_i c
    have := isU_bc h'
    cases b <;> cases c <;> first
      | rfl
      | cases this
  | .int k n, y, h => by
    have h' : isU (eInt y fun q m => bc (bc (kEqE k q) (eqE n m) false) (some ()) none) = true := h
    rw [eInt_eq] at h'
    cases y <;> simp only [intK] at h' <;> first
      | (cases h'; done)
      | skip
    rename_i q m
    obtain ⟨h2, h3⟩ := bc_and (isU_bc h')
    rw [kEqE_eq] at h2
    rw [eqE_eq, iEq_eq] at h3
    rw [kEq_iff.1 h2, eq_of_beq h3]
  | .str s, y, h => by
    have h' : isU (eStr y fun u => bc (strEqE s u) (some ()) none) = true := h
    rw [eStr_eq] at h'
    cases y <;> simp only [strK] at h' <;> first
      | (cases h'; done)
      | skip
    have h2 := isU_bc h'
    rw [strEqE_eq, sEq_eq] at h2
    rw [eq_of_beq h2]
  | .ptr b o, y, h => by
    have h' : isU (ePtr y fun c p => bc (bc (Nat.beq b c) (Nat.beq o p) false) (some ()) none) = true := h
    rw [ePtr_eq] at h'
    cases y <;> simp only [ptrK] at h' <;> first
      | (cases h'; done)
      | skip
    obtain ⟨h2, h3⟩ := bc_and (isU_bc h')
    rw [Nat.eq_of_beq_eq_true h2, Nat.eq_of_beq_eq_true h3]
  | .slice b o n, y, h => by
    have h' : isU (eSlice y fun c p m => bc (bc (Nat.beq b c) (bc (Nat.beq o p) (Nat.beq n m) false) false) (some ()) none) = true := h
    rw [eSlice_eq] at h'
    cases y <;> simp only [sliceK] at h' <;> first
      | (cases h'; done)
      | skip
    obtain ⟨h2, h3⟩ := bc_and (isU_bc h')
    obtain ⟨h3, h4⟩ := bc_and h3
    rw [Nat.eq_of_beq_eq_true h2, Nat.eq_of_beq_eq_true h3, Nat.eq_of_beq_eq_true h4]
  | .nilslice, y, h => by
    have h' : isU (eSl y (fun _ _ _ => none) (some ())) = true := h
    cases y <;> first
      | rfl
      | cases h'
  | .agg l, y, h => by
    have h' : isU (eAgg y fun u => bc (samesF l u) (some ()) none) = true := h
    rw [eAgg_eq] at h'
    cases y <;> simp only [aggK] at h' <;> first
      | (cases h'; done)
      | skip
    rename_i u
    rw [samesF_eq l u (isU_bc h')]
  | .tuple l, y, h => by
    have h' : isU (eTup y fun u => bc (samesF l u) (some ()) none) = true := h
    rw [eTup_eq] at h'
    cases y <;> simp only [tupK] at h' <;> first
      | (cases h'; done)
      | skip
    rename_i u
    rw [samesF_eq l u (isU_bc h')]
  | .undef, y, h | .nilptr, y, h | .map _, y, h | .nilmap, y, h | .fn _ _, y, h | .nilfn, y, h | .iface _ _, y, h | .niliface, y, h => by cases h
theorem samesF_eq : ∀ (a b : List AV), samesF a b = true → a = b
  | [], b, h => by
    cases b with
    | nil => rfl
    | cons y r => cases h
  | x :: l, b, h => by
    cases b with
    | nil => cases h
    | cons y r =>
      have h' : bc (sameF x y) (samesF l r) false = true := h
      obtain ⟨h1, h2⟩ := bc_and h'
      rw [sameF_eq x y h1, samesF_eq l r h2]
end
mutual
theorem via_sh (f : Nat → Nat) (k : Nat) : ∀ v : AV, (v.via f).sh k = v.via fun a => k + f a
  | .ptr b o => by simp only [AV.via, AV.sh, Nat.add_comm]
  | .slice b o n => by simp only [AV.via, AV.sh, Nat.add_comm]
  | .map r => by simp only [AV.via, AV.sh, Nat.add_comm]
  | .fn g cap => by simp only [AV.via, AV.sh, vias_shs f k cap]
  | .iface t v => by simp only [AV.via, AV.sh, via_sh f k v]
  | .agg l => by simp only [AV.via, AV.sh, vias_shs f k l]
  | .tuple l => by simp only [AV.via, AV.sh, vias_shs f k l]
  | .undef | .bool _ | .int _ _ | .str _ | .nilptr | .nilslice | .nilmap | .nilfn | .niliface => by simp only [AV.via, AV.sh]
theorem vias_shs (f : Nat → Nat) (k : Nat) : ∀ l : List AV, AV.shs k (AV.vias f l) = AV.vias (fun a => k + f a) l
  | [] => by simp only [AV.vias, AV.shs]
  | v :: l => by simp only [AV.vias, AV.shs, via_sh f k v, vias_shs f k l]
end
theorem vias_map (f : Nat → Nat) : ∀ l : List AV, AV.vias f l = l.map (AV.via f)
  | [] => by simp only [AV.vias, List.map_nil]
  | v :: l => by simp only [AV.vias, List.map_cons, vias_map f l]

noncomputable def innE (n : Nat) (v : AV) : Bool := @AV.rec (fun _ => Nat → Bool) (fun _ => Nat → Bool) (fun _ => true) (fun _ _ => true) (fun _ _ _ => true) (fun _ _ => true) (fun b _ n => Nat.blt b n) (fun _ => true) (fun b _ _ n => Nat.blt b n) (fun _ => true) (fun r n => Nat.blt r n) (fun _ => true) (fun _ _ ih n => ih n) (fun _ => true) (fun _ _ ih n => ih n) (fun _ => true) (fun _ ih n => ih n) (fun _ ih n => ih n) (fun _ => true) (fun _ _ a b n => bc (a n) (b n) false) v n
noncomputable def innsE (n : Nat) (l : List AV) : Bool := @AV.rec_1 (fun _ => Nat → Bool) (fun _ => Nat → Bool) (fun _ => true) (fun _ _ => true) (fun _ _ _ => true) (fun _ _ => true) (fun b _ n => Nat.blt b n) (fun _ => true) (fun b _ _ n => Nat.blt b n) (fun _ => true) (fun r n => Nat.blt r n) (fun _ => true) (fun _ _ ih n => ih n) (fun _ => true) (fun _ _ ih n => ih n) (fun _ => true) (fun _ ih n => ih n) (fun _ ih n => ih n) (fun _ => true) (fun _ _ a b n => bc (a n) (b n) false) l n
mutual
theorem innE_ok {n : Nat} : ∀ v : AV, innE n v = true → v.inn n
  | .ptr b o, h => by simp only [AV.inn]; exact blt_lt.1 h
  | .slice b o k, h => by simp only [AV.inn]; exact blt_lt.1 h
  | .map r, h => by simp only [AV.inn]; exact blt_lt.1 h
  | .fn g cap, h => by simp only [AV.inn]; exact innsE_ok cap h
  | .iface t v, h => by simp only [AV.inn]; exact innE_ok v h
  | .agg l, h => by simp only [AV.inn]; exact innsE_ok l h
  | .tuple l, h => by simp only [AV.inn]; exact innsE_ok l h
  | .undef, _ | .bool _, _ | .int _ _, _ | .str _, _ | .nilptr, _ | .nilslice, _ | .nilmap, _ | .nilfn, _ | .niliface, _ => by simp only [AV.inn]
theorem innsE_ok {n : Nat} : ∀ l : List AV, innsE n l = true → AV.inns n l
  | [], _ => by simp only [AV.inns]
  | v :: l, h => by
    have h' : bc (innE n v) (innsE n l) false = true := h
    obtain ⟨h1, h2⟩ := bc_and h'
    simp only [AV.inns]
    exact ⟨innE_ok v h1, innsE_ok l h2⟩
end
theorem inns_mem {n : Nat} : ∀ {l : List AV}, AV.inns n l → ∀ v ∈ l, v.inn n
  | [], _, v, hv => by cases hv
  | x :: l, h, v, hv => by
    simp only [AV.inns] at h
    rcases List.mem_cons.1 hv with rfl | hv
    · exact h.1
    · exact inns_mem h.2 v hv

noncomputable def rowsAt (H : BT AObj) (f : Nat → Nat) (n : Nat) (l : List (List AV × Nat)) : List Nat → Bool := @List.rec (List AV × Nat) (fun _ => List Nat → Bool) (fun _ => true)
  (fun p _ ih ix => @List.rec Nat (fun _ => Bool) false (fun b r _ => bc (isU (eArr (H.get b) fun c es ro => bc (bc ro false (bc (Nat.beq es p.2) (bc (innsE n p.1) (samesF (AV.vias f p.1) c) false) false)) (some ()) none)) (ih r) false) ix) l
noncomputable def distinctN (l : List Nat) : Bool := @List.rec Nat (fun _ => Bool) true (fun x r ih => bc (memN r x) false ih) l
theorem distinctN_ok : ∀ {l : List Nat}, distinctN l = true → ∀ i j, i < l.length → j < l.length → l.getD i 0 = l.getD j 0 → i = j
  | [], _, i, j, hi, _, _ => by simp at hi
  | x :: r, h, i, j, hi, hj, e => by
    have h' : bc (memN r x) false (distinctN r) = true := h
    rw [bc_eq] at h'
    have hx : ∀ y, memN r y = false → y ∉ r := by
      intro y hy hm
      have : ∀ (l : List Nat), y ∈ l → memN l y = true := by
        intro l
        induction l with
        | nil => intro h; cases h
        | cons z l ih =>
          intro h
          have e : memN (z :: l) y = bc (Nat.beq z y) true (memN l y) := rfl
          rw [e, bc_eq]
          rcases List.mem_cons.1 h with rfl | h
          · rw [Nat.beq_refl]; rfl
          · rw [ih h]
            cases Nat.beq z y <;> rfl
      rw [this r hm] at hy
      cases hy
    cases hm : memN r x with
    | true => rw [hm] at h'; cases h'
    | false =>
      rw [hm, cond_false] at h'
      have hn := hx x hm
      cases i with
      | zero =>
        cases j with
        | zero => rfl
        | succ j =>
          simp only [List.length_cons] at hj
          simp only [List.getD_cons_zero, List.getD_cons_succ] at e
          rw [List.getD_eq_getElem?_getD, List.getElem?_eq_getElem (by omega), Option.getD_some] at e
          exact absurd (e ▸ List.getElem_mem (by omega)) hn
      | succ i =>
        simp only [List.length_cons] at hi
        cases j with
        | zero =>
          simp only [List.getD_cons_zero, List.getD_cons_succ] at e
          rw [List.getD_eq_getElem?_getD, List.getElem?_eq_getElem (by omega), Option.getD_some] at e
          exact absurd (e.symm ▸ List.getElem_mem (by omega)) hn
        | succ j =>
          simp only [List.length_cons] at hj
          simp only [List.getD_cons_succ] at e
          rw [distinctN_ok h' i j (by omega) (by omega) e]
theorem rowsAt_ok {H : BT AObj} {f : Nat → Nat} {n : Nat} : ∀ {l : List (List AV × Nat)} {ix : List Nat}, rowsAt H f n l ix = true → ∀ (j : Nat) (p : List AV × Nat), l[j]? = some p → ∃ b, ix[j]? = some b ∧ H.at b = some (.arr (p.1.map (AV.via f)) p.2 false) ∧ ∀ v ∈ p.1, v.inn n
  | [], ix, _, j, p, hj => by simp at hj
  | q :: l, [], h, j, p, hj => by cases h
  | q :: l, b :: ix, h, j, p, hj => by
    have h' : bc (isU (eArr (H.get b) fun c es ro => bc (bc ro false (bc (Nat.beq es q.2) (bc (innsE n q.1) (samesF (AV.vias f q.1) c) false) false)) (some ()) none)) (rowsAt H f n l ix) false = true := h
    obtain ⟨h1, h2⟩ := bc_and h'
    cases j with
    | succ j => exact rowsAt_ok h2 j p (by simpa using hj)
    | zero =>
      simp only [List.getElem?_cons_zero, Option.some.injEq] at hj
      subst hj
      refine ⟨b, rfl, ?_⟩
      rw [eArr_eq, get_eq] at h1
      cases hb : H.at b with
      | none => rw [hb] at h1; cases h1
      | some o =>
        rw [hb] at h1
        cases o <;> simp only [arrK] at h1 <;> first
          | (cases h1; done)
          | skip
        rename_i c es ro
        have h3 := isU_bc h1
        rw [bc_eq] at h3
        cases ro with
        | true => cases h3
        | false =>
          rw [cond_false] at h3
          obtain ⟨h4, h5⟩ := bc_and h3
          obtain ⟨h5, h6⟩ := bc_and h5
          rw [Nat.eq_of_beq_eq_true h4, ← samesF_eq _ _ h6, vias_map]
          exact ⟨rfl, inns_mem (innsE_ok _ h5)⟩
noncomputable def givesO (x : Option TRes) (v0 : AV) (l : List (List AV × Nat)) (ix : List Nat) : Bool := @Option.rec TRes (fun _ => Bool) false (fun y => @TRes.rec (fun _ => Bool) (fun _ _ _ _ => false) (fun v n H => bc (bc (innE (lenP l) v0) (Nat.beq (lenE ix) (lenP l)) false) (bc (distinctN ix) (bc (sameF (v0.via fun a => nthD 0 ix a) v) (rowsAt H (fun a => nthD 0 ix a) (lenP l) l ix) false) false) false) y) x
theorem memo_objs {M : Model} {E : EMod} (hE : EOK M E) {k f : Nat} {args : List AV} {v0 : AV} {l : List (List AV × Nat)} {ix : List Nat} (ha : AV.flats args = true) (h : givesO (evE E k f args 0 0 .leaf) v0 l ix = true) (g : Heap) : Runs M (.call f args ((PVal.objs v0 l).left g)) g := by
  cases hev : evE E k f args 0 0 .leaf with
  | none => rw [hev] at h; cases h
  | some y =>
    rw [hev] at h
    cases y with
    | code m T n H => cases h
    | val v n H =>
      have h' : bc (bc (innE (lenP l) v0) (Nat.beq (lenE ix) (lenP l)) false) (bc (distinctN ix) (bc (sameF (v0.via fun a => nthD 0 ix a) v) (rowsAt H (fun a => nthD 0 ix a) (lenP l) l ix) false) false) false = true := h
      obtain ⟨h1, h2⟩ := bc_and h'
      obtain ⟨h1, h3⟩ := bc_and h1
      obtain ⟨h4, h5⟩ := bc_and h2
      obtain ⟨h5, h6⟩ := bc_and h5
      have hlen := Nat.eq_of_beq_eq_true h3
      rw [lenE_eq, lenF_eq, lenP_eq] at hlen
      rw [lenP_eq] at h1 h6
      obtain ⟨k', r, e1, e2⟩ := evE_evF hev
      have hv := sameF_eq _ _ h5
      have hidx : (fun a => nthD 0 ix a) = fun a => ix.getD a 0 := funext fun a => nthD_eq 0 ix a
      rw [hidx] at hv h6
      have run := evF_does hE e1 g ((PVal.objs v0 l).left g) ?_
      · rwa [flats_shs ha] at run
      · refine ⟨innE_ok v0 h1, r.reverse.map (AObj.sh g.length), fun a => ix.getD a 0, rfl, fun j p hj => ?_, fun i j hi hj e => distinctN_ok h4 i j (by omega) (by omega) e, ?_⟩
        · obtain ⟨b, g1, g2, g3⟩ := rowsAt_ok h6 j p hj
          refine ⟨?_, g3⟩
          have hb : ix.getD j 0 = b := by rw [List.getD_eq_getElem?_getD, g1]; rfl
          have g4 : rat n r b = some (.arr (p.1.map (AV.via fun a => ix.getD a 0)) p.2 false) := by rw [← e2.get b]; exact g2
          have g5 := rat_rel (g := g) e2.len g4
          rw [rel, List.getElem?_append_right (by omega), Nat.add_sub_cancel] at g5
          show (r.reverse.map (AObj.sh g.length))[ix.getD j 0]? = _
          rw [hb, g5]
          simp only [AObj.sh, List.map_map]
          congr 2
          exact List.map_congr_left fun u _ => via_sh _ _ u
        · rw [← hv]
          exact via_sh _ _ v0

structure ObjMemo (M : Model) where
  f : Nat
  args : List AV
  v : AV
  l : List (List AV × Nat)
  runs : ∀ h, Runs M (.call f args ((PVal.objs v l).left h)) h
noncomputable def objP {M : Model} (l : List (ObjMemo M)) : PrimsV := @List.rec (ObjMemo M) (fun _ => PrimsV) (fun _ _ => none) (fun x _ ih f args => bc (Nat.beq x.f f) (bc (samesA x.args args) (some (.objs x.v x.l)) (ih f args)) (ih f args)) l
theorem objP_some {M : Model} : ∀ {l : List (ObjMemo M)} {f : Nat} {args : List AV} {v : PVal}, objP l f args = some v → ∃ x : ObjMemo M, x.f = f ∧ x.args = args ∧ v = .objs x.v x.l
  | [], f, args, v, h => by cases h
  | x :: l, f, args, v, h => by
    have e : objP (x :: l) f args = bc (Nat.beq x.f f) (bc (samesA x.args args) (some (.objs x.v x.l)) (objP l f args)) (objP l f args) := rfl
    rw [e, bc_eq, bc_eq] at h
    cases h1 : Nat.beq x.f f with
    | false => rw [h1] at h; exact objP_some h
    | true =>
      rw [h1, cond_true] at h
      cases h2 : samesA x.args args with
      | false => rw [h2] at h; exact objP_some h
      | true =>
        rw [h2] at h
        injection h with h
        exact ⟨x, Nat.eq_of_beq_eq_true h1, samesA_eq _ _ h2, h.symm⟩
theorem objP_ok {P : Program} {base : Nat} {w0 : World} {out : Prop} {M : Model} (hM : Fits P base w0 out M) (l : List (ObjMemo M)) : WaysOK P base w0 out (objP l) := by
  intro f args v hv
  obtain ⟨x, rfl, rfl, rfl⟩ := objP_some hv
  exact .runs _ M hM x.runs
end Go.Abs

