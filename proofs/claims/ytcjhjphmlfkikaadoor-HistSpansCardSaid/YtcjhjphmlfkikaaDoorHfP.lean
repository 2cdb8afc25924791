import Derived.Test.YtcjhjphmlfkikaaDoorHcD
set_option linter.unusedVariables false
set_option linter.unusedSimpArgs false
set_option maxRecDepth 100000
namespace Go.Proofs.YtcjhjphmlfkikaaDoor.Mini
open Go.Abs

def SeqP (l : List Sp) (n : Nat) : Prop := ∀ (i : Nat) (q : Sp), l[i]? = some q → q.to = q.fr + 1 ∨ (q.to < 0 ∧ i + 1 = l.length ∧ q.fr + 1 = (n : Int))
def SeqR (hl : List Ev) : Prop := ∀ (n : Nat) (e : Ev), hl[n]? = some e → e.ret = decide (n % 2 = 1) ∧ (n % 2 = 1 → ∀ e', hl[n - 1]? = some e' → e.th = e'.th)
theorem Facts.inj {h : List Ev} {l : List Sp} (k : Facts h l) {i j : Nat} {p q : Sp} (hp : l[i]? = some p) (hq : l[j]? = some q) (he : p.fr = q.fr) : i = j := by
  rcases Nat.lt_trichotomy i j with a | a | a
  · have := k.mono i j p q hp hq a; omega
  · exact a
  · have := k.mono j i q p hq hp a; omega
theorem seqR_of {hl : List Ev} {l : List Sp} (k : Facts hl l) (hp : SeqP l hl.length) : SeqR hl := by
  intro n
  induction n using Nat.strongRecOn with
  | _ n ih =>
    intro e he
    have hn := (List.getElem?_eq_some_iff.1 he).1
    rcases Nat.mod_two_eq_zero_or_one n with h2 | h2
    · refine ⟨?_, fun h3 => by omega⟩
      cases hr : e.ret with
      | false => simp [h2]
      | true =>
        exfalso
        obtain ⟨i, q, hq, ht⟩ := k.back n e he hr
        obtain ⟨m, e', g1, g2, g3, _⟩ := k.call i q hq
        rcases hp i q hq with a | ⟨a, _⟩
        · have hm := ih m (by omega) e' g2
          rw [g3] at hm
          have h3 := hm.1
          have : m % 2 = 1 := by omega
          rw [decide_eq_true this] at h3
          cases h3
        · omega
    · obtain ⟨e0, he0⟩ := lt_len rfl (show n - 1 < hl.length by omega)
      have h0 := (ih (n - 1) (by omega) e0 he0).1
      rw [decide_eq_false (by omega)] at h0
      obtain ⟨i, q, hq, hf⟩ := k.has (n - 1) e0 he0 h0
      obtain ⟨m, e1, g1, g2, g3, g4, _, _, g7⟩ := k.call i q hq
      have hm : m = n - 1 := by omega
      subst hm
      rw [he0] at g2
      cases g2
      rcases hp i q hq with a | ⟨a, _, b⟩
      · rcases g7 with ⟨c, _⟩ | ⟨m', e', c1, c2, c3, c4, c5, _⟩
        · omega
        · have hm' : m' = n := by omega
          subst hm'
          rw [he] at c3
          cases c3
          refine ⟨by rw [c4, decide_eq_true h2], fun _ e' he' => ?_⟩
          rw [he0] at he'
          cases he'
          rw [c5, g4]
      · omega
theorem seqP_of {hl : List Ev} {l : List Sp} (k : Facts hl l) (hr : SeqR hl) : SeqP l hl.length := by
  have main : ∀ (n : Nat) (i : Nat) (q : Sp), l[i]? = some q → q.fr = (n : Int) → q.to = q.fr + 1 ∨ (q.to < 0 ∧ q.fr + 1 = (hl.length : Int)) := by
    intro n
    induction n using Nat.strongRecOn with
    | _ n ih =>
      intro i q hq hf
      obtain ⟨m, e, g1, g2, g3, _, _, _, g7⟩ := k.call i q hq
      obtain rfl : m = n := by omega
      have hm := (List.getElem?_eq_some_iff.1 g2).1
      have he2 : m % 2 = 0 := by
        have := (hr m e g2).1
        rw [g3] at this
        have := decide_eq_false_iff_not.1 this.symm
        omega
      rcases Nat.lt_or_ge (m + 1) hl.length with h1 | h1
      · obtain ⟨e1, he1⟩ := lt_len rfl h1
        have hr1 := (hr (m + 1) e1 he1).1
        rw [decide_eq_true (by omega)] at hr1
        obtain ⟨j, p, hp, ht⟩ := k.back (m + 1) e1 he1 hr1
        obtain ⟨m', e2, c1, c2, c3, _, _, _, c7⟩ := k.call j p hp
        have hlt : m' < m + 1 := by
          rcases c7 with ⟨c8, _⟩ | ⟨m2, _, c8, c9, _⟩
          · omega
          · omega
        rcases Nat.lt_or_ge m' m with h3 | h3
        · rcases ih m' h3 j p hp c1 with a | ⟨a, _⟩
          · omega
          · omega
        · have : i = j := k.inj hq hp (by omega)
          subst this
          rw [hq] at hp
          cases hp
          exact .inl (by omega)
      · refine .inr ⟨?_, by omega⟩
        rcases g7 with ⟨c, _⟩ | ⟨m', e', c1, c2, c3, _⟩
        · omega
        · have := (List.getElem?_eq_some_iff.1 c3).1
          omega
  intro i q hq
  obtain ⟨n, e, g1, g2, _⟩ := k.call i q hq
  rcases main n i q hq g1 with a | ⟨a, b⟩
  · exact .inl a
  · refine .inr ⟨a, ?_, b⟩
    have hi := (List.getElem?_eq_some_iff.1 hq).1
    rcases Nat.lt_or_ge (i + 1) l.length with h1 | h1
    · obtain ⟨p, hp⟩ := lt_len rfl h1
      have h2 := k.mono i (i + 1) q p hq hp (by omega)
      obtain ⟨m, e', c1, c2, _⟩ := k.call _ p hp
      have := (List.getElem?_eq_some_iff.1 c2).1
      omega
    · omega

def cntT (l : List Bool) : Int := ((l.filter id).length : Int)
theorem cntT_set : ∀ {l : List Bool} {i : Nat} {b : Bool}, i < l.length → cntT (l.set i b) = cntT l - (if l.getD i false then 1 else 0) + (if b then 1 else 0)
  | [], i, b, h => by simp at h
  | x :: l, 0, b, h => by
    cases x <;> cases b <;> simp [cntT]
  | x :: l, i + 1, b, h => by
    have ih := cntT_set (l := l) (i := i) (b := b) (by simpa using h)
    simp only [List.set_cons_succ, List.getD_cons_succ]
    have e : ∀ m : List Bool, cntT (x :: m) = (if x then 1 else 0) + cntT m := fun m => by
      cases x
      · simp [cntT]
      · simp [cntT]; omega
    rw [e, e, ih]
    omega
theorem cntT_le {l : List Bool} : cntT l ≤ (l.length : Int) := by
  have := List.length_filter_le id l
  unfold cntT
  omega
theorem width_run : ∀ (h : List Ev) {r r' : Rt} {o w : Int}, r.opn.length = 4 → cntT r.opn = o → w ≤ 4 → runL stepR h r = some r' → (h.foldl wS (o, w)).2 ≤ 4
  | [], r, r', o, w, h4, ho, hw, hr => hw
  | e :: h, r, r', o, w, h4, ho, hw, hr => by
    simp only [runL] at hr
    obtain ⟨r1, h1, h2⟩ := Option.bind_eq_some_iff.1 hr
    simp only [List.foldl_cons]
    have key : r1.opn.length = 4 ∧ cntT r1.opn = (wS (o, w) e).1 := by
      unfold stepR at h1
      by_cases hok : okE e = false
      · rw [if_pos hok] at h1; cases h1
      rw [if_neg hok] at h1
      obtain ⟨k0, k4⟩ := okE_th (by simpa using hok)
      simp only at h1
      split at h1
      · cases h1
      · rename_i e1
        have e1 : e.ret = r.opn.getD e.th.toNat false := Decidable.not_not.1 e1
        split at h1
        · cases h1
        · cases hr2 : e.ret with
          | true =>
            rw [hr2] at h1 e1
            simp only [if_true] at h1
            split at h1
            · cases h1
            · cases h1
              refine ⟨by simpa using h4, ?_⟩
              simp only [wS, hr2, if_true]
              rw [cntT_set (by omega), ← e1, ho]
              simp
          | false =>
            rw [hr2] at h1 e1
            simp only [Bool.false_eq_true, if_false] at h1
            split at h1
            · cases h1
            · split at h1
              · cases h1
              · cases h1
                refine ⟨by simpa using h4, ?_⟩
                simp only [wS, hr2, Bool.false_eq_true, if_false]
                rw [cntT_set (by omega), ← e1, ho]
                simp
    have hw2 : (wS (o, w) e).2 ≤ 4 := by
      have := cntT_le (l := r1.opn)
      have h5 : (wS (o, w) e).2 = if (wS (o, w) e).1 > w then (wS (o, w) e).1 else w := rfl
      rw [h5]
      split <;> omega
    exact width_run h key.1 key.2 hw2 h2
theorem width_le {hl : List Ev} {l : List Sp} (hv : spansV hl = some l) : widthV hl ≤ 4 := by
  have h1 := valid_same hl
  rw [hv] at h1
  obtain ⟨r', hr⟩ := Option.isSome_iff_exists.1 (show (runL stepR hl Rt.start).isSome = true from h1.symm)
  exact width_run hl (r := Rt.start) rfl (by decide) (by decide) hr

def Grow (n : Nat) (l' l : List Sp) : Prop := ∀ (i : Nat) (p : Sp), l'[i]? = some p → ∃ q, l[i]? = some q ∧ q.fr = p.fr ∧ (q.to = p.to ∨ (p.to = -1 ∧ (n : Int) ≤ q.to))
end Go.Proofs.YtcjhjphmlfkikaaDoor.Mini

