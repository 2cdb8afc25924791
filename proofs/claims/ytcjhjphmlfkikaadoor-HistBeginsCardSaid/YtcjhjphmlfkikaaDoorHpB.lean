import Derived.Test.YtcjhjphmlfkikaaDoorHpA
set_option linter.unusedVariables false
set_option linter.unusedSimpArgs false
namespace Go.Proofs.YtcjhjphmlfkikaaDoor.Mini
open Go.Abs

theorem stepV_inv {n n' : Nat} {s s' : St} {e : Ev} (h : stepV (n, s) e = some (n', s')) : okE e = true ∧ n' = n + 1 ∧
    ((e.ret = true ∧ ∃ (k : Nat) (q : Sp), s.opn.getD e.th.toNat 0 = (k : Int) ∧ s.l[k]? = some q ∧ q.call = e.call ∧ q.ix = e.ix ∧ s' = ⟨s.l.set k { q with to := (n : Int), res := e.res }, s.cnt, s.opn.set e.th.toNat (-1)⟩) ∨
    (e.ret = false ∧ s.opn.getD e.th.toNat 0 < 0 ∧ e.ix = s.cnt.getD e.th.toNat 0 ∧ e.res = 0 ∧ s.l.length ≠ 12 ∧ s' = ⟨s.l ++ [⟨e.th, e.ix, e.call, (n : Int), -1, 0⟩], s.cnt.set e.th.toNat (s.cnt.getD e.th.toNat 0 + 1), s.opn.set e.th.toNat (s.l.length : Int)⟩)) := by
  unfold stepV at h
  by_cases hok : okE e = false
  · rw [if_pos hok] at h
    cases h
  rw [if_neg hok] at h
  refine ⟨by simpa using hok, ?_⟩
  cases hr : e.ret with
  | true =>
    simp only [hr, if_true] at h
    split at h
    · cases h
    · rename_i h1
      split at h
      · cases h
      · rename_i q hq
        split at h
        · cases h
        · split at h
          · cases h
          · rename_i hc hi
            simp only [Option.some.injEq, Prod.mk.injEq] at h
            obtain ⟨rfl, rfl⟩ := h
            exact ⟨rfl, .inl ⟨rfl, _, q, (Int.toNat_of_nonneg (by omega)).symm, hq, Cl.eq_of (by simpa using hc), Decidable.not_not.1 hi, rfl⟩⟩
  | false =>
    simp only [hr, Bool.false_eq_true, if_false] at h
    split at h
    · cases h
    · split at h
      · cases h
      · split at h
        · cases h
        · split at h
          · cases h
          · rename_i h1 h2 h3 h4
            simp only [Option.some.injEq, Prod.mk.injEq] at h
            obtain ⟨rfl, rfl⟩ := h
            exact ⟨rfl, .inr ⟨rfl, by omega, Decidable.not_not.1 h2, Decidable.not_not.1 h3, h4, rfl⟩⟩

theorem Rel.own {s : St} {r : Rt} (k : Rel s r) {t j : Nat} {q : Sp} (ht : t < 4) (ho : s.opn.getD t 0 = (j : Int)) (hq : s.l[j]? = some q) : q.th = (t : Int) ∧ q.to = -1 := by
  cases hb : r.opn.getD t false with
  | false =>
    have := (k.shut t ht hb).1
    omega
  | true =>
    obtain ⟨_, _, p, hp, p1, _, _, p4⟩ := k.open_ t ht hb
    rw [ho, Int.toNat_natCast, hq] at hp
    cases hp
    exact ⟨p1, p4⟩

structure Facts (h : List Ev) (l : List Sp) : Prop where
  call : ∀ (i : Nat) (q : Sp), l[i]? = some q → ∃ (n : Nat) (e : Ev), q.fr = (n : Int) ∧ h[n]? = some e ∧ e.ret = false ∧ e.th = q.th ∧ e.ix = q.ix ∧ e.call = q.call ∧ ((q.to = -1 ∧ q.res = 0) ∨ ∃ (m : Nat) (e' : Ev), q.to = (m : Int) ∧ n < m ∧ h[m]? = some e' ∧ e'.ret = true ∧ e'.th = q.th ∧ e'.ix = q.ix ∧ e'.call = q.call ∧ e'.res = q.res)
  has : ∀ (n : Nat) (e : Ev), h[n]? = some e → e.ret = false → ∃ (i : Nat) (q : Sp), l[i]? = some q ∧ q.fr = (n : Int)
  back : ∀ (m : Nat) (e : Ev), h[m]? = some e → e.ret = true → ∃ (i : Nat) (q : Sp), l[i]? = some q ∧ q.to = (m : Int)
  mono : ∀ (i j : Nat) (p q : Sp), l[i]? = some p → l[j]? = some q → i < j → p.fr < q.fr
theorem app_at {α : Type} {l : List α} {a : α} {i : Nat} {x : α} (h : (l ++ [a])[i]? = some x) : l[i]? = some x ∨ (i = l.length ∧ x = a) := by
  rcases Nat.lt_or_ge i l.length with h' | h'
  · rw [List.getElem?_append_left h'] at h
    exact .inl h
  · rw [List.getElem?_append_right h'] at h
    have h1 : i - l.length = 0 := by
      rcases Nat.eq_zero_or_pos (i - l.length) with h1 | h1
      · exact h1
      · rw [List.getElem?_eq_none (by simp; omega)] at h
        cases h
    rw [h1] at h
    cases h
    exact .inr ⟨by omega, rfl⟩
theorem at_app1 {α : Type} {l : List α} {a : α} {i : Nat} {x : α} (h : l[i]? = some x) : (l ++ [a])[i]? = some x := by
  rw [List.getElem?_append_left (List.getElem?_eq_some_iff.1 h).1]
  exact h
theorem at_end {α : Type} {l : List α} {a : α} : (l ++ [a])[l.length]? = some a := by simp
theorem Facts.step {h : List Ev} {s s' : St} {r : Rt} {e : Ev} {n' : Nat} (k : Rel s r) (f : Facts h s.l) (hs : stepV (h.length, s) e = some (n', s')) : Facts (h ++ [e]) s'.l := by
  obtain ⟨hok, rfl, hc⟩ := stepV_inv hs
  obtain ⟨h0, h4⟩ := okE_th hok
  rcases hc with ⟨hr, j, q, ho, hq, e1, e2, rfl⟩ | ⟨hr, ho, e1, e2, e3, rfl⟩
  · obtain ⟨q1, q2⟩ := k.own (by omega) ho hq
    have hth : q.th = e.th := by omega
    have hj := (List.getElem?_eq_some_iff.1 hq).1
    have old : ∀ (i : Nat) (p : Sp), i ≠ j → (s.l.set j { q with to := (h.length : Int), res := e.res })[i]? = some p → s.l[i]? = some p := by
      intro i p hi hp
      rwa [List.getElem?_set_ne (Ne.symm hi)] at hp
    have fr : ∀ (i : Nat) (p : Sp), (s.l.set j { q with to := (h.length : Int), res := e.res })[i]? = some p → ∃ p0, s.l[i]? = some p0 ∧ p0.fr = p.fr := by
      intro i p hp
      by_cases hi : i = j
      · subst hi
        rw [List.getElem?_set_self hj] at hp
        cases hp
        exact ⟨q, hq, rfl⟩
      · exact ⟨p, old i p hi hp, rfl⟩
    refine ⟨fun i p hp => ?_, fun n e' he hr' => ?_, fun m e' he hr' => ?_, fun a b p p' hp hp' hab => ?_⟩
    · by_cases hi : i = j
      · subst hi
        rw [List.getElem?_set_self hj] at hp
        cases hp
        obtain ⟨n, e', g1, g2, g3, g4, g5, g6, _⟩ := f.call i q hq
        exact ⟨n, e', g1, at_app1 g2, g3, g4, g5, g6, .inr ⟨h.length, e, rfl, (List.getElem?_eq_some_iff.1 g2).1, at_end, hr, hth.symm, e2.symm, e1.symm, rfl⟩⟩
      · obtain ⟨n, e', g1, g2, g3, g4, g5, g6, g7⟩ := f.call i p (old i p hi hp)
        refine ⟨n, e', g1, at_app1 g2, g3, g4, g5, g6, g7.imp id ?_⟩
        rintro ⟨m, e2, c1, c2, c3, c4⟩
        exact ⟨m, e2, c1, c2, at_app1 c3, c4⟩
    · rcases app_at he with he | ⟨rfl, rfl⟩
      · obtain ⟨i, p, hp, hpn⟩ := f.has n e' he hr'
        by_cases hi : i = j
        · subst hi
          rw [hq] at hp
          cases hp
          exact ⟨i, _, List.getElem?_set_self hj, hpn⟩
        · exact ⟨i, p, by rw [List.getElem?_set_ne (Ne.symm hi)]; exact hp, hpn⟩
      · rw [hr] at hr'
        cases hr'
    · rcases app_at he with he | ⟨rfl, rfl⟩
      · obtain ⟨i, p, hp, hpn⟩ := f.back m e' he hr'
        by_cases hi : i = j
        · subst hi
          rw [hq] at hp
          cases hp
          rw [q2] at hpn
          omega
        · exact ⟨i, p, by rw [List.getElem?_set_ne (Ne.symm hi)]; exact hp, hpn⟩
      · exact ⟨j, _, List.getElem?_set_self hj, rfl⟩
    · obtain ⟨p0, g1, g2⟩ := fr a p hp
      obtain ⟨p1, g3, g4⟩ := fr b p' hp'
      have := f.mono a b p0 p1 g1 g3 hab
      omega
  · refine ⟨fun i p hp => ?_, fun n e' he hr' => ?_, fun m e' he hr' => ?_, fun a b p p' hp hp' hab => ?_⟩
    · rcases app_at hp with hp | ⟨rfl, rfl⟩
      · obtain ⟨n, e', g1, g2, g3, g4, g5, g6, g7⟩ := f.call i p hp
        refine ⟨n, e', g1, at_app1 g2, g3, g4, g5, g6, g7.imp id ?_⟩
        rintro ⟨m, e2, c1, c2, c3, c4⟩
        exact ⟨m, e2, c1, c2, at_app1 c3, c4⟩
      · exact ⟨h.length, e, rfl, at_end, hr, rfl, rfl, rfl, .inl ⟨rfl, rfl⟩⟩
    · rcases app_at he with he | ⟨rfl, rfl⟩
      · obtain ⟨i, p, hp, hpn⟩ := f.has n e' he hr'
        exact ⟨i, p, at_app1 hp, hpn⟩
      · exact ⟨s.l.length, _, at_end, rfl⟩
    · rcases app_at he with he | ⟨rfl, rfl⟩
      · obtain ⟨i, p, hp, hpn⟩ := f.back m e' he hr'
        exact ⟨i, p, at_app1 hp, hpn⟩
      · rw [hr] at hr'
        cases hr'
    · rcases app_at hp with hp | ⟨rfl, rfl⟩
      · rcases app_at hp' with hp' | ⟨rfl, rfl⟩
        · exact f.mono a b p p' hp hp' hab
        · obtain ⟨n, e', g1, g2, _⟩ := f.call a p hp
          have := (List.getElem?_eq_some_iff.1 g2).1
          simp only
          omega
      · rcases app_at hp' with hp' | ⟨rfl, rfl⟩
        · have := (List.getElem?_eq_some_iff.1 hp').1
          omega
        · omega
theorem facts_run : ∀ (g h : List Ev) {s s' : St} {r : Rt} {n' : Nat}, Rel s r → Facts h s.l → runL stepV g (h.length, s) = some (n', s') → n' = h.length + g.length ∧ Facts (h ++ g) s'.l ∧ ∃ r', Rel s' r'
  | [], h, s, s', r, n', k, f, hr => by
    simp only [runL, Option.some.injEq, Prod.mk.injEq] at hr
    obtain ⟨rfl, rfl⟩ := hr
    exact ⟨rfl, by simpa using f, r, k⟩
  | e :: g, h, s, s', r, n', k, f, hr => by
    simp only [runL] at hr
    rcases step_both (n := h.length) (e := e) k with ⟨a, _⟩ | ⟨s1, r1, a, _, k1⟩
    · rw [a] at hr
      cases hr
    · rw [a, Option.bind_some] at hr
      have f1 := f.step k a
      obtain ⟨g1, g2, g3⟩ := facts_run g (h ++ [e]) k1 f1 (by simpa using hr)
      refine ⟨by simp at g1 ⊢; omega, by simpa using g2, g3⟩
theorem facts_of {h : List Ev} {l : List Sp} (hv : spansV h = some l) : Facts h l := by
  unfold spansV at hv
  obtain ⟨⟨n', s'⟩, h1, rfl⟩ := Option.map_eq_some_iff.1 hv
  obtain ⟨_, h2, _⟩ := facts_run h [] rel_start ⟨fun i q hq => by simp [St.start] at hq, fun n e he => by simp at he, fun n e he => by simp at he, fun i j p q hp => by simp [St.start] at hp⟩ h1
  simpa using h2
end Go.Proofs.YtcjhjphmlfkikaaDoor.Mini

