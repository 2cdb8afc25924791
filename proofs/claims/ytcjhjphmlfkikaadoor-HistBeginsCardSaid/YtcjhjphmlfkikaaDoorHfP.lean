import Derived.Test.YtcjhjphmlfkikaaDoorHcD
set_option linter.unusedVariables false
set_option linter.unusedSimpArgs false
set_option maxRecDepth 100000
namespace Go.Proofs.YtcjhjphmlfkikaaDoor.Mini
open Go.Abs

def SeqR (hl : List Ev) : Prop := ∀ (n : Nat) (e : Ev), hl[n]? = some e → e.ret = decide (n % 2 = 1) ∧ (n % 2 = 1 → ∀ e', hl[n - 1]? = some e' → e.th = e'.th)
def Grow (n : Nat) (l' l : List Sp) : Prop := ∀ (i : Nat) (p : Sp), l'[i]? = some p → ∃ q, l[i]? = some q ∧ q.fr = p.fr ∧ (q.to = p.to ∨ (p.to = -1 ∧ (n : Int) ≤ q.to))
theorem grow_run : ∀ (g : List Ev) (n m m' : Nat) {s s' : St} {r : Rt} {l' : List Sp}, n ≤ m → Rel s r → Grow n l' s.l → runL stepV g (m, s) = some (m', s') → Grow n l' s'.l
  | [], n, m, m', s, s', r, l', hn, k, hg, hr => by
    simp only [runL, Option.some.injEq, Prod.mk.injEq] at hr
    obtain ⟨rfl, rfl⟩ := hr
    exact hg
  | e :: g, n, m, m', s, s', r, l', hn, k, hg, hr => by
    simp only [runL] at hr
    rcases step_both (n := m) (e := e) k with ⟨a, _⟩ | ⟨s1, r1, a, _, k1⟩
    · rw [a] at hr
      cases hr
    · rw [a, Option.bind_some] at hr
      refine grow_run g n (m + 1) m' (by omega) k1 ?_ hr
      obtain ⟨hok, _, hc⟩ := stepV_inv a
      obtain ⟨h0, h4⟩ := okE_th hok
      rcases hc with ⟨_, j, q, ho, hq, _, _, rfl⟩ | ⟨_, _, _, _, _, rfl⟩
      · obtain ⟨q1, q2⟩ := k.own (by omega) ho hq
        intro i p hp
        obtain ⟨x, hx, x1, x2⟩ := hg i p hp
        by_cases hij : i = j
        · subst hij
          rw [hq] at hx
          cases hx
          refine ⟨_, List.getElem?_set_self (List.getElem?_eq_some_iff.1 hq).1, x1, .inr ⟨?_, by simp only; omega⟩⟩
          omega
        · exact ⟨x, by rw [List.getElem?_set_ne (Ne.symm hij)]; exact hx, x1, x2⟩
      · intro i p hp
        obtain ⟨x, hx, x1, x2⟩ := hg i p hp
        exact ⟨x, at_app1 hx, x1, x2⟩
theorem spans_take {hl : List Ev} {l : List Sp} (hv : spansV hl = some l) (n : Nat) (hn : n ≤ hl.length) : ∃ l', spansV (hl.take n) = some l' ∧ Grow n l' l := by
  unfold spansV at hv
  obtain ⟨⟨m, s⟩, h1, rfl⟩ := Option.map_eq_some_iff.1 hv
  obtain ⟨⟨m1, s1⟩, h2⟩ := run_pre (i := n) h1
  have h3 : runL stepV (hl.take n ++ hl.drop n) (0, St.start) = some (m, s) := by rw [List.take_append_drop]; exact h1
  rw [runL_app, h2, Option.bind_some] at h3
  rcases rel_run (hl.take n) 0 rel_start with ⟨a, _⟩ | ⟨s2, r2, a, _, k⟩
  · rw [a] at h2; cases h2
  · rw [a] at h2
    simp only [Option.some.injEq, Prod.mk.injEq] at h2
    obtain ⟨rfl, rfl⟩ := h2
    refine ⟨s2.l, by unfold spansV; rw [a]; rfl, ?_⟩
    refine grow_run (hl.drop n) n _ _ (by simp; omega) k ?_ h3
    intro i p hp
    exact ⟨p, hp, rfl, .inl rfl⟩
theorem grow_len {n : Nat} {l' l : List Sp} (k : Grow n l' l) : l'.length ≤ l.length := by
  rcases Nat.lt_or_ge l.length l'.length with h | h
  · obtain ⟨p, hp⟩ := lt_len rfl h
    obtain ⟨q, hq, _⟩ := k _ p hp
    simp at hq
  · exact h
theorem ahead_begin {hl : List Ev} {l l' : List Sp} {n : Nat} (hn : n ≤ hl.length) (hv : spansV hl = some l) (hv' : spansV (hl.take n) = some l') (k : Grow n l' l) {a b : Nat} (ha : a < l'.length) (hb : b < l'.length) : (aheadV (hl.take n) a b).1 = (aheadV hl a b).1 := by
  obtain ⟨p, hp⟩ := lt_len rfl ha
  obtain ⟨q, hq⟩ := lt_len rfl hb
  obtain ⟨p2, hp2, p3, p4⟩ := k a p hp
  obtain ⟨q2, hq2, q3, q4⟩ := k b q hq
  have hll := grow_len k
  rw [ahead_in (p := p) (q := q) hv' ⟨by omega, by omega, by omega, by omega⟩ (by simpa using hp) (by simpa using hq), ahead_in (p := p2) (q := q2) hv ⟨by omega, by omega, by omega, by omega⟩ (by simpa using hp2) (by simpa using hq2)]
  simp only
  have hlt : q.fr < (n : Int) := by
    obtain ⟨m, e, c1, c2, -⟩ := (facts_of hv').call b q hq
    have hm := (List.getElem?_eq_some_iff.1 c2).1
    rw [List.length_take] at hm
    omega
  unfold aheadS
  rw [Bool.eq_iff_iff]
  simp only [Bool.and_eq_true, decide_eq_true_eq]
  clear hp hq hp2 hq2 hv hv' k
  omega
end Go.Proofs.YtcjhjphmlfkikaaDoor.Mini

