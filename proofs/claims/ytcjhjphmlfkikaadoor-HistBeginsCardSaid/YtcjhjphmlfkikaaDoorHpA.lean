import Derived.Test.YtcjhjphmlfkikaaDoorAbsG7
set_option linter.unusedVariables false
set_option linter.unusedSimpArgs false
namespace Go.Proofs.YtcjhjphmlfkikaaDoor.Mini
open Go.Abs

structure Cl where
  op : List UInt8
  x : Int
  y : Int
structure Ev where
  th : Int
  ix : Int
  ret : Bool
  call : Cl
  res : Int
structure Sp where
  th : Int
  ix : Int
  call : Cl
  fr : Int
  to : Int
  res : Int
def Cl.beq (a b : Cl) : Bool := a.op == b.op && a.x == b.x && a.y == b.y
theorem Cl.eq_of {a b : Cl} (h : a.beq b = true) : a = b := by
  cases a; cases b
  simp only [Cl.beq, Bool.and_eq_true, beq_iff_eq] at h
  obtain ⟨⟨rfl, rfl⟩, rfl⟩ := h
  rfl
def isW (n : Int) : Bool := decide (n ≥ -1000000000000000) && decide (n ≤ 1000000000000000)
def lower (c : UInt8) : Bool := decide (97 ≤ c.toNat) && decide (c.toNat ≤ 122)
def nameV (s : List UInt8) : Bool := decide (1 ≤ s.length) && decide (s.length ≤ 8) && s.all lower
def okE (e : Ev) : Bool := decide (0 ≤ e.th) && decide (e.th < 4) && nameV e.call.op && isW e.call.x && isW e.call.y && isW e.res

def runL {σ α : Type} (f : σ → α → Option σ) : List α → σ → Option σ
  | [], s => some s
  | a :: l, s => (f s a).bind (runL f l)
theorem runL_app {σ α : Type} {f : σ → α → Option σ} : ∀ {l k : List α} {s : σ}, runL f (l ++ k) s = (runL f l s).bind (runL f k)
  | [], k, s => rfl
  | a :: l, k, s => by
    simp only [List.cons_append, runL]
    cases f s a with
    | none => rfl
    | some t => simp only [Option.bind_some]; exact runL_app
theorem runL_take {σ α : Type} {f : σ → α → Option σ} {l : List α} {i : Nat} {a : α} {s : σ} (h : l[i]? = some a) : runL f (l.take (i + 1)) s = (runL f (l.take i) s).bind fun t => f t a := by
  rw [List.take_add_one, h, runL_app]
  congr 1
  funext t
  show (f t a).bind some = f t a
  cases f t a <;> rfl
theorem runL_none {σ α : Type} {f : σ → α → Option σ} {l : List α} {i : Nat} {s : σ} (h : runL f (l.take i) s = none) : runL f l s = none := by
  rw [← List.take_append_drop i l, runL_app, h]
  rfl

structure St where
  l : List Sp
  cnt : List Int
  opn : List Int
def St.start : St := ⟨[], [0, 0, 0, 0], [-1, -1, -1, -1]⟩
def stepV (s : Nat × St) (e : Ev) : Option (Nat × St) :=
  if okE e = false then none else
  let t := e.th.toNat
  let own := s.2.opn.getD t 0
  if e.ret then
    if own < 0 then none else
    match s.2.l[own.toNat]? with
    | none => none
    | some q => if q.call.beq e.call = false then none else if q.ix ≠ e.ix then none else
      some (s.1 + 1, ⟨s.2.l.set own.toNat { q with to := (s.1 : Int), res := e.res }, s.2.cnt, s.2.opn.set t (-1)⟩)
  else
    if own ≥ 0 then none else if e.ix ≠ s.2.cnt.getD t 0 then none else if e.res ≠ 0 then none else if s.2.l.length = 12 then none else
    some (s.1 + 1, ⟨s.2.l ++ [⟨e.th, e.ix, e.call, (s.1 : Int), -1, 0⟩], s.2.cnt.set t (s.2.cnt.getD t 0 + 1), s.2.opn.set t (s.2.l.length : Int)⟩)
def spansV (h : List Ev) : Option (List Sp) := (runL stepV h (0, St.start)).map fun s => s.2.l

structure Rt where
  calls : Nat
  opn : List Bool
  nxt : List Int
  und : List Cl
def Rt.start : Rt := ⟨0, [false, false, false, false], [0, 0, 0, 0], [⟨[], 0, 0⟩, ⟨[], 0, 0⟩, ⟨[], 0, 0⟩, ⟨[], 0, 0⟩]⟩
def stepR (r : Rt) (e : Ev) : Option Rt :=
  if okE e = false then none else
  let t := e.th.toNat
  if e.ret ≠ r.opn.getD t false then none else if e.ix ≠ r.nxt.getD t 0 then none else
  if e.ret then (if e.call.beq (r.und.getD t ⟨[], 0, 0⟩) = false then none else some ⟨r.calls, r.opn.set t false, r.nxt.set t (r.nxt.getD t 0 + 1), r.und⟩)
  else if e.res ≠ 0 then none else if r.calls + 1 > 12 then none else some ⟨r.calls + 1, r.opn.set t true, r.nxt, r.und.set t e.call⟩
structure Rel (s : St) (r : Rt) : Prop where
  lc : s.cnt.length = 4
  lo : s.opn.length = 4
  ro : r.opn.length = 4
  rn : r.nxt.length = 4
  ru : r.und.length = 4
  calls : r.calls = s.l.length
  le : s.l.length ≤ 12
  shut : ∀ t < 4, r.opn.getD t false = false → s.opn.getD t 0 < 0 ∧ s.cnt.getD t 0 = r.nxt.getD t 0
  open_ : ∀ t < 4, r.opn.getD t false = true → 0 ≤ s.opn.getD t 0 ∧ s.cnt.getD t 0 = r.nxt.getD t 0 + 1 ∧ ∃ q, s.l[(s.opn.getD t 0).toNat]? = some q ∧ q.th = (t : Int) ∧ q.call = r.und.getD t ⟨[], 0, 0⟩ ∧ q.ix = r.nxt.getD t 0 ∧ q.to = -1
  range : ∀ q ∈ s.l, 0 ≤ q.th ∧ q.th < 4 ∧ q.ix < s.cnt.getD q.th.toNat 0
  uniq : ∀ (i j : Nat) (p q : Sp), s.l[i]? = some p → s.l[j]? = some q → p.th = q.th → p.ix = q.ix → i = j
theorem rel_start : Rel St.start Rt.start where
  lc := rfl
  lo := rfl
  ro := rfl
  rn := rfl
  ru := rfl
  calls := rfl
  le := by decide
  shut := by decide
  open_ := fun t ht h => by
    have : ∀ t < 4, Rt.start.opn.getD t false = false := by decide
    rw [this t ht] at h
    cases h
  range := fun q hq => by cases hq
  uniq := fun i j p q hi => by simp [St.start] at hi
theorem cl_beq_comm (a b : Cl) : a.beq b = b.beq a := by
  simp only [Cl.beq, Bool.beq_eq_decide_eq, eq_comm]
theorem getD_set {α : Type} {l : List α} {i j : Nat} {x d : α} (hi : i < l.length) : (l.set i x).getD j d = if i = j then x else l.getD j d := by
  simp only [List.getD_eq_getElem?_getD, List.getElem?_set]
  split
  · rename_i e
    subst e
    simp [hi]
  · rfl
theorem okE_th {e : Ev} (h : okE e = true) : 0 ≤ e.th ∧ e.th < 4 := by
  simp only [okE, Bool.and_eq_true, decide_eq_true_eq] at h
  exact h.1.1.1.1
theorem step_both {n : Nat} {s : St} {r : Rt} {e : Ev} (k : Rel s r) : (stepV (n, s) e = none ∧ stepR r e = none) ∨ ∃ s' r', stepV (n, s) e = some (n + 1, s') ∧ stepR r e = some r' ∧ Rel s' r' := by
  unfold stepV stepR
  by_cases hok : okE e = false
  · exact .inl ⟨by rw [if_pos hok], by rw [if_pos hok]⟩
  rw [if_neg hok, if_neg hok]
  have hok : okE e = true := by simpa using hok
  obtain ⟨h0, h4⟩ := okE_th hok
  have ht : e.th.toNat < 4 := by omega
  have hte : ((e.th.toNat : Nat) : Int) = e.th := Int.toNat_of_nonneg h0
  cases hr : e.ret with
  | true =>
    cases ho : r.opn.getD e.th.toNat false with
    | false =>
      obtain ⟨a, _⟩ := k.shut _ ht ho
      refine .inl ⟨?_, ?_⟩
      · simp only [if_true]
        rw [if_pos a]
      · simp only [ho, ne_eq, reduceCtorEq, not_false_eq_true, if_true]
    | true =>
      obtain ⟨a, b, q, hq, q1, q2, q3, q4⟩ := k.open_ _ ht ho
      simp only [ho, if_true, ne_eq, not_true_eq_false, if_false]
      rw [if_neg (by omega), hq]
      simp only
      by_cases hi : e.ix = r.nxt.getD e.th.toNat 0
      · rw [if_neg (not_not_intro hi)]
        rw [← q2, cl_beq_comm e.call]
        by_cases hc : q.call.beq e.call = false
        · rw [if_pos hc, if_pos hc]
          exact .inl ⟨rfl, rfl⟩
        · rw [if_neg hc, if_neg hc, if_neg (not_not_intro (by rw [q3, hi]))]
          refine .inr ⟨_, _, rfl, rfl, ?_⟩
          have hlt : (s.opn.getD e.th.toNat 0).toNat < s.l.length := (List.getElem?_eq_some_iff.1 hq).1
          refine ⟨k.lc, by simp [k.lo], by simp [k.ro], by simp [k.rn], k.ru, by simp [k.calls], by simpa using k.le, fun t h4 hs => ?_, fun t h4 hs => ?_, fun p hp => ?_, fun i j p p' hpi hpj e1 e2 => ?_⟩
          · simp only at hs ⊢
            rw [getD_set (by rw [k.ro]; exact ht)] at hs
            rw [getD_set (by rw [k.lo]; exact ht), getD_set (by rw [k.rn]; exact ht)]
            split
            · rename_i e1
              subst e1
              exact ⟨by decide, by rw [b]⟩
            · rename_i e1
              rw [if_neg e1] at hs
              exact k.shut t h4 hs
          · simp only at hs ⊢
            rw [getD_set (by rw [k.ro]; exact ht)] at hs
            rw [getD_set (by rw [k.lo]; exact ht), getD_set (by rw [k.rn]; exact ht)]
            split at hs
            · cases hs
            · rename_i e1
              rw [if_neg e1, if_neg e1]
              obtain ⟨a', b', p, hp, p1, p2, p3, p4⟩ := k.open_ t h4 hs
              refine ⟨a', b', p, ?_, p1, p2, p3, p4⟩
              rw [List.getElem?_set]
              split
              · rename_i e2
                exfalso
                rw [← e2, hq] at hp
                cases hp
                rw [q1] at p1
                omega
              · exact hp
          · obtain ⟨i, hi', rfl⟩ := List.getElem_of_mem hp
            have hi2 : i < s.l.length := by simpa using hi'
            simp only [List.getElem_set]
            split
            · exact k.range q (List.mem_of_getElem? hq)
            · exact k.range _ (List.getElem_mem hi2)
          · have back : ∀ (i : Nat) (p : Sp), (s.l.set (s.opn.getD e.th.toNat 0).toNat { q with to := (n : Int), res := e.res })[i]? = some p → ∃ p0, s.l[i]? = some p0 ∧ p0.th = p.th ∧ p0.ix = p.ix := by
              intro i p hp
              rw [List.getElem?_set] at hp
              split at hp
              · rename_i e3
                cases hp
                subst e3
                exact ⟨q, hq, rfl, rfl⟩
              · exact ⟨p, hp, rfl, rfl⟩
            obtain ⟨a1, b1, c1, d1⟩ := back i p hpi
            obtain ⟨a2, b2, c2, d2⟩ := back j p' hpj
            exact k.uniq i j a1 a2 b1 b2 (by rw [c1, c2, e1]) (by rw [d1, d2, e2])
      · refine .inl ⟨?_, by rw [if_pos hi]⟩
        by_cases hc : q.call.beq e.call = false
        · rw [if_pos hc]
        · rw [if_neg hc, if_pos (by rw [q3]; exact fun h => hi h.symm)]
  | false =>
    cases ho : r.opn.getD e.th.toNat false with
    | true =>
      obtain ⟨a, _⟩ := k.open_ _ ht ho
      refine .inl ⟨?_, ?_⟩
      · simp only [Bool.false_eq_true, if_false]
        rw [if_pos (by omega)]
      · simp only [ho, ne_eq, reduceCtorEq, not_false_eq_true, if_true]
    | false =>
      obtain ⟨a, b⟩ := k.shut _ ht ho
      simp only [ho, Bool.false_eq_true, if_false, ne_eq, not_true_eq_false]
      rw [if_neg (by omega), b]
      by_cases hi : e.ix = r.nxt.getD e.th.toNat 0
      · rw [if_neg (not_not_intro hi), if_neg (not_not_intro hi)]
        by_cases h0r : e.res = 0
        · rw [if_neg (not_not_intro h0r), if_neg (not_not_intro h0r), k.calls]
          by_cases h12 : s.l.length = 12
          · rw [if_pos h12, if_pos (by omega)]
            exact .inl ⟨rfl, rfl⟩
          · have h13 : ¬ s.l.length + 1 > 12 := by
              have := k.le
              omega
            rw [if_neg h12, if_neg h13]
            refine .inr ⟨_, _, rfl, rfl, ?_⟩
            refine ⟨by simp [k.lc], by simp [k.lo], by simp [k.ro], k.rn, by simp [k.ru], by simp [k.calls], by simp; omega, fun t h4 hs => ?_, fun t h4 hs => ?_, fun p hp => ?_, fun i j p p' hpi hpj e1 e2 => ?_⟩
            · simp only at hs ⊢
              rw [getD_set (by rw [k.ro]; exact ht)] at hs
              rw [getD_set (by rw [k.lo]; exact ht), getD_set (by rw [k.lc]; exact ht)]
              split at hs
              · cases hs
              · rename_i e1
                rw [if_neg e1, if_neg e1]
                exact k.shut t h4 hs
            · simp only at hs ⊢
              rw [getD_set (by rw [k.ro]; exact ht)] at hs
              rw [getD_set (by rw [k.lo]; exact ht), getD_set (by rw [k.lc]; exact ht), getD_set (by rw [k.ru]; exact ht)]
              split at hs
              · rename_i e1
                subst e1
                simp only [if_true]
                refine ⟨by omega, trivial, ⟨e.th, e.ix, e.call, (n : Int), -1, 0⟩, ?_, hte.symm, rfl, hi, rfl⟩
                rw [Int.toNat_natCast, List.getElem?_append_right (Nat.le_refl _), Nat.sub_self]
                rfl
              · rename_i e1
                rw [if_neg e1, if_neg e1, if_neg e1]
                obtain ⟨a', b', p, hp, p1, p2, p3, p4⟩ := k.open_ t h4 hs
                exact ⟨a', b', p, by rw [List.getElem?_append_left (List.getElem?_eq_some_iff.1 hp).1]; exact hp, p1, p2, p3, p4⟩
            · simp only
              rcases List.mem_append.1 hp with hp | hp
              · obtain ⟨r1, r2, r3⟩ := k.range p hp
                refine ⟨r1, r2, ?_⟩
                rw [getD_set (by rw [k.lc]; exact ht)]
                split
                · rename_i e1
                  rw [← e1, b] at r3
                  omega
                · exact r3
              · have : p = ⟨e.th, e.ix, e.call, (n : Int), -1, 0⟩ := by simpa using hp
                subst this
                refine ⟨h0, by omega, ?_⟩
                simp only
                rw [getD_set (by rw [k.lc]; exact ht), if_pos rfl]
                omega
            · have cases_ : ∀ (i : Nat) (p : Sp), (s.l ++ [⟨e.th, e.ix, e.call, (n : Int), -1, 0⟩])[i]? = some p → s.l[i]? = some p ∨ (i = s.l.length ∧ p = ⟨e.th, e.ix, e.call, (n : Int), -1, 0⟩) := by
                intro i p hp
                rcases Nat.lt_or_ge i s.l.length with h' | h'
                · rw [List.getElem?_append_left h'] at hp
                  exact .inl hp
                · rw [List.getElem?_append_right h'] at hp
                  have h1 : i - s.l.length = 0 := by
                    rcases Nat.eq_zero_or_pos (i - s.l.length) with h1 | h1
                    · exact h1
                    · rw [List.getElem?_eq_none (by simp; omega)] at hp
                      cases hp
                  rw [h1] at hp
                  cases hp
                  exact .inr ⟨by omega, rfl⟩
              have clash : ∀ p : Sp, p ∈ s.l → p.th = e.th → p.ix = e.ix → False := by
                intro p hp e3 e4
                obtain ⟨_, _, r3⟩ := k.range p hp
                rw [e3, b] at r3
                omega
              rcases cases_ i p hpi with hi' | ⟨hi', rfl⟩
              · rcases cases_ j p' hpj with hj' | ⟨hj', rfl⟩
                · exact k.uniq i j p p' hi' hj' e1 e2
                · exact (clash p (List.mem_of_getElem? hi') e1 e2).elim
              · rcases cases_ j p' hpj with hj' | ⟨hj', rfl⟩
                · exact (clash p' (List.mem_of_getElem? hj') e1.symm e2.symm).elim
                · omega
        · rw [if_pos h0r, if_pos h0r]
          exact .inl ⟨rfl, rfl⟩
      · rw [if_pos hi, if_pos hi]
        exact .inl ⟨rfl, rfl⟩

theorem rel_run : ∀ (h : List Ev) (n : Nat) {s : St} {r : Rt}, Rel s r → (runL stepV h (n, s) = none ∧ runL stepR h r = none) ∨ ∃ s' r', runL stepV h (n, s) = some (n + h.length, s') ∧ runL stepR h r = some r' ∧ Rel s' r'
  | [], n, s, r, k => .inr ⟨s, r, rfl, rfl, k⟩
  | e :: h, n, s, r, k => by
    simp only [runL]
    rcases step_both (n := n) (e := e) k with ⟨a, b⟩ | ⟨s', r', a, b, k'⟩
    · exact .inl ⟨by rw [a]; rfl, by rw [b]; rfl⟩
    · rw [a, b, Option.bind_some, Option.bind_some]
      rcases rel_run h (n + 1) k' with c | ⟨s2, r2, c, d, k2⟩
      · exact .inl c
      · exact .inr ⟨s2, r2, by rw [c, List.length_cons, show n + 1 + h.length = n + (h.length + 1) by omega], d, k2⟩
end Go.Proofs.YtcjhjphmlfkikaaDoor.Mini

