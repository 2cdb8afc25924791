import Derived.Test.YtifkphfhadimaaaGreatDoorCeA
import Derived.Test.YtifkphfhadimaaaGreatDoorCdG
set_option linter.unusedVariables false
set_option linter.unusedSimpArgs false
set_option maxRecDepth 100000
namespace Go.Proofs.YtifkphfhadimaaaGreatDoor.Mini
open Go.Abs

theorem neT {b : Bool} (h : (b != true) = true) : b = false := by cases b <;> simp_all
theorem neF {b : Bool} (h : (b != true) = false) : b = true := by cases b <;> simp_all
theorem ntT {b : Bool} (h : (!b) = true) : b = false := by cases b <;> simp_all
theorem ntF {b : Bool} (h : (!b) = false) : b = true := by cases b <;> simp_all

def eqL {α : Type} (f : α → α → Bool) (l m : List α) : Bool := (l.length == m.length) && (List.range l.length).all fun i => match l[i]?, m[i]? with
  | some a, some b => f a b
  | _, _ => false
section
variable {α : Type} {f : α → α → Bool} {l m : List α}
theorem eqL_len (h : l.length ≠ m.length) : eqL f l m = false := by
  unfold eqL
  rw [beq_eq_false_iff_ne.2 h]
  rfl
theorem eqL_ne {i : Nat} {a b : α} (ha : l[i]? = some a) (hb : m[i]? = some b) (hf : f a b = false) : eqL f l m = false := by
  cases he : eqL f l m with
  | false => rfl
  | true =>
    unfold eqL at he
    rw [Bool.and_eq_true] at he
    have := List.all_eq_true.1 he.2 i (List.mem_range.2 (List.getElem?_eq_some_iff.1 ha).1)
    simp only [ha, hb] at this
    rw [hf] at this
    cases this
theorem eqL_all (hl : l.length = m.length) (h : ∀ (i : Nat) (a b : α), l[i]? = some a → m[i]? = some b → f a b = true) : eqL f l m = true := by
  unfold eqL
  rw [Bool.and_eq_true]
  refine ⟨by simp [hl], List.all_eq_true.2 fun i hi => ?_⟩
  have hi := List.mem_range.1 hi
  obtain ⟨a, ha⟩ := lt_len rfl hi
  obtain ⟨b, hb⟩ := lt_len hl hi
  simp only [ha, hb]
  exact h i a b ha hb
theorem eqL_refl (hf : ∀ a, f a a = true) : eqL f l l = true := eqL_all rfl fun i a b ha hb => by
  rw [ha] at hb
  cases hb
  exact hf a
end
def eqI (l m : List Int) : Bool := (l.getD 0 0 == m.getD 0 0) && (((l.getD 1 0 == 1) == (m.getD 1 0 == 1)) && ((l.getD 2 0 == m.getD 2 0) && ((l.getD 3 0 == m.getD 3 0) && ((l.getD 4 0 == m.getD 4 0) && ((l.getD 5 0 == m.getD 5 0) && ((l.getD 6 0 == m.getD 6 0) && ((l.getD 7 0 == m.getD 7 0) && ((l.getD 8 0 == m.getD 8 0) && ((l.getD 9 0 == m.getD 9 0) && ((l.getD 10 0 == m.getD 10 0) && true))))))))))
theorem eqI_refl (l : List Int) : eqI l l = true := by simp [eqI]
def eqR (r s : Rout) : Bool := (r.1 == s.1) && eqL eqI r.2 s.2
theorem eqR_refl (r : Rout) : eqR r r = true := by simp [eqR, eqL_refl eqI_refl]
def sameV (p q : ProgT) : Bool := (p.1 == q.1) && ((p.2.1 == q.2.1) && eqL eqR p.2.2 q.2.2)
theorem sameV_refl (p : ProgT) : sameV p p = true := by simp [sameV, eqL_refl eqR_refl]
structure Bnd (p : List Rout) : Prop where
  len : p.length ≤ 140737488355327
  code : ∀ r ∈ p, r.2.length ≤ 140737488355327
theorem ne_of_bne {a b : Nat} (h : (((a : Nat) : Int) != ((b : Nat) : Int)) = true) : a ≠ b := by
  intro e
  subst e
  simp at h
theorem eq_of_bne {a b : Nat} (h : (((a : Nat) : Int) != ((b : Nat) : Int)) = false) : a = b := by
  simp only [bne_eq_false_iff_eq] at h
  omega

abbrev pAV (p : ProgT) (s : Slc) : AV := .agg [.str p.1, .int .i64 p.2.1, s.av]
theorem rsame_ok {p p' : ProgT} {s s' : Slc} {h : Heap} (hs : ProgOn h s p.2.2) (hs' : ProgOn h s' p'.2.2) (hb : Bnd p.2.2) {P : AV → Heap → Prop} (hP : ∀ t, P (.bool (sameV p p')) t) : CallE KD 53 [pAV p s, pAV p' s'] h P := by
  refine d53 (by kernel_rfl) ?_
  unfold D53
  unfold sameV at hP
  obtain ⟨qs, h1, h2, h3⟩ := hs.rows
  obtain ⟨qs', h1', h2', h3'⟩ := hs'.rows
  rw [h1.len, h1'.len, h2, h2']
  refine ⟨fun q1 => ⟨fun q2 => ⟨fun hne => ?_, fun hne => ?_⟩, fun q2 => ?_⟩, fun q1 => ?_⟩
  · rw [eqL_len (ne_of_bne hne), Bool.and_false, Bool.and_false] at hP
    exact hP _
  · have hl := eq_of_bne hne
    have hlen := hb.len
    have q2' : (p.2.1 == p'.2.1) = true := by simpa [bne] using q2
    rw [ntF q1, q2', Bool.true_and, Bool.true_and] at hP
    refine ⟨fun (m : Nat) (x : Int) (t : Heap) => ∃ i : Nat, x = (i : Int) ∧ m + i = p.2.2.length ∧ ∀ j a b, j < i → p.2.2[j]? = some a → p'.2.2[j]? = some b → eqR a b = true, ⟨p.2.2.length, 0, rfl, rfl, fun j a b hj => absurd hj (Nat.not_lt_zero j)⟩, ?_⟩
    rintro m _ t ⟨i, rfl, hm, hall⟩
    refine ⟨fun hc => ?_, fun hc => ?_⟩
    · simp only [decide_eq_true_eq] at hc
      have hi : i < p.2.2.length := by omega
      obtain ⟨a, ha⟩ := lt_len rfl hi
      obtain ⟨b, hb'⟩ := lt_len hl hi
      obtain ⟨q, hq⟩ := lt_len h2.symm hi
      obtain ⟨q', hq'⟩ := lt_len (show p.2.2.length = qs'.length by omega) hi
      obtain ⟨k1, k2⟩ := h3 i q a hq ha
      obtain ⟨k1', k2'⟩ := h3' i q' b hq' hb'
      have no : eqR a b = false → ∀ t, P (.bool false) t := fun e t => by
        have := hP t
        rwa [eqL_ne ha hb' e] at this
      refine ⟨⟨by omega, by omega⟩, _, _, h1.agg hq, ⟨by omega, by omega⟩, _, _, h1'.agg hq', fun c1 => ?_, fun c1 => ?_⟩
      · rw [k2.len, k2'.len]
        rw [k1, k1'] at c1
        refine ⟨fun c2 => no (by unfold eqR; rw [eqL_len (ne_of_bne c2), Bool.and_false]) _, fun c2 => ?_⟩
        have hl2 := eq_of_bne c2
        have hcl := hb.code a (List.mem_of_getElem? ha)
        refine ⟨fun (m2 : Nat) (x : Int) (t : Heap) => ∃ i2 : Nat, x = (i2 : Int) ∧ m2 + i2 = a.2.length ∧ ∀ j x y, j < i2 → a.2[j]? = some x → b.2[j]? = some y → eqI x y = true, ⟨a.2.length, 0, rfl, rfl, fun j a b hj => absurd hj (Nat.not_lt_zero j)⟩, ?_⟩
        rintro m2 _ t2 ⟨i2, rfl, hm2, hall2⟩
        refine ⟨fun hc2 => ?_, fun hc2 => ?_⟩
        · simp only [decide_eq_true_eq] at hc2
          have hi2 : i2 < a.2.length := by omega
          obtain ⟨u, hu⟩ := lt_len rfl hi2
          obtain ⟨v, hv⟩ := lt_len hl2 hi2
          refine ⟨⟨by omega, by omega⟩, _, _, _, _, _, _, _, _, _, _, _, k2.agg hu, ⟨by omega, by omega⟩, _, _, _, _, _, _, _, _, _, _, _, k2'.agg hv, fun hq => ?_, fun hq => ⟨m2 - 1, by omega, i2 + 1, wrap_succ (by omega), by omega, fun j x y hj hx hy => ?_⟩⟩
          · exact no (by unfold eqR; rw [eqL_ne hu hv (neT hq : eqI u v = false), Bool.and_false]) _
          · rcases Nat.lt_or_ge j i2 with h' | h'
            · exact hall2 j x y h' hx hy
            · obtain rfl : j = i2 := by omega
              rw [hu] at hx
              rw [hv] at hy
              cases hx
              cases hy
              exact neF hq
        · simp only [decide_eq_false_iff_not] at hc2
          refine ⟨m - 1, by omega, i + 1, wrap_succ (by omega), by omega, fun j x y hj hx hy => ?_⟩
          rcases Nat.lt_or_ge j i with h' | h'
          · exact hall j x y h' hx hy
          · obtain rfl : j = i := by omega
            rw [ha] at hx
            rw [hb'] at hy
            cases hx
            cases hy
            unfold eqR
            rw [ntF c1, eqL_all hl2 fun j a b ha hb => hall2 j a b (by have := (List.getElem?_eq_some_iff.1 ha).1; omega) ha hb]
            rfl
      · rw [k1, k1'] at c1
        exact no (by unfold eqR; rw [ntT c1, Bool.false_and]) _
    · simp only [decide_eq_false_iff_not] at hc
      rw [eqL_all hl fun j a b ha hb => hall j a b (by have := (List.getElem?_eq_some_iff.1 ha).1; omega) ha hb] at hP
      exact hP _
  · have q2' : (p.2.1 == p'.2.1) = false := by simpa [bne] using q2
    rw [q2', Bool.false_and, Bool.and_false] at hP
    exact hP _
  · rw [ntT q1, Bool.false_and] at hP
    exact hP _

theorem large_ok {p : ProgT} {s : Slc} {h : Heap} (hs : ProgOn h s p.2.2) (hk : SmallP p) {P : AV → Heap → Prop} (hP : ∀ b t, (b = false → p.2.2.length < 800 ∧ ∀ r ∈ p.2.2, r.2.length < 800) → P (.bool b) t) : CallE KD 50 [pAV p s] h P := by
  refine d50 (by kernel_rfl) ?_
  unfold D50
  obtain ⟨qs, h1, h2, h3⟩ := hs.rows
  rw [h1.len, h2]
  have b1 := hk.len
  have b2 := hk.name
  refine ⟨fun (m : Nat) (n : Int) (x : Int) (t : Heap) => ∃ i N : Nat, x = (i : Int) ∧ n = (N : Int) ∧ m + i = p.2.2.length ∧ N ≤ 1125899906842624 ∧ p.2.2.length ≤ N ∧ ∀ j r, j < i → p.2.2[j]? = some r → r.2.length ≤ N, ⟨p.2.2.length, 0, p.2.2.length + p.1.length, rfl, by rw [wrapI (by omega) (by omega)]; omega, rfl, by omega, by omega, fun j r hj => absurd hj (Nat.not_lt_zero j)⟩, ?_⟩
  rintro m _ _ t ⟨i, N, rfl, rfl, hm, hN, hpN, hall⟩
  refine ⟨fun hc => ⟨fun hn => ?_, fun hn => ?_⟩, fun hc => ?_⟩
  · simp only [decide_eq_true_eq] at hc hn
    have hi : i < p.2.2.length := by omega
    obtain ⟨a, ha⟩ := lt_len rfl hi
    obtain ⟨q, hq⟩ := lt_len h2.symm hi
    obtain ⟨k1, k2⟩ := h3 i q a hq ha
    have c1 := hk.code a (List.mem_of_getElem? ha)
    have c2 := hk.names a (List.mem_of_getElem? ha)
    refine ⟨⟨by omega, by omega⟩, q.2, h1.cell hq rfl, ⟨by omega, by omega⟩, q.1, h1.cell0 hq rfl, m - 1, by omega, i + 1, N + a.2.length + a.1.length, wrap_succ (by omega), ?_, by omega, by omega, by omega, fun j r hj hr => ?_⟩
    · rw [k2.len, k1, wrapI (k := (N : Int) + ((a.2.length : Nat) : Int)) (by omega) (by omega), wrapI (by omega) (by omega)]
      omega
    · rcases Nat.lt_or_ge j i with h' | h'
      · have := hall j r h' hr
        omega
      · obtain rfl : j = i := by omega
        rw [ha] at hr
        cases hr
        omega
  · refine hP _ _ fun hb => ?_
    simp only [decide_eq_false_iff_not] at hn hb
    omega
  · refine hP _ _ fun hb => ?_
    simp only [decide_eq_false_iff_not] at hc hb
    refine ⟨by omega, fun r hr => ?_⟩
    obtain ⟨j, hj⟩ := List.mem_iff_getElem?.1 hr
    have := hall j r (by have := (List.getElem?_eq_some_iff.1 hj).1; omega) hj
    omega
end Go.Proofs.YtifkphfhadimaaaGreatDoor.Mini

