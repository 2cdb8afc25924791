import Derived.Test.YtifkphfhadimaaaGreatDoorCeF
import Derived.Test.YtifkphfhadimaaaGreatDoorAbsG12
set_option linter.unusedVariables false
set_option linter.unusedSimpArgs false
namespace Go.Proofs.YtifkphfhadimaaaGreatDoor.Mini
open Go.Abs

theorem lt_ext : ∀ {l1 l2 : List Int}, l1.Pairwise (· < ·) → l2.Pairwise (· < ·) → (∀ x, x ∈ l1 ↔ x ∈ l2) → l1 = l2
  | [], [], _, _, _ => rfl
  | [], b :: _, _, _, h => absurd ((h b).2 (by simp)) (by simp)
  | a :: _, [], _, _, h => absurd ((h a).1 (by simp)) (by simp)
  | a :: l1, b :: l2, h1, h2, h => by
    rw [List.pairwise_cons] at h1 h2
    have e : a = b := by
      rcases List.mem_cons.1 ((h a).1 (by simp)) with ha | ha
      · exact ha
      · rcases List.mem_cons.1 ((h b).2 (by simp)) with hb | hb
        · exact hb.symm
        · have := h1.1 b hb
          have := h2.1 a ha
          omega
    subst e
    rw [lt_ext h1.2 h2.2 fun x => ⟨fun hx => ?_, fun hx => ?_⟩]
    · rcases List.mem_cons.1 ((h x).1 (List.mem_cons_of_mem _ hx)) with r | r
      · have := h1.1 x hx
        omega
      · exact r
    · rcases List.mem_cons.1 ((h x).2 (List.mem_cons_of_mem _ hx)) with r | r
      · have := h2.1 x hx
        omega
      · exact r

theorem arr_get {zs : List Int} {j : Nat} (hj : j < zs.length) : zs.toArray[j]! = zs[j] := by
  rw [getElem!_pos _ _ (by simpa using hj), List.getElem_toArray]
theorem compact_spec {zs : List Int} (hs : zs.Pairwise (· ≤ ·)) : (Lib.compact zs).Pairwise (· < ·) ∧ ∀ x, x ∈ Lib.compact zs ↔ x ∈ zs := by
  have mono : ∀ i j, i ≤ j → j < zs.length → zs.toArray[i]! ≤ zs.toArray[j]! := fun i j h hj => by
    rw [arr_get (by omega), arr_get hj]
    rcases Nat.lt_or_ge i j with h' | h'
    · exact List.pairwise_iff_getElem.1 hs i j _ _ h'
    · have : i = j := by omega
      subst this
      exact Int.le_refl _
  refine ⟨?_, fun x => ⟨fun hx => ?_, fun hx => ?_⟩⟩
  · unfold Lib.compact Lib.compactUpTo
    rw [List.pairwise_map]
    refine List.Pairwise.imp_of_mem (fun {a b} ha hb hlt => ?_) (List.Pairwise.filter _ List.pairwise_lt_range)
    have hb := List.mem_filter.1 hb
    have hbl : b < zs.length := by simpa using hb.1
    have hk := hb.2
    simp only [Lib.keeps, decide_eq_true_eq] at hk
    have hne : zs.toArray[b]! ≠ zs.toArray[b - 1]! := by
      rcases hk with hk | hk
      · omega
      · exact hk
    have m1 := mono a (b - 1) (by omega) (by omega)
    have m2 := mono (b - 1) b (by omega) hbl
    omega
  · unfold Lib.compact Lib.compactUpTo at hx
    obtain ⟨j, hj, rfl⟩ := List.mem_map.1 hx
    have hjl : j < zs.length := by simpa using (List.mem_filter.1 hj).1
    rw [arr_get hjl]
    exact List.getElem_mem hjl
  · obtain ⟨j, hj, rfl⟩ := List.getElem_of_mem hx
    clear hx
    induction j using Nat.strongRecOn with
    | ind j ih =>
      by_cases hk : Lib.keeps zs.toArray j = true
      · exact List.mem_map.2 ⟨j, List.mem_filter.2 ⟨by simpa using hj, hk⟩, arr_get hj⟩
      · simp only [Lib.keeps, decide_eq_true_eq, not_or, Decidable.not_not] at hk
        have e := hk.2
        rw [arr_get hj, arr_get (by omega)] at e
        rw [e]
        exact ih (j - 1) (by omega) (by omega)
theorem sortZ_pair (zs : List Int) : (sortZ zs).Pairwise (· ≤ ·) := by
  have := List.pairwise_mergeSort (le := fun x y : Int => decide (x ≤ y)) (fun a b c h1 h2 => by simp at *; omega) (fun a b => by simp; omega) zs
  exact this.imp fun h => by simpa using h
theorem mem_sortZ {zs : List Int} {x : Int} : x ∈ sortZ zs ↔ x ∈ zs := by simp [sortZ]

def jumpI (l : List Int) : Bool := decide (l.getD 0 0 ≥ 7) && decide (l.getD 0 0 ≤ 11)
def targV (c : List (List Int)) : List Int := (c.filter jumpI).map fun l => l.getD 10 0
def hitR (c : List (List Int)) (a : Int) : Bool := c.any fun l => hasV (l.getD 0 0) 76 && l.getD 10 0 == a
def targR (c : List (List Int)) (n : Nat) : List Int := ((List.range n).filter fun a : Nat => hitR c (a : Int)).map fun a : Nat => (a : Int)
theorem targR_succ (c : List (List Int)) (n : Nat) : targR c (n + 1) = targR c n ++ (if hitR c (n : Int) then [(n : Int)] else []) := by
  unfold targR
  rw [List.range_succ, List.filter_append, List.map_append]
  congr 1
  by_cases h : hitR c (n : Int) = true
  · simp [h]
  · simp [h]
theorem jump_has {l : List Int} {n : Nat} (h : validL l n = true) : hasV (l.getD 0 0) 76 = jumpI l := by
  have h0 : 0 ≤ l.getD 0 0 ∧ l.getD 0 0 < 26 := by
    unfold validL validV inOp at h
    simp only [Bool.and_eq_true, decide_eq_true_eq] at h
    omega
  obtain ⟨k, hk⟩ : ∃ k : Nat, l.getD 0 0 = (k : Int) := ⟨(l.getD 0 0).toNat, by omega⟩
  have hk26 : k < 26 := by omega
  have all : ∀ k < 26, hasV ((k : Nat) : Int) 76 = (decide (((k : Nat) : Int) ≥ 7) && decide (((k : Nat) : Int) ≤ 11)) := by decide
  unfold jumpI
  rw [hk]
  exact all k hk26
theorem targ_same {c : List (List Int)} (hv : ∀ l ∈ c, validL l c.length = true) (hg : GoodC c) : Lib.compact (sortZ (targV c)) = targR c c.length := by
  obtain ⟨h1, h2⟩ := compact_spec (sortZ_pair (targV c))
  refine lt_ext h1 ?_ fun x => ?_
  · unfold targR
    rw [List.pairwise_map]
    exact (List.Pairwise.filter _ List.pairwise_lt_range).imp fun h => by omega
  · rw [h2, mem_sortZ]
    unfold targV targR hitR
    constructor
    · intro hx
      obtain ⟨l, hl, rfl⟩ := List.mem_map.1 hx
      obtain ⟨hm, hj⟩ := List.mem_filter.1 hl
      obtain ⟨i, hi, hil⟩ := List.getElem_of_mem hm
      have hj' := hj
      simp only [jumpI, Bool.and_eq_true, decide_eq_true_eq] at hj'
      have ht := hg.jump i l (by rw [List.getElem?_eq_getElem hi, hil]) (by omega) (by omega)
      refine List.mem_map.2 ⟨(l.getD 10 0).toNat, List.mem_filter.2 ⟨by rw [List.mem_range]; omega, List.any_eq_true.2 ⟨l, hm, ?_⟩⟩, by omega⟩
      rw [jump_has (hv l hm), hj, Int.toNat_of_nonneg ht.1]
      simp
    · intro hx
      obtain ⟨a, ha, rfl⟩ := List.mem_map.1 hx
      obtain ⟨l, hm, hl⟩ := List.any_eq_true.1 (List.mem_filter.1 ha).2
      rw [jump_has (hv l hm), Bool.and_eq_true, beq_iff_eq] at hl
      exact List.mem_map.2 ⟨l, List.mem_filter.2 ⟨hm, hl.1⟩, hl.2⟩
theorem targV_len (c : List (List Int)) : (targV c).length ≤ c.length := by
  unfold targV
  rw [List.length_map]
  exact List.length_filter_le _ _
theorem targV_succ {c : List (List Int)} {i : Nat} {l : List Int} (h : c[i]? = some l) : targV (c.take (i + 1)) = targV (c.take i) ++ (if jumpI l then [l.getD 10 0] else []) := by
  unfold targV
  rw [List.take_add_one, h, List.filter_append, List.map_append]
  congr 1
  by_cases hj : jumpI l = true
  · simp [hj]
  · simp [hj]

inductive Rch (c : List (List Int)) : Nat → Prop
  | start : Rch c 0
  | jump {i : Nat} {l : List Int} : Rch c i → c[i]? = some l → 7 ≤ l.getD 0 0 → l.getD 0 0 ≤ 11 → Rch c (l.getD 10 0).toNat
  | next {i : Nat} {l : List Int} : Rch c i → c[i]? = some l → l.getD 0 0 ≠ 10 → l.getD 0 0 ≠ 12 → l.getD 0 0 ≠ 25 → Rch c (i + 1)
def Only (c : List (List Int)) (B : List Bool) : Prop := ∀ x : Nat, B[x]? = some true → Rch c x
theorem Closed.all {c : List (List Int)} {B : List Bool} (k : Closed c B []) {x : Nat} (hx : Rch c x) : B[x]? = some true := by
  induction hx with
  | start => simpa using k.start
  | jump h1 h2 h3 h4 ih => simpa using k.jump _ _ ih h2 h3 h4
  | next h1 h2 h3 h4 h5 ih => simpa using k.next _ _ ih h2 h3 h4 h5
theorem reach_same {c : List (List Int)} {B C : List Bool} (h1 : Closed c B []) (h2 : Only c B) (h3 : Closed c C []) (h4 : Only c C) : B = C := by
  apply List.ext_getElem (by rw [h1.len, h3.len])
  intro i hi hj
  have a : B[i]? = some true ↔ C[i]? = some true := ⟨fun h => h3.all (h2 i h), fun h => h1.all (h4 i h)⟩
  rw [List.getElem?_eq_getElem hi, List.getElem?_eq_getElem hj] at a
  simp only [Option.some.injEq] at a
  exact Bool.eq_iff_iff.2 a
theorem Only.set {c : List (List Int)} {B : List Bool} {a : Nat} (h : Only c B) (ha : Rch c a) : Only c (B.set a true) := by
  intro x hx
  by_cases e : a = x
  · subst e; exact ha
  · rw [List.getElem?_set_ne e] at hx
    exact h x hx

def DoneAt (c : List (List Int)) (B : List Bool) (i : Nat) : Prop := ∀ l, B[i]? = some true → c[i]? = some l → (7 ≤ l.getD 0 0 → l.getD 0 0 ≤ 11 → B[(l.getD 10 0).toNat]? = some true) ∧ (l.getD 0 0 ≠ 10 → l.getD 0 0 ≠ 12 → l.getD 0 0 ≠ 25 → B[i + 1]? = some true)
theorem set_same {B : List Bool} {a : Nat} (h : B[a]? = some true) : B.set a true = B := by
  apply List.ext_getElem?
  intro i
  by_cases e : a = i
  · subst e
    rw [List.getElem?_set_self (List.getElem?_eq_some_iff.1 h).1, h]
  · rw [List.getElem?_set_ne e]
def Rnd (c : List (List Int)) (B0 : List Bool) (i : Nat) (B : List Bool) : Prop := B.length = c.length ∧ Only c B ∧ (∀ x : Nat, B0[x]? = some true → B[x]? = some true) ∧ (B.count false < B0.count false ∨ (B = B0 ∧ ∀ j < i, DoneAt c B j))
theorem Rnd.skip {c : List (List Int)} {B0 B : List Bool} {i : Nat} (k : Rnd c B0 i B) (h : DoneAt c B i) : Rnd c B0 (i + 1) B := by
  obtain ⟨h1, h2, h3, h4⟩ := k
  refine ⟨h1, h2, h3, h4.imp id fun ⟨e, hj⟩ => ⟨e, fun j hlt => ?_⟩⟩
  rcases Nat.lt_or_ge j i with h' | h'
  · exact hj j h'
  · have : j = i := by omega
    subst this
    exact h
theorem Rnd.set {c : List (List Int)} {B0 B : List Bool} {i a : Nat} (k : Rnd c B0 i B) (ha : Rch c a) (hl : a < c.length) : Rnd c B0 i (B.set a true) ∧ (B.set a true)[a]? = some true ∧ ∀ x : Nat, B[x]? = some true → (B.set a true)[x]? = some true := by
  obtain ⟨h1, h2, h3, h4⟩ := k
  refine ⟨⟨by rw [List.length_set]; exact h1, h2.set ha, fun x hx => set_true (h3 x hx), ?_⟩, List.getElem?_set_self (by omega), fun x hx => set_true hx⟩
  obtain ⟨b, hb⟩ := lt_len (show B.length = B.length from rfl) (show a < B.length by omega)
  cases b with
  | true => rw [set_same hb]; exact h4
  | false =>
    have hc : (B.set a true).count false + 1 = B.count false := count_set_lt B a (by simp [List.getD_eq_getElem?_getD, hb])
    rcases h4 with h4 | ⟨rfl, _⟩
    · exact .inl (by omega)
    · exact .inl (by omega)
theorem rnd_end {c : List (List Int)} {B0 B : List Bool} {r : Nat} (k : Rnd c B0 c.length B) (h0 : B0[0]? = some true) (hr : Closed c B0 [] ∨ B0.count false + r + 1 ≤ c.length) : Closed c B [] ∨ B.count false + (r + 1) + 1 ≤ c.length := by
  obtain ⟨h1, h2, h3, h4⟩ := k
  have closed : B = B0 → (∀ j < c.length, DoneAt c B j) → Closed c B [] := fun e hd =>
    ⟨h1, .inl (e ▸ h0), fun i l hb hl e1 e2 => .inl ((hd i (by have := (List.getElem?_eq_some_iff.1 hb).1; omega) l hb hl).1 e1 e2), fun i l hb hl e1 e2 e3 => .inl ((hd i (by have := (List.getElem?_eq_some_iff.1 hb).1; omega) l hb hl).2 e1 e2 e3)⟩
  rcases h4 with h4 | ⟨e, hd⟩
  · rcases hr with hr | hr
    · exfalso
      have : B = B0 := by
        apply List.ext_getElem (by rw [h1, hr.len])
        intro i hi hj
        have a : B[i]? = some true ↔ B0[i]? = some true := ⟨fun h => hr.all (h2 i h), fun h => h3 i h⟩
        rw [List.getElem?_eq_getElem hi, List.getElem?_eq_getElem hj] at a
        simp only [Option.some.injEq] at a
        exact Bool.eq_iff_iff.2 a
      rw [this] at h4
      omega
    · exact .inr (by omega)
  · exact .inl (closed e hd)
end Go.Proofs.YtifkphfhadimaaaGreatDoor.Mini

