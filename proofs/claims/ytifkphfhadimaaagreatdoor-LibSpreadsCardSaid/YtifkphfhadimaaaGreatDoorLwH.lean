/- Layer 16: the program's Spread: split, and the argument of a number. -/
import Derived.Test.YtifkphfhadimaaaGreatDoorLwG
import Derived.Test.YtifkphfhadimaaaGreatDoorDecW
set_option linter.unusedVariables false
set_option linter.unusedSimpArgs false
set_option maxRecDepth 100000
namespace Go.Proofs.YtifkphfhadimaaaGreatDoor.Mini
open Go.Abs

noncomputable def newD : List (Nat × MFunc) := [(12, F12), (14, F14), (46, F46), (47, F47), (48, F48), (99, F99), (100, F100), (102, F102), (103, F103)]
noncomputable def tblD : List (Nat × MFunc) := tblC ++ newD
theorem tblD_ok : ∀ p ∈ tblD, (modelOf Tryz.prog noPrim).fn p.1 = some p.2 := by
  intro p hp
  rcases List.mem_append.1 hp with hp | hp
  · exact tblC_ok p hp
  · have : ∀ p ∈ newD, (modelOf Tryz.prog noPrim).fn p.1 = some p.2 := by
      simp only [newD, List.mem_cons, List.not_mem_nil, or_false, forall_eq_or_imp, forall_eq]
      exact ⟨fn12, fn14, fn46, fn47, fn48, fn99, fn100, fn102, fn103⟩
    exact this p hp
noncomputable def K6 : Model := ⟨fnOf tblD, primV prims4⟩
theorem fits6 {base : Nat} {w0 : World} {out : Prop} : Fits Tryz.prog base w0 out K6 := fits_ways mixed tblD tblD_ok _ ways4
theorem le56 : Model.le K5 K6 := show Model.le ⟨fnOf tblC, primV prims4⟩ ⟨fnOf (tblC ++ newD), primV prims4⟩ from le_app

def is64 (k : Int) : Prop := -9223372036854775808 ≤ k ∧ k ≤ 9223372036854775807
theorem wrap64 {k : Int} (h : is64 k) : IntKind.wrap .i64 k = k := by
  have e3 : (2 : Int) ^ 64 = 18446744073709551616 := by decide
  have e4 : (2 : Int) ^ (64 - 1) = 9223372036854775808 := by decide
  obtain ⟨h1, h2⟩ := h
  simp only [IntKind.wrap, IntKind.signed, IntKind.bits, Bool.true_and, decide_eq_true_eq, e3, e4]
  split <;> omega
theorem div_is64 {k b : Int} (hk : is64 k) (hb : 0 < b) : is64 (k / b) := by
  obtain ⟨h1, h2⟩ := hk
  refine ⟨?_, ?_⟩
  · by_cases h : 0 ≤ k
    · have := Int.ediv_nonneg h (Int.le_of_lt hb)
      omega
    · have h3 : k ≤ k / b := by
        have e := Int.mul_ediv_add_emod k b
        have h4 := Int.emod_lt_of_pos k hb
        have h5 : k / b < 0 := Int.ediv_neg_of_neg_of_pos (by omega) hb
        have h6 := Int.emod_nonneg k (by omega : b ≠ 0)
        have h7 : b * (k / b) ≤ 1 * (k / b) := Int.mul_le_mul_of_nonpos_right (by omega) (by omega)
        by_cases hh : k % b ≤ b * (1 : Int) - 1
        · have h8 : (b - 1) * (k / b + 1) ≤ 0 := Int.mul_nonpos_of_nonneg_of_nonpos (by omega) (by omega)
          have h9 : (b - 1) * (k / b + 1) = b * (k / b) - k / b + (b - 1) := by
            rw [Int.mul_add, Int.sub_mul]
            omega
          omega
        · omega
      omega
  · by_cases h : 0 ≤ k
    · have := Int.ediv_le_self b h
      omega
    · have := Int.ediv_neg_of_neg_of_pos (show k < 0 by omega) hb
      omega

theorem split_ok {k b : Int} (hk : is64 k) (hb : 0 < b) (hb2 : b ≤ 1000) {h : Heap} {P : AV → Heap → Prop} (hP : ∀ t, P (.tuple [.int .i64 (k / b), .int .i64 (k % b)]) t) : CallE K6 99 [.int .i64 k, .int .i64 b] h P := by
  refine d99 (by kernel_rfl) ?_
  unfold D99
  have e := Int.tmod_add_mul_tdiv k b
  have m1 := Int.tmod_lt_of_pos k hb
  have m2 := Int.lt_tmod_of_pos k hb
  have hd := div_is64 hk hb
  refine ⟨by omega, by omega, fun q m t => q = k / b ∧ m = k % b, ⟨fun hc => ?_, fun hc => ?_⟩, fun q m t hqm => by obtain ⟨rfl, rfl⟩ := hqm; exact hP _⟩
  · simp only [decide_eq_true_eq] at hc
    obtain ⟨u1, u2⟩ := (Int.ediv_emod_unique (a := k) (r := Int.tmod k b + b) (q := Int.tdiv k b - 1) hb).2 ⟨by rw [Int.mul_sub]; omega, by omega, by omega⟩
    have ht : is64 (Int.tdiv k b) := by
      have : Int.tdiv k b = k / b + 1 := by omega
      obtain ⟨w1, w2⟩ := hd
      refine ⟨by omega, ?_⟩
      by_cases h0 : 0 ≤ k
      · have := Int.tmod_nonneg b h0
        omega
      · have := Int.ediv_neg_of_neg_of_pos (show k < 0 by omega) hb
        omega
    rw [wrap64 ht, wrap64 (k := Int.tdiv k b - 1) (by rw [← u1]; exact hd), wrap64 (k := Int.tmod k b + b) ⟨by omega, by omega⟩, u1, u2]
    exact ⟨rfl, rfl⟩
  · simp only [decide_eq_false_iff_not] at hc
    obtain ⟨u1, u2⟩ := (Int.ediv_emod_unique (a := k) (r := Int.tmod k b) (q := Int.tdiv k b) hb).2 ⟨by omega, by omega, by omega⟩
    rw [wrap64 (k := Int.tdiv k b) (by rw [← u1]; exact hd), u1, u2]
    exact ⟨rfl, rfl⟩

def argV (lo hi x b : Int) : Int := if hi < lo + (x / b) % 4 then hi else lo + (x / b) % 4
theorem arg_ok {lo hi x b : Int} {a1 a2 : Nat} {h : Heap} (hx : is64 x) (hb : 0 < b) (hb2 : b ≤ 1000) (hlo : -1000 ≤ lo) (hlo2 : lo ≤ 1000) (h1 : rdVar h none a1 0 = some (.int .i64 x)) (h4 : rdVar h none a2 (0 + 4) = some (.int .i64 lo)) (h5 : rdVar h none a2 (0 + 5) = some (.int .i64 hi)) {P : AV → Heap → Prop} (hP : ∀ t, P (.int .i64 (argV lo hi x b)) t) : CallE K6 100 [.int .i64 b, .ptr a1 0, .ptr a2 0] h P := by
  refine d100 (by kernel_rfl) ?_
  unfold D100
  refine ⟨x, h1, split_ok hx hb hb2 fun t1 => ⟨_, _, rfl, split_ok (div_is64 hx hb) (by decide) (by decide) fun t2 => ⟨_, _, rfl, lo, h4, hi, h5, ?_⟩⟩⟩
  have m1 := Int.emod_nonneg (x / b) (show (4 : Int) ≠ 0 by decide)
  have m2 := Int.emod_lt_of_pos (x / b) (show (0 : Int) < 4 by decide)
  rw [wrap64 (k := lo + x / b % 4) ⟨by omega, by omega⟩]
  exact hP _

/-! ### What Spread makes -/
def whichV (k : Nat) (x : Int) : Nat := ((x / 3) % ((lrow k).calls.length : Int)).toNat
def opV (k i : Nat) : List UInt8 := ((lrow k).calls.getD i ([], 0, 0)).1
def callV (k : Nat) (x : Int) : Form := (opV k (whichV k x), if takesOf k (whichV k x) > 0 then argV (lrow k).lo (lrow k).hi x 60 else 0, if takesOf k (whichV k x) > 1 then argV (lrow k).lo (lrow k).hi x 240 else 0)
structure SprS where
  n : Nat
  rows : List (List Form)
def sprStep (k : Nat) (s : SprS) (x : Int) : SprS :=
  if byV (nm k) (x % 3) (callV k x).1 && decide (s.n < 12) then ⟨s.n + 1, s.rows.set (x % 3).toNat (s.rows.getD (x % 3).toNat [] ++ [callV k x])⟩ else s
def sprV (k : Nat) (ns : List Int) : SprS := ns.foldl (sprStep k) ⟨0, [[], [], []]⟩
/-- Three rows that are appended to, none of which is another. -/
structure Three (base : Nat) (t : Heap) (qs : List Slc) (rows : List (List Form)) : Prop where
  len : qs.length = 3 ∧ rows.length = 3
  ow : ∀ (j : Nat) (q : Slc) (l : List Form), qs[j]? = some q → rows[j]? = some l → Ow base t q 3 (l.flatMap encF)
  apart : ∀ (i j : Nat) (q r : Slc), i ≠ j → qs[i]? = some q → qs[j]? = some r → q.nil = true ∨ r.nil = true ∨ q.b ≠ r.b
theorem Three.start {base : Nat} : Three base [] [nilS, nilS, nilS] [[], [], []] := by
  refine ⟨⟨rfl, rfl⟩, fun j q l hq hl => ?_, fun i j q r hij hq hr => .inl ?_⟩
  · have hj : j < 3 := (List.getElem?_eq_some_iff.1 hq).1
    rcases (by omega : j = 0 ∨ j = 1 ∨ j = 2) with rfl | rfl | rfl <;> · simp at hq hl; subst hq hl; exact Ow.none
  · have hj : i < 3 := (List.getElem?_eq_some_iff.1 hq).1
    rcases (by omega : i = 0 ∨ i = 1 ∨ i = 2) with rfl | rfl | rfl <;> · simp at hq; subst hq; rfl
/-- More behind: nothing is lost. -/
theorem ow_more {base : Nat} {t u : Heap} {s : Slc} {es : Nat} {c : List AV} (k : Ow base t s es c) : Ow base (t ++ u) s es c := by
  rcases k with h | ⟨h1, h2, h3, j, h4, h5⟩
  · exact .inl h
  · exact .inr ⟨h1, h2, h3, j, h4, by rw [List.getElem?_append_left (List.getElem?_eq_some_iff.1 h5).1]; exact h5⟩
theorem Three.more {base : Nat} {t u : Heap} {qs : List Slc} {rows : List (List Form)} (k : Three base t qs rows) : Three base (t ++ u) qs rows := ⟨k.len, fun j q l hq hl => ow_more (k.ow j q l hq hl), k.apart⟩
theorem Three.push {base : Nat} {t : Heap} {qs : List Slc} {rows : List (List Form)} (k : Three base t qs rows) {j : Nat} {q : Slc} {l : List Form} (hq : qs[j]? = some q) (hl : rows[j]? = some l) (c : Form) :
    ∃ g : Heap, ((q.nil = true ∧ l.flatMap encF = [] ∧ g = t) ∨ (q.nil = false ∧ ∃ (k0 : Nat) (c0 : List AV), q.b = base + k0 ∧ t[k0]? = some (.arr c0 3 false) ∧ q.o + q.n * 3 ≤ c0.length ∧ l.flatMap encF = (c0.drop q.o).take (q.n * 3) ∧ g = t.set k0 .dead)) ∧
      ∀ mid : Heap, Three base (g ++ (mid ++ [AObj.arr (l.flatMap encF ++ encF c) 3 false])) (qs.set j ⟨base + (g.length + mid.length), 0, q.len + 1, false⟩) (rows.set j (l ++ [c])) := by
  have how := k.ow j q l hq hl
  obtain ⟨g, hg, hgl, hkeep⟩ := how.take
  refine ⟨g, hg, fun mid => ?_⟩
  have hj := (List.getElem?_eq_some_iff.1 hq).1
  have hj2 := (List.getElem?_eq_some_iff.1 hl).1
  have old : ∀ (i : Nat) (r : Slc), i ≠ j → (qs.set j ⟨base + (g.length + mid.length), 0, q.len + 1, false⟩)[i]? = some r → qs[i]? = some r := by
    intro i r hij hr
    rwa [List.getElem?_set_ne (by omega)] at hr
  have low : ∀ (i : Nat) (r : Slc), qs[i]? = some r → r.nil = true ∨ r.b < base + g.length := by
    intro i r hr
    obtain ⟨l', hl'⟩ := lt_len (k.len.1.trans k.len.2.symm) (List.getElem?_eq_some_iff.1 hr).1
    rcases k.ow i r l' hr hl' with h | ⟨h1, h2, h3, k1, h4, h5⟩
    · exact .inl h.1
    · have := (List.getElem?_eq_some_iff.1 h5).1
      exact .inr (by omega)
  refine ⟨⟨by simp [k.len.1], by simp [k.len.2]⟩, fun i r m hr hm => ?_, fun i i' r r' hii hr hr' => ?_⟩
  · by_cases hij : i = j
    · subst hij
      rw [List.getElem?_set_self hj] at hr
      rw [List.getElem?_set_self hj2] at hm
      cases hr
      cases hm
      rw [List.flatMap_append]
      refine Ow.mk (g.length + mid.length) rfl ?_ ?_
      · rw [List.getElem?_append_right (by omega), Nat.add_sub_cancel_left, List.getElem?_append_right (by omega), Nat.sub_self]
        simp
      · rw [Nat.add_mul, how.len, List.length_append]
        simp [encF]
    · have hr0 := old i r hij hr
      rw [List.getElem?_set_ne (by omega)] at hm
      rcases k.ow i r m hr0 hm with h | ⟨h1, h2, h3, k1, h4, h5⟩
      · exact .inl h
      · refine .inr ⟨h1, h2, h3, k1, h4, ?_⟩
        have := hkeep k1 _ (by
          rcases k.apart i j r q hij hr0 hq with a | a | a
          · rw [a] at h1; cases h1
          · exact .inl a
          · exact .inr (by omega)) h5
        rw [List.getElem?_append_left (List.getElem?_eq_some_iff.1 this).1]
        exact this
  · by_cases hij : i = j
    · subst hij
      rw [List.getElem?_set_self hj] at hr
      cases hr
      rcases low i' r' (old i' r' (by omega) hr') with a | a
      · exact .inr (.inl a)
      · exact .inr (.inr (by simp only; omega))
    · by_cases hij' : i' = j
      · subst hij'
        rw [List.getElem?_set_self hj] at hr'
        cases hr'
        rcases low i r (old i r hij hr) with a | a
        · exact .inl a
        · exact .inr (.inr (by simp only; omega))
      · exact k.apart i i' r r' hii (old i r hij hr) (old i' r' hij' hr')
end Go.Proofs.YtifkphfhadimaaaGreatDoor.Mini

