/- Layer 16: which scripts fit, by the reference; the law LibFits. -/
import Derived.Test.YtifkphfhadimaaaGreatDoorLwD
import Derived.Test.YtifkphfhadimaaaGreatDoorDecV
set_option linter.unusedVariables false
set_option linter.unusedSimpArgs false
set_option maxRecDepth 100000
namespace Go.Proofs.YtifkphfhadimaaaGreatDoor.Mini
open Go.Abs

def oneB (a th lo hi thread x y : Int) : Bool :=
  ((decide (a < 1) && x == 0) || (decide (a > 0) && (decide (x ≥ lo) && decide (x ≤ hi)))) && (((decide (a < 2) && y == 0) || (decide (a > 1) && (decide (y ≥ lo) && decide (y ≤ hi)))) && (decide (thread ≥ 0) && decide (thread < th)))
def thrOf (k i : Nat) : Int := ((lrow k).calls.getD i ([], 0, 0)).2.2
def oneV (k : Nat) (thread : Int) (c : Form) : Bool := match at16 c.1 (lrow k).calls with
  | none => false
  | some i => oneB (takesOf k i) (thrOf k i) (lrow k).lo (lrow k).hi thread c.2.1 c.2.2

theorem one_ok {k : Nat} (hk : k < 21) {c : Slc} {f : Form} {thread : Int} {h : Heap} (hs : Sl h c 3 encF (lrow k).calls) {P : AV → Heap → Prop} (hP : ∀ t, P (.bool (oneV k thread f)) t) : CallE K5 98 [rowR16 k c, .agg (encF f), .int .i64 thread] h P := by
  refine d98 (by kernel_rfl) ?_
  unfold D98
  have hfew := few hk
  refine ⟨fun n x t => ∃ i : Nat, x = i ∧ n + i = (lrow k).calls.length ∧ ∀ j y, j < i → (lrow k).calls[j]? = some y → (y.1 == f.1) = false, ⟨_, 0, rfl, rfl, fun j c h => absurd h (Nat.not_lt_zero j)⟩, ?_⟩
  rintro n x t ⟨i, rfl, hi, hno⟩
  rw [hs.len]
  refine ⟨fun hc => ?_, fun hc => put_b ?_ (hP _)⟩
  · simp only [decide_eq_true_eq] at hc
    have hi' : i < (lrow k).calls.length := by omega
    obtain ⟨y, hy⟩ := lt_len rfl hi'
    refine ⟨by omega, y.1, y.2.1, y.2.2, by simpa [encF] using hs.agg hy, fun hb => ⟨n - 1, by omega, i + 1, wrap_succ (by omega), by omega, fun j z hj hz => ?_⟩, fun hb => ?_⟩
    · rcases Nat.lt_or_ge j i with h1 | h1
      · exact hno j z h1 hz
      · have : j = i := by omega
        subst this
        rw [hy] at hz
        cases hz
        simpa using hb
    · have hat : at16 f.1 (lrow k).calls = some i := by
        unfold at16
        rw [List.findIdx?_eq_some_iff_getElem]
        refine ⟨hi', ?_, fun j hj => ?_⟩
        · have := (List.getElem?_eq_some_iff.1 hy).2
          rw [this]
          simpa using hb
        · have := hno j (lrow k).calls[j] hj (List.getElem?_eq_getElem (by omega))
          simp [this]
      have e1 : takesOf k i = y.2.1 := by unfold takesOf; rw [List.getD_eq_getElem?_getD, hy]; rfl
      have e2 : thrOf k i = y.2.2 := by unfold thrOf; rw [List.getD_eq_getElem?_getD, hy]; rfl
      have hP' : ∀ t, P (.bool (oneB y.2.1 y.2.2 (lrow k).lo (lrow k).hi thread f.2.1 f.2.2)) t := fun t => by
        have := hP t
        unfold oneV at this
        rw [hat] at this
        simp only [e1, e2] at this
        exact this
      clear hP hat hno hb
      generalize y.2.1 = a at hP'
      generalize y.2.2 = b at hP'
      generalize (lrow k).lo = lo at hP'
      generalize (lrow k).hi = hi at hP'
      generalize f.2.1 = fx at hP'
      generalize f.2.2 = fy at hP'
      repeat' (first | refine ⟨?_, ?_⟩ | intro _)
      all_goals
        refine put_b ?_ (hP' _)
        simp only [oneB, Bool.true_and, Bool.and_true, Bool.false_and, Bool.and_false, Bool.or_true, Bool.true_or, Bool.or_false, Bool.false_or, *]
  · simp only [decide_eq_false_iff_not] at hc
    have : at16 f.1 (lrow k).calls = none := by
      unfold at16
      rw [List.findIdx?_eq_none_iff]
      intro z hm
      obtain ⟨j, hj⟩ := List.mem_iff_getElem?.1 hm
      exact hno j z (by have := (List.getElem?_eq_some_iff.1 hj).1; omega) hj
    unfold oneV
    rw [this]

def refRows (k : Nat) (ls : List (List Form)) : Bool := (List.range ls.length).all fun t => decide ((ls.getD t []).length ≤ 12) && (ls.getD t []).all (oneV k t)
def refFitsV (k : Nat) (ls : List (List Form)) : Bool := decide (1 ≤ ls.length) && (decide (ls.length ≤ 4) && (refRows k ls && decide (total ls ≤ 12)))

theorem refFits_ok {k : Nat} (hk : k < 21) {c s : Slc} {ls : List (List Form)} {h : Heap} (hs : Sl h c 3 encF (lrow k).calls) (hsc : Script h s ls) (hsm : Small ls) {P : AV → Heap → Prop} (hP : ∀ t, P (.bool (refFitsV k ls)) t) : CallE K5 40 [rowR16 k c, s.av] h P := by
  refine d40 (by kernel_rfl) ?_
  unfold D40
  obtain ⟨qs, hq1, hq2, hq3⟩ := hsc.rows
  have hlen : s.len = ls.length := by rw [hq1.len, hq2]
  rw [hlen]
  refine ⟨fun h1 => ⟨fun h4 => put_b ?_ (hP _), fun h4 => ?_⟩, fun h1 => put_b ?_ (hP _)⟩
  · simp only [decide_eq_true_eq] at h4
    unfold refFitsV
    rw [decide_eq_false (show ¬ ls.length ≤ 4 by omega)]
    simp
  · simp only [decide_eq_false_iff_not] at h1 h4
    have hl1 : 1 ≤ ls.length := by omega
    have hl4 : ls.length ≤ 4 := by omega
    have bad : ∀ {i : Nat} {l : List Form}, ls[i]? = some l → (decide (l.length ≤ 12) && l.all (oneV k i)) = false → refFitsV k ls = false := by
      intro i l hl hb
      have : refRows k ls = false := by
        unfold refRows
        rw [List.all_eq_false]
        refine ⟨i, List.mem_range.2 (List.getElem?_eq_some_iff.1 hl).1, ?_⟩
        rw [List.getD_eq_getElem?_getD, hl, Option.getD_some, hb]
        simp
      unfold refFitsV
      rw [this]
      simp
    refine ⟨fun n n2 x t => ∃ i : Nat, x = i ∧ n + i = ls.length ∧ n2 = (total (ls.take i) : Nat) ∧ ∀ (j : Nat) l, j < i → ls[j]? = some l → (decide (l.length ≤ 12) && l.all (oneV k (j : Int))) = true, ⟨ls.length, 0, rfl, rfl, by simp [total], fun j l h => absurd h (Nat.not_lt_zero j)⟩, ?_⟩
    rintro n n2 x t2 ⟨i, rfl, hi, rfl, hno⟩
    refine ⟨fun hc1 => ?_, fun hc1 => put_b ?_ (hP _)⟩
    · simp only [decide_eq_true_eq] at hc1
      have hi' : i < ls.length := by omega
      obtain ⟨q, hq⟩ := lt_len hq2.symm hi'
      obtain ⟨l, hl⟩ := lt_len rfl hi'
      have hsl := hq3 i q l hq hl
      have hlm := List.mem_of_getElem? hl
      have hrd : rdVar h none s.b (s.o + ((i : Int)).toNat * 1) = some q.av := by simpa using hq1.cell0 hq (v := q.av) rfl
      refine ⟨by omega, q, hrd, fun h12 => put_b ?_ (hP _), fun h12 => ⟨by omega, q, hrd, ?_⟩⟩
      · rw [hsl.len] at h12
        simp only [decide_eq_true_eq] at h12
        refine bad hl ?_
        rw [decide_eq_false (show ¬ l.length ≤ 12 by omega)]
        rfl
      · rw [hsl.len] at h12
        simp only [decide_eq_false_iff_not] at h12
        refine ⟨fun n x t => ∃ j : Nat, x = j ∧ n + j = l.length ∧ ∀ p c, p < j → l[p]? = some c → oneV k (i : Int) c = true, ⟨l.length, 0, rfl, rfl, fun p c h => absurd h (Nat.not_lt_zero p)⟩, ?_⟩
        rintro n6 _ t3 ⟨j, rfl, hj, hones⟩
        refine ⟨by omega, q, hrd, ?_⟩
        rw [hsl.len]
        refine ⟨fun hc2 => ?_, fun hc2 => ⟨n - 1, by omega, i + 1, wrap_succ (by omega), by omega, ?_, fun j' l' hj' hl' => ?_⟩⟩
        · simp only [decide_eq_true_eq] at hc2
          have hj' : j < l.length := by omega
          obtain ⟨y, hy⟩ := lt_len rfl hj'
          refine ⟨by omega, q, hrd, by rw [hsl.len]; omega, y.1, y.2.1, y.2.2, by simpa [encF] using hsl.agg hy, ?_⟩
          refine one_ok hk (f := y) (thread := (i : Int)) hs.ext fun t4 => ⟨_, rfl, fun hb => put_b ?_ (hP _), fun hb => ⟨n6 - 1, by omega, j + 1, wrap_succ (by omega), by omega, fun p c hp hc => ?_⟩⟩
          · refine bad hl ?_
            have : l.all (oneV k (i : Int)) = false := by
              rw [List.all_eq_false]
              exact ⟨y, List.mem_of_getElem? hy, by simpa using hb⟩
            rw [this]
            simp
          · rcases Nat.lt_or_ge p j with g1 | g1
            · exact hones p c g1 hc
            · have : p = j := by omega
              subst this
              rw [hy] at hc
              cases hc
              simpa using hb
        · have g1 := total_le hsm i
          have g5 : i * 140737488355327 ≤ 4 * 140737488355327 := Nat.mul_le_mul_right _ (by omega)
          rw [total_take hl]
          have e3 : (2 : Int) ^ 64 = 18446744073709551616 := by decide
          have e4 : (2 : Int) ^ (64 - 1) = 9223372036854775808 := by decide
          simp only [IntKind.wrap, IntKind.signed, IntKind.bits, Bool.true_and, decide_eq_true_eq, e3, e4]
          rw [if_neg (by omega)]
          omega
        · rcases Nat.lt_or_ge j' i with g1 | g1
          · exact hno j' l' g1 hl'
          · have : j' = i := by omega
            subst this
            rw [hl] at hl'
            cases hl'
            simp only [decide_eq_false_iff_not] at hc2
            have : l.all (oneV k (j' : Int)) = true := by
              rw [List.all_eq_true]
              intro c hm
              obtain ⟨p, hp⟩ := List.mem_iff_getElem?.1 hm
              exact hones p c (by have := (List.getElem?_eq_some_iff.1 hp).1; omega) hp
            rw [this, decide_eq_true (show l.length ≤ 12 by omega)]
            rfl
    · simp only [decide_eq_false_iff_not] at hc1
      have hin : i = ls.length := by omega
      subst hin
      have hrows : refRows k ls = true := by
        unfold refRows
        rw [List.all_eq_true]
        intro j hj
        have hj := List.mem_range.1 hj
        obtain ⟨l, hl⟩ := lt_len rfl hj
        rw [List.getD_eq_getElem?_getD, hl]
        exact hno j l hj hl
      unfold refFitsV
      rw [hrows, decide_eq_true hl1, decide_eq_true hl4, List.take_length]
      simp only [Bool.true_and]
      by_cases ht : total ls ≤ 12
      · rw [decide_eq_true ht, decide_eq_true (by omega)]
      · rw [decide_eq_false ht, decide_eq_false (by omega)]
  · simp only [decide_eq_true_eq] at h1
    unfold refFitsV
    rw [decide_eq_false (show ¬ 1 ≤ ls.length by omega)]
    rfl

/-! ### The two say the same -/
theorem by_all : ((List.range 21).all fun k => (List.range (lrow k).calls.length).all fun i => (List.range 4).all fun t => byV (nm k) t ((lrow k).calls.getD i ([], 0, 0)).1 == (decide ((t : Int) ≥ 0) && decide ((t : Int) < thrOf k i))) = true := by kernel_rfl
theorem inR_low {lo hi n a : Int} : inR lo hi n (decide (a > 0)) = ((decide (a < 1) && n == 0) || (decide (a > 0) && (decide (n ≥ lo) && decide (n ≤ hi)))) := by
  unfold inR
  by_cases h : a > 0
  · rw [decide_eq_true h, decide_eq_false (show ¬ a < 1 by omega)]
    simp
  · rw [decide_eq_false h, decide_eq_true (show a < 1 by omega)]
    simp
theorem inR_high {lo hi n a : Int} : inR lo hi n (decide (a > 1)) = ((decide (a < 2) && n == 0) || (decide (a > 1) && (decide (n ≥ lo) && decide (n ≤ hi)))) := by
  unfold inR
  by_cases h : a > 1
  · rw [decide_eq_true h, decide_eq_false (show ¬ a < 2 by omega)]
    simp
  · rw [decide_eq_false h, decide_eq_true (show a < 2 by omega)]
    simp
theorem fits_one {k t : Nat} (hk : k < 21) (ht : t < 4) (c : Form) : fitsV k t c = oneV k t c := by
  unfold fitsV oneV
  cases ha : at16 c.1 (lrow k).calls with
  | none => rfl
  | some i =>
    have hi : i < (lrow k).calls.length ∧ ((lrow k).calls.getD i ([], 0, 0)).1 = c.1 := by
      unfold at16 at ha
      rw [List.findIdx?_eq_some_iff_getElem] at ha
      obtain ⟨h1, h2, _⟩ := ha
      refine ⟨h1, ?_⟩
      rw [List.getD_eq_getElem?_getD, List.getElem?_eq_getElem h1]
      simpa using h2
    have hb := List.all_eq_true.1 (List.all_eq_true.1 (List.all_eq_true.1 by_all k (List.mem_range.2 hk)) i (List.mem_range.2 hi.1)) t (List.mem_range.2 ht)
    rw [hi.2] at hb
    simp only [beq_iff_eq] at hb
    simp only [hb, inR_low, inR_high, oneB]
    generalize ((decide (takesOf k i < 1) && c.2.1 == 0) || (decide (takesOf k i > 0) && (decide (c.2.1 ≥ (lrow k).lo) && decide (c.2.1 ≤ (lrow k).hi)))) = A
    generalize ((decide (takesOf k i < 2) && c.2.2 == 0) || (decide (takesOf k i > 1) && (decide (c.2.2 ≥ (lrow k).lo) && decide (c.2.2 ≤ (lrow k).hi)))) = B
    generalize (decide ((t : Int) ≥ 0) && decide ((t : Int) < thrOf k i)) = C
    cases A <;> cases B <;> cases C <;> rfl
theorem row_total {ls : List (List Form)} {i : Nat} {l : List Form} (h : ls[i]? = some l) : l.length ≤ total ls := by
  unfold total
  induction ls generalizing i with
  | nil => simp at h
  | cons x r ih =>
    cases i with
    | zero =>
      simp at h
      subst h
      simp
    | succ i =>
      have := ih (by simpa using h)
      simp only [List.map_cons, List.sum_cons]
      omega
theorem fits_same {k : Nat} (hk : k < 21) (ls : List (List Form)) : libFitsV k ls = refFitsV k ls := by
  unfold libFitsV refFitsV
  by_cases h1 : 1 ≤ ls.length
  · by_cases h4 : ls.length ≤ 4
    · by_cases ht : total ls ≤ 12
      · rw [decide_eq_true h1, decide_eq_true h4, decide_eq_true ht]
        simp only [Bool.and_true, Bool.true_and]
        unfold rowsFit refRows
        have each : ∀ t ∈ List.range ls.length, ((ls.getD t []).all (fitsV k t)) = (decide ((ls.getD t []).length ≤ 12) && (ls.getD t []).all (oneV k t)) := by
          intro t hm
          have hlt := List.mem_range.1 hm
          obtain ⟨l, hl⟩ := lt_len rfl hlt
          have h12 := row_total hl
          rw [List.getD_eq_getElem?_getD, hl, Option.getD_some, decide_eq_true (show l.length ≤ 12 by omega), Bool.true_and]
          congr 1
          funext c
          exact fits_one hk (by omega) c
        rw [Bool.eq_iff_iff, List.all_eq_true, List.all_eq_true]
        exact ⟨fun h t hm => by rw [← each t hm]; exact h t hm, fun h t hm => by rw [each t hm]; exact h t hm⟩
      · rw [decide_eq_false ht]; simp
    · rw [decide_eq_false h4]; simp
  · rw [decide_eq_false h1]; simp

theorem libFits_no {name : List UInt8} (hn : ∀ k, k < 21 → nm k ≠ name) {s : Slc} {h : Heap} {P : AV → Heap → Prop} (hP : ∀ t, P (.tuple [.bool false, .int .i64 5]) t) : CallE K5 39 [.str name, s.av] h P := by
  refine d39 (by kernel_rfl) ?_
  unfold D39
  exact CallE.lift le45 (find_no hn fun t => ⟨[], [], 0, nilS, 0, 0, false, false, false, false, rfl, fun _ => hP _, fun hb => by simp at hb⟩)

theorem libFits_ok {name : List UInt8} {s : Slc} {ls : List (List Form)} {h : Heap} (hsc : Script h s ls) (hsm : Small ls) {P : AV → Heap → Prop} (hP : ∀ t, P (.bool true) t) : CallE K5 9 [.str name, s.av] h P := by
  refine d9 (by kernel_rfl) ?_
  unfold D9
  refine CallE.lift le45 (awake4 ⟨true, rfl, fun hb => by simp at hb, fun _ => ?_⟩)
  rcases known_or name with ⟨k, hk, rfl⟩ | hn
  · refine CallE.lift le45 (refFind_yes hk fun c t2 hc hs => ⟨_, _, c, _, _, _, _, true, rfl, ?_⟩)
    refine libFits_yes hk hsc.ext hsm fun t3 => ⟨_, _, rfl, fun hb => by simp at hb, fun _ => ?_⟩
    refine refFits_ok hk hs.ext hsc.ext hsm fun t4 => ⟨_, rfl, fun _ => put_b (b := true) (by decide) (hP _), fun hb => ?_⟩
    rw [fits_same hk] at hb
    simp at hb
  · refine CallE.lift le45 (refFind_no hn fun t2 => ⟨[], 0, nilS, 0, 0, false, false, false, rfl, ?_⟩)
    refine libFits_no hn fun t3 => ⟨false, 5, rfl, fun _ => ⟨fun _ => put_b (b := true) (by decide) (hP _), fun hb => by simp at hb⟩, fun hb => by simp at hb⟩
end Go.Proofs.YtifkphfhadimaaaGreatDoor.Mini
