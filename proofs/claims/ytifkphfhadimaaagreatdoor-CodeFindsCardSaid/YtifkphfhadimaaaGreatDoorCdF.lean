import Derived.Test.YtifkphfhadimaaaGreatDoorCdE
set_option linter.unusedVariables false
set_option linter.unusedSimpArgs false
set_option maxRecDepth 100000
namespace Go.Proofs.YtifkphfhadimaaaGreatDoor.Mini
open Go.Abs

theorem not_true {b : Bool} (h : (!b) = true) : b = false := by cases b <;> simp_all
theorem not_false' {b : Bool} (h : (!b) = false) : b = true := by cases b <;> simp_all
theorem ne_true {b : Bool} (h : (b != true) = true) : b = false := by cases b <;> simp_all
theorem ne_true' {b : Bool} (h : (b != true) = false) : b = true := by cases b <;> simp_all
def pv (op sr sn vr vn wr wn : Int) (i : Nat) : Bool := match i with
  | 0 => partB op 115 sr sn
  | 1 => partB op 118 vr vn
  | _ => partB op 119 wr wn

theorem rvalid_ok {op r sr sn vr vn wr wn n to len : Int} {star : Bool} {h : Heap} {P : AV → Heap → Prop} (hP : ∀ t, P (.bool (validV op r sr sn vr vn wr wn n to len)) t) : CallE KC 62 [.agg [.int .i64 op, .bool star, .int .i64 r, .int .i64 sr, .int .i64 sn, .int .i64 vr, .int .i64 vn, .int .i64 wr, .int .i64 wn, .int .i64 n, .int .i64 to], .int .i64 len] h P := by
  refine d62 (by kernel_rfl) ?_
  unfold D62
  refine form_ok fun t1 => ?_
  rcases inOp_cases op with ⟨h0, h1, hi⟩ | hi
  · rw [hi]
    have hv : validV op r sr sn vr vn wr wn n to len = ((partB op 115 sr sn && (partB op 118 vr vn && partB op 119 wr wn)) && (regB op r && (numB op n && toB op to len))) := by unfold validV; rw [hi, Bool.true_and]
    have no : ∀ t, validV op r sr sn vr vn wr wn n to len = false → P (.bool false) t := fun t e => by have := hP t; rwa [e] at this
    have noR : ∀ t, regB op r = false → P (.bool false) t := fun t e => no t (by rw [hv, e]; simp)
    have noN : ∀ t, numB op n = false → P (.bool false) t := fun t e => no t (by rw [hv, e]; simp)
    have noP : ∀ t i, i < 3 → pv op sr sn vr vn wr wn i = false → P (.bool false) t := fun t i hi3 e => no t (by
      rw [hv]
      rcases (by omega : i = 0 ∨ i = 1 ∨ i = 2) with rfl | rfl | rfl <;> simp only [pv] at e <;> rw [e] <;> simp)
    refine ⟨opN op, opP op, rfl, fun hb => ?_, fun _ => ?_⟩
    · rw [opN_ne h0 h1] at hb
      cases hb
    refine ⟨fun t => regB op r = true, asks_ok h0 h1 fun t2 => ⟨_, rfl, fun q1 => ⟨fun q2 => ⟨fun q3 => ?_, fun q3 => ?_⟩, fun q2 => ?_⟩, fun q1 => ⟨fun q2 => ?_, fun q2 => ?_⟩⟩, ?_⟩
    · refine noR _ ?_
      simp only [decide_eq_true_eq] at q3
      unfold regB
      rw [if_pos q1, decide_eq_false (show ¬ r < 14 by omega), Bool.and_false]
    · simp only [decide_eq_false_iff_not] at q2 q3
      unfold regB
      rw [if_pos q1, decide_eq_true (show r ≥ 0 by omega), decide_eq_true (show r < 14 by omega)]
      rfl
    · refine noR _ ?_
      simp only [decide_eq_true_eq] at q2
      unfold regB
      rw [if_pos q1, decide_eq_false (show ¬ r ≥ 0 by omega), Bool.false_and]
    · refine noR _ ?_
      unfold regB
      rw [if_neg (by simp [q1])]
      simpa [bne] using q2
    · unfold regB
      rw [if_neg (by simp [q1])]
      simpa [bne] using q2
    intro t3 hR
    refine ⟨fun (m : Nat) (x : Int) (t : Heap) => ∃ i : Nat, x = (i : Int) ∧ m + i = 3 ∧ ∀ j, j < i → pv op sr sn vr vn wr wn j = true, ⟨3, 0, rfl, rfl, fun j hj => absurd hj (Nat.not_lt_zero j)⟩, ?_⟩
    rintro m _ t4 ⟨i, rfl, hm, hall⟩
    refine ⟨fun hc => ?_, fun hc => ?_⟩
    · simp only [decide_eq_true_eq] at hc
      have hi3 : i < 3 := by omega
      have next : ∀ (I : Nat → Int → Heap → Prop), I = (fun (m : Nat) (x : Int) (t : Heap) => ∃ i : Nat, x = (i : Int) ∧ m + i = 3 ∧ ∀ j, j < i → pv op sr sn vr vn wr wn j = true) → pv op sr sn vr vn wr wn i = true → ∀ t, ∃ m', m' < m ∧ I m' (IntKind.wrap .i64 ((i : Int) + 1)) t := by
        rintro _ rfl hp t
        refine ⟨m - 1, by omega, i + 1, wrap_succ (by omega), by omega, fun j hj => ?_⟩
        rcases Nat.lt_or_ge j i with h' | h'
        · exact hall j h'
        · rw [show j = i by omega]
          exact hp
      obtain ⟨c, xr, xn, e1, e2, e3⟩ : ∃ (c : UInt8) (xr xn : Int), ([115, 118, 119] : List UInt8)[i]? = some c ∧ partOf (some 2) [.int .i64 sr, .int .i64 sn, .int .i64 vr, .int .i64 vn, .int .i64 wr, .int .i64 wn] (0 + ((i : Nat) : Int).toNat * 2) = some (.agg [.int .i64 xr, .int .i64 xn]) ∧ pv op sr sn vr vn wr wn i = partB op ((c.toNat : Nat) : Int) xr xn := by
        rcases (by omega : i = 0 ∨ i = 1 ∨ i = 2) with rfl | rfl | rfl
        · exact ⟨115, sr, sn, rfl, rfl, rfl⟩
        · exact ⟨118, vr, vn, rfl, rfl, rfl⟩
        · exact ⟨119, wr, wn, rfl, rfl, rfl⟩
      unfold partB at e3
      refine ⟨c, ⟨by omega, by simpa using e1⟩, asks_ok h0 h1 fun t5 => ⟨_, rfl, fun q1 => ⟨⟨by omega, by omega⟩, xr, xn, e2, roperand_ok fun t6 => ⟨_, rfl, fun q2 => noP _ i hi3 ?_, fun q2 => next _ rfl ?_ []⟩⟩, fun q1 => ⟨⟨by omega, by omega⟩, xr, xn, e2, fun q2 => noP _ i hi3 ?_, fun q2 => next _ rfl ?_ []⟩⟩⟩
      · rw [e3, if_pos q1]; exact not_true q2
      · rw [e3, if_pos q1]; exact not_false' q2
      · rw [e3, if_neg (by simp [q1])]; exact ne_true q2
      · rw [e3, if_neg (by simp [q1])]; exact ne_true' q2
    · simp only [decide_eq_false_iff_not] at hc
      have hi3 : i = 3 := by omega
      subst hi3
      have p0 := hall 0 (by decide)
      have p1 := hall 1 (by decide)
      have p2 := hall 2 (by decide)
      simp only [pv] at p0 p1 p2
      refine ⟨fun t => numB op n = true, asks_ok h0 h1 fun t7 => ⟨_, rfl, fun q1 => ⟨fun q2 => ⟨fun q3 => ?_, fun q3 => ?_⟩, fun q2 => ?_⟩, fun q1 => ⟨fun q2 => ?_, fun q2 => ?_⟩⟩, ?_⟩
      · refine noN _ ?_
        simp only [decide_eq_true_eq] at q3
        unfold numB
        rw [if_pos q1, decide_eq_false (show ¬ n ≤ 15 by omega), Bool.and_false]
      · simp only [decide_eq_false_iff_not] at q2 q3
        unfold numB
        rw [if_pos q1, decide_eq_true (show n ≥ 0 by omega), decide_eq_true (show n ≤ 15 by omega)]
        rfl
      · refine noN _ ?_
        simp only [decide_eq_true_eq] at q2
        unfold numB
        rw [if_pos q1, decide_eq_false (show ¬ n ≥ 0 by omega), Bool.false_and]
      · refine noN _ ?_
        unfold numB
        rw [if_neg (by simp [q1])]
        simpa [bne] using q2
      · unfold numB
        rw [if_neg (by simp [q1])]
        simpa [bne] using q2
      intro t8 hN
      have hT : validV op r sr sn vr vn wr wn n to len = toB op to len := by rw [hv, p0, p1, p2, hR, hN]; simp
      rw [hT] at hP
      unfold toB at hP
      refine asks_ok h0 h1 fun t9 => ⟨_, rfl, fun q1 => ⟨fun q2 => ?_, fun q2 => ?_⟩, fun q1 => ?_⟩
      · rw [if_pos q1, q2, Bool.true_and] at hP
        exact hP _
      · rw [if_pos q1, q2, Bool.false_and] at hP
        exact hP _
      · rw [if_neg (by simp [q1])] at hP
        exact hP _
  · rw [hi]
    unfold validV at hP
    rw [hi, Bool.false_and] at hP
    exact ⟨[], [], rfl, fun _ => hP _, fun hb => by simp at hb⟩

end Go.Proofs.YtifkphfhadimaaaGreatDoor.Mini

