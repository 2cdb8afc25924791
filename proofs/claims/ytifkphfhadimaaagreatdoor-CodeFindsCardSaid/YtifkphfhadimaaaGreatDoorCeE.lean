import Derived.Test.YtifkphfhadimaaaGreatDoorCeC
import Derived.Test.YtifkphfhadimaaaGreatDoorCeD
set_option linter.unusedVariables false
set_option linter.unusedSimpArgs false
set_option maxRecDepth 100000
namespace Go.Proofs.YtifkphfhadimaaaGreatDoor.Mini
open Go.Abs

theorem filt_take {α : Type} {g : α → Bool} {l : List α} {i : Nat} {x : α} (hx : l[i]? = some x) : ((l.take (i + 1)).filter g).length = ((l.take i).filter g).length + (if g x = true then 1 else 0) := by
  rw [List.take_add_one, hx, List.filter_append, List.length_append]
  cases h : g x <;> simp [h]
theorem filt_le {α : Type} {g : α → Bool} {l : List α} {i : Nat} : ((l.take i).filter g).length ≤ i := Nat.le_trans (List.length_filter_le _ _) (by rw [List.length_take]; omega)

theorem rvalid_d {l : List Int} {n : Nat} {h : Heap} {P : AV → Heap → Prop} (hP : ∀ t, P (.bool (validL l n)) t) : CallE KD 62 [.agg (insW l), .int .i64 ((n : Nat) : Int)] h P := CallE.lift le_cd (rvalid_ok hP)

theorem rcheck_d {p : ProgT} {s : Slc} {h : Heap} (hs : ProgOn h s p.2.2) (hb : Bnd p.2.2) {P : AV → Heap → Prop} (hP : ∀ t, P (.int .i64 (checkV p)) t) : CallE KD 66 [pAV p s] h P := by
  refine d66 (by kernel_rfl) ?_
  unfold D66
  obtain ⟨qs, h1, h2, h3⟩ := hs.rows
  have hlen := hb.len
  rw [h1.len, h2]
  unfold checkV at hP
  refine ⟨fun q1 => ⟨fun q2 => ?_, fun q2 => ?_⟩, fun q1 => ?_⟩
  · rw [q1, q2] at hP
    exact hP _
  · rw [q1, q2] at hP
    simp only [Bool.false_eq_true, if_false] at hP
    refine ⟨fun (m : Nat) (x : Int) (t : Heap) => ∃ i : Nat, x = (i : Int) ∧ m + i = p.2.2.length ∧ ∀ (j : Nat) r, j < i → p.2.2[j]? = some r → bigV r = false, ⟨p.2.2.length, 0, rfl, rfl, fun j c hj => absurd hj (Nat.not_lt_zero j)⟩, ?_⟩
    rintro m _ t1 ⟨i, rfl, hm, hall⟩
    refine ⟨fun hc => ?_, fun hc => ?_⟩
    · simp only [decide_eq_true_eq] at hc
      have hi : i < p.2.2.length := by omega
      obtain ⟨r, hr⟩ := lt_len rfl hi
      obtain ⟨q, hq⟩ := lt_len h2.symm hi
      obtain ⟨k1, k2⟩ := h3 i q r hq hr
      refine ⟨⟨by omega, by omega⟩, q.2, h1.cell hq rfl, ?_⟩
      rw [k2.len]
      refine ⟨fun z => ?_, fun z => ⟨m - 1, by omega, i + 1, wrap_succ (by omega), by omega, lower hr hall z⟩⟩
      rw [if_pos (any_of hr z)] at hP
      exact hP _
    simp only [decide_eq_false_iff_not] at hc
    rw [if_neg (by rw [any_none (upto (by omega) hall)]; simp)] at hP
    refine rnamed_ok fun t2 => ⟨_, rfl, fun q4 => ?_, fun q4 => ?_⟩
    · rw [if_pos (ntT q4)] at hP
      exact hP _
    rw [if_neg (by rw [ntF q4]; simp)] at hP
    clear hm hall hc
    refine ⟨fun (m : Nat) (x : Int) (t : Heap) => ∃ i : Nat, x = (i : Int) ∧ m + i = p.2.2.length ∧ ∀ (j : Nat) r, j < i → p.2.2[j]? = some r → (!nmV r.1) = false, ⟨p.2.2.length, 0, rfl, rfl, fun j c hj => absurd hj (Nat.not_lt_zero j)⟩, ?_⟩
    rintro m _ t3 ⟨i, rfl, hm, hall⟩
    refine ⟨fun hc => ?_, fun hc => ?_⟩
    · simp only [decide_eq_true_eq] at hc
      have hi : i < p.2.2.length := by omega
      obtain ⟨r, hr⟩ := lt_len rfl hi
      obtain ⟨q, hq⟩ := lt_len h2.symm hi
      obtain ⟨k1, k2⟩ := h3 i q r hq hr
      refine ⟨⟨by omega, by omega⟩, q.1, h1.cell0 hq rfl, ?_⟩
      rw [k1]
      refine rnamed_ok fun t4 => ⟨_, rfl, fun z => ?_, fun z => ⟨m - 1, by omega, i + 1, wrap_succ (by omega), by omega, lower hr hall z⟩⟩
      rw [if_pos (any_of hr z)] at hP
      exact hP _
    simp only [decide_eq_false_iff_not] at hc
    rw [if_neg (by rw [any_none (upto (by omega) hall)]; simp)] at hP
    clear hm hall hc
    refine ⟨fun (m : Nat) (c : Int) (x : Int) (t : Heap) => ∃ i : Nat, x = (i : Int) ∧ m + i = p.2.2.length ∧ c = ((((p.2.2.take i).filter fun r => !(r.1 == startW)).length : Nat) : Int) ∧ ∀ (k : Nat) (b : Rout), k < i → p.2.2[k]? = some b → ∀ (j : Nat) (a : Rout), j < k → p.2.2[j]? = some a → a.1 ≠ b.1, ⟨p.2.2.length, 0, rfl, rfl, rfl, fun j c hj => absurd hj (Nat.not_lt_zero j)⟩, ?_⟩
    rintro m _ _ t5 ⟨i, rfl, hm, rfl, hall⟩
    refine ⟨fun hc => ?_, fun hc => ?_⟩
    · simp only [decide_eq_true_eq] at hc
      have hi : i < p.2.2.length := by omega
      obtain ⟨r, hr⟩ := lt_len rfl hi
      obtain ⟨q, hq⟩ := lt_len h2.symm hi
      obtain ⟨k1, k2⟩ := h3 i q r hq hr
      refine ⟨fun (m : Nat) (x : Int) (t : Heap) => ∃ j : Nat, x = (j : Int) ∧ m + j = i ∧ ∀ (k : Nat) a, k < j → p.2.2[k]? = some a → a.1 ≠ r.1, ⟨i, 0, rfl, rfl, fun j c hj => absurd hj (Nat.not_lt_zero j)⟩, ?_⟩
      rintro m2 _ t6 ⟨j, rfl, hm2, hall2⟩
      refine ⟨fun hc2 => ?_, fun hc2 => ?_⟩
      · simp only [decide_eq_true_eq] at hc2
        have hj : j < p.2.2.length := by omega
        obtain ⟨a, ha⟩ := lt_len rfl hj
        obtain ⟨z, hz⟩ := lt_len h2.symm hj
        obtain ⟨e1, e2⟩ := h3 j z a hz ha
        refine ⟨⟨by omega, by omega⟩, z.1, h1.cell0 hz rfl, ⟨by omega, by omega⟩, q.1, h1.cell0 hq rfl, ?_⟩
        rw [k1, e1]
        refine ⟨fun g => ?_, fun g => ⟨m2 - 1, by omega, j + 1, wrap_succ (by omega), by omega, lower ha hall2 (by simpa using g)⟩⟩
        rw [if_pos (dup_yes (show j < i by omega) ha hr (by simpa using g))] at hP
        exact hP _
      · simp only [decide_eq_false_iff_not] at hc2
        refine ⟨⟨by omega, by omega⟩, q.1, h1.cell0 hq rfl, ?_⟩
        rw [k1]
        have more : ∀ (k : Nat) (b : Rout), k < i + 1 → p.2.2[k]? = some b → ∀ (j : Nat) (a : Rout), j < k → p.2.2[j]? = some a → a.1 ≠ b.1 := fun k b hk hb' => by
          rcases Nat.lt_or_ge k i with h' | h'
          · exact hall k b h' hb'
          · obtain rfl : k = i := by omega
            rw [hr] at hb'
            cases hb'
            exact fun j' a hj' ha => hall2 j' a (by omega) ha
        have hfl := filt_le (g := fun r : Rout => !(r.1 == startW)) (l := p.2.2) (i := i)
        refine ⟨fun g => ⟨m - 1, by omega, i + 1, wrap_succ (by omega), by omega, ?_, more⟩, fun g => ⟨m - 1, by omega, i + 1, wrap_succ (by omega), by omega, ?_, more⟩⟩
        · rw [filt_take hr, if_pos (show (!(r.1 == startW)) = true from g), wrap_succ (by omega)]
        · rw [filt_take hr, if_neg (by rw [show (!(r.1 == startW)) = false from g]; simp)]
          rfl
    simp only [decide_eq_false_iff_not] at hc
    rw [take_all (by omega)]
    rw [if_neg (by rw [dup_no fun k b hb' => hall k b (by have := (List.getElem?_eq_some_iff.1 hb').1; omega) hb']; simp)] at hP
    clear hm hall hc
    refine ⟨fun q7 => ⟨fun q8 => ?_, fun q8 => ?_⟩, fun q7 => ?_⟩
    · rw [if_neg (by rw [q7]; simp)] at hP
      have e : (p.2.2.all fun r => r.1 == startW) = true := by
        have h0 : (p.2.2.filter fun r => !(r.1 == startW)) = [] := List.eq_nil_of_length_eq_zero (by simp only [beq_iff_eq] at q8; omega)
        rw [List.filter_eq_nil_iff] at h0
        rw [List.all_eq_true]
        intro r hr
        have := h0 r hr
        simpa using this
      rw [if_pos e] at hP
      exact hP _
    · rw [if_neg (by rw [q7]; simp)] at hP
      have e : (p.2.2.all fun r => r.1 == startW) = false := by
        cases ha : p.2.2.all fun r => r.1 == startW with
        | false => rfl
        | true =>
          exfalso
          rw [List.all_eq_true] at ha
          have : (p.2.2.filter fun r => !(r.1 == startW)) = [] := by
            rw [List.filter_eq_nil_iff]
            intro r hr
            simp [ha r hr]
          rw [this] at q8
          simp at q8
      rw [if_neg (by rw [e]; simp)] at hP
      refine ⟨fun (m : Nat) (x : Int) (t : Heap) => ∃ i : Nat, x = (i : Int) ∧ m + i = p.2.2.length ∧ ∀ (j : Nat) r, j < i → p.2.2[j]? = some r → wrongV r.2 = false, ⟨p.2.2.length, 0, rfl, rfl, fun j c hj => absurd hj (Nat.not_lt_zero j)⟩, ?_⟩
      rintro m _ t7 ⟨i, rfl, hm, hall⟩
      refine ⟨fun hc => ?_, fun hc => ?_⟩
      · simp only [decide_eq_true_eq] at hc
        have hi : i < p.2.2.length := by omega
        obtain ⟨r, hr⟩ := lt_len rfl hi
        obtain ⟨q, hq⟩ := lt_len h2.symm hi
        obtain ⟨k1, k2⟩ := h3 i q r hq hr
        have hcl := hb.code r (List.mem_of_getElem? hr)
        have bad : wrongV r.2 = true → ∀ t, P (.int .i64 1) t := fun e t => by
          have := hP t
          rwa [if_pos (any_of (g := fun r : Rout => wrongV r.2) hr e)] at this
        refine ⟨⟨by omega, by omega⟩, q.2, h1.cell hq rfl, ?_⟩
        rw [k2.len]
        refine ⟨fun z => bad (by unfold wrongV; rw [z]; rfl) _, fun z => ?_⟩
        refine ⟨fun (m : Nat) (x : Int) (t : Heap) => ∃ j : Nat, x = (j : Int) ∧ m + j = r.2.length ∧ ∀ (k : Nat) l, k < j → r.2[k]? = some l → (!validL l r.2.length) = false, ⟨r.2.length, 0, rfl, rfl, fun j c hj => absurd hj (Nat.not_lt_zero j)⟩, ?_⟩
        rintro m2 _ t8 ⟨j, rfl, hm2, hall2⟩
        refine ⟨fun hc2 => ?_, fun hc2 => ?_⟩
        · simp only [decide_eq_true_eq] at hc2
          obtain ⟨l, hl⟩ := lt_len rfl (show j < r.2.length by omega)
          refine ⟨⟨by omega, by omega⟩, _, _, _, _, _, _, _, _, _, _, _, k2.agg hl, ?_⟩
          refine rvalid_d (l := l) fun t9 => ⟨_, rfl, fun g => bad ?_ _, fun g => ⟨m2 - 1, by omega, j + 1, wrap_succ (by omega), by omega, lower hl hall2 g⟩⟩
          unfold wrongV
          rw [any_of (g := fun l => !validL l r.2.length) hl g]
          simp
        · simp only [decide_eq_false_iff_not] at hc2
          rw [last_idx z hcl]
          have h0 : r.2.length ≠ 0 := by simp at z; simpa using z
          have next : endB (lastOp r.2) = false → ∀ t, ∃ n15, n15 < m ∧ ∃ i' : Nat, IntKind.wrap .i64 ((i : Int) + 1) = (i' : Int) ∧ n15 + i' = p.2.2.length ∧ ∀ (j : Nat) r, j < i' → p.2.2[j]? = some r → wrongV r.2 = false := fun e (t : Heap) => ⟨m - 1, by omega, i + 1, wrap_succ (by omega), by omega, lower hr hall (by unfold wrongV; rw [z, any_none (upto (by omega) hall2), e]; rfl)⟩
          refine ⟨⟨by omega, by omega⟩, lastOp r.2, ?_, ?_⟩
          · have := k2.cell0 (last_at z) (v := .int .i64 (lastOp r.2)) rfl
            simpa using this
          refine ⟨fun g1 => ⟨fun g2 => ⟨fun g3 => bad ?_ _, fun g3 => next ?_ []⟩, fun g2 => next ?_ []⟩, fun g1 => next ?_ []⟩
          · unfold wrongV endB
            rw [g1, g2, g3]
            simp
          · unfold endB
            rw [g1, g2, g3]
            rfl
          · unfold endB
            rw [g1, g2]
            rfl
          · unfold endB
            rw [g1]
            rfl
      · simp only [decide_eq_false_iff_not] at hc
        rw [if_neg (by rw [any_none (g := fun r : Rout => wrongV r.2) (upto (Q := fun r : Rout => wrongV r.2 = false) (by omega) hall)]; simp)] at hP
        exact hP _
    · rw [if_pos q7] at hP
      exact hP _
  · rw [q1] at hP
    exact hP _

structure Few (p : List Rout) : Prop where
  len : p.length < 800
  code : ∀ r ∈ p, r.2.length < 800
theorem Few.bnd {p : List Rout} (k : Few p) : Bnd p := ⟨by have := k.len; omega, fun r hr => by have := k.code r hr; omega⟩

end Go.Proofs.YtifkphfhadimaaaGreatDoor.Mini

