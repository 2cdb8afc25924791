import Derived.Test.YtifkphfhadimaaaGreatDoorCfB
set_option linter.unusedVariables false
set_option linter.unusedSimpArgs false
set_option maxRecDepth 100000
namespace Go.Proofs.YtifkphfhadimaaaGreatDoor.Mini
open Go.Abs

structure CloS (c : List (List Int)) (B : List Bool) (T : List Nat) : Prop where
  cl : Closed c B T
  on : Only c B
  todo : ∀ x ∈ T, Rch c x
section
variable {c : List (List Int)} {B : List Bool} {T U : List Nat} {a : Nat}
theorem CloS.len (k : CloS c B T) : B.length = c.length := k.cl.len
theorem CloS.beyond (k : CloS c B (T ++ [a])) (g : GoodC c) (ha : c.length ≤ a) : CloS c B T := ⟨k.cl.beyond g ha, k.on, fun x hx => k.todo x (List.mem_append.2 (.inl hx))⟩
theorem CloS.known (k : CloS c B (T ++ [a])) (ha : B[a]? = some true) : CloS c B T := ⟨k.cl.known ha, k.on, fun x hx => k.todo x (List.mem_append.2 (.inl hx))⟩
theorem CloS.mark (k : CloS c B (T ++ [a])) {l : List Int} (hl : c[a]? = some l) (hU : ∀ x ∈ U, Rch c x) (hj : 7 ≤ l.getD 0 0 → l.getD 0 0 ≤ 11 → (l.getD 10 0).toNat ∈ U) (hn : l.getD 0 0 ≠ 10 → l.getD 0 0 ≠ 12 → l.getD 0 0 ≠ 25 → a + 1 ∈ U) : CloS c (B.set a true) (T ++ U) :=
  ⟨k.cl.mark hl hj hn, k.on.set (k.todo a (by simp)), fun x hx => (List.mem_append.1 hx).elim (fun hx => k.todo x (List.mem_append.2 (.inl hx))) (hU x)⟩
end
theorem row_slB {H : Heap} {b n : Nat} {B : List Bool} (hb : H[b]? = some (.arr (B.map AV.bool) 1 false)) (hn : n = B.length) : Sl H ⟨b, 0, n, false⟩ 1 encB B := by
  subst hn
  refine ⟨rfl, fun j x hj => ?_⟩
  have hjl := (List.getElem?_eq_some_iff.1 hj).1
  simp only [rdCells, hb]
  rw [if_pos (by simp; omega)]
  congr 1
  rw [Nat.zero_add, Nat.mul_one]
  apply List.ext_getElem?
  intro n
  rw [List.getElem?_take]
  split
  · rename_i hn
    obtain rfl : n = 0 := by omega
    rw [List.getElem?_drop, Nat.add_zero, List.getElem?_map, hj]
    rfl
  · rw [List.getElem?_eq_none (by simp [encB]; omega)]
theorem TX.sl {p t : Heap} {s : Slc} {T : List Int} (k : TX p.length t s T) : Sl (p ++ t) s 1 enI T := by
  rcases k with ⟨rfl, rfl⟩ | ⟨h1, h0, h2, h3, i, h4, h5⟩
  · exact ⟨rfl, fun i x hx => by cases hx⟩
  · have : s = ⟨p.length + i, 0, T.length, false⟩ := by
      cases s
      simp only at h1 h2 h3 h4
      subst h1 h2 h3 h4
      rfl
    rw [this]
    exact row_sl (c := T.map encZ) (by rw [List.getElem?_append_right (by omega), Nat.add_sub_cancel_left]; exact h5) rfl fun j x hx => by rw [List.getElem?_map, hx]; rfl

theorem reached2_ok {p : ProgT} {routine : Int} {s : Slc} {h : Heap} (hs : ProgOn h s p.2.2) (hk : Few p.2.2) {P : AV → Heap → Prop}
    (g1 : checkV p ≠ 0 → ∀ t, P (.tuple [.nilslice, .int .i64 (checkV p)]) t) (g2 : checkV p = 0 → (routine < 0 ∨ routine ≥ ((p.2.2.length : Nat) : Int)) → ∀ t, P (.tuple [.nilslice, .int .i64 1]) t)
    (g3 : ∀ (i : Nat) r, checkV p = 0 → routine = (i : Int) → p.2.2[i]? = some r → ∀ (z : Slc) (B : List Bool) t, Closed r.2 B [] → Only r.2 B → Sl (h ++ t) z 1 encB B → P (.tuple [z.av, .int .i64 0]) t) : CallE KF 67 [pAV p s, .int .i64 routine] h P := by
  refine d67 (by kernel_rfl) ?_
  unfold D67
  refine CallE.lift le_df (check_d hs.ext hk.bnd fun t1 => ⟨_, rfl, fun q => g1 (by simpa using q) _, fun q => ?_⟩)
  have hz : checkV p = 0 := by simpa using q
  obtain ⟨qs, h1, h2, h3⟩ := hs.rows
  rw [h1.len, h2]
  refine ⟨fun q1 => ⟨fun q2 => g2 hz (.inr (by simpa using q2)) _, fun q2 => ?_⟩, fun q1 => g2 hz (.inl (by simpa using q1)) _⟩
  simp only [decide_eq_false_iff_not] at q1 q2
  obtain ⟨i, rfl⟩ : ∃ i : Nat, routine = (i : Int) := ⟨routine.toNat, by omega⟩
  have hi : i < p.2.2.length := by omega
  obtain ⟨r, hr⟩ := lt_len rfl hi
  obtain ⟨q, hq⟩ := lt_len h2.symm hi
  obtain ⟨k1, k2⟩ := h3 i q r hq hr
  have hcl := hk.code r (List.mem_of_getElem? hr)
  have hg : GoodC r.2 := goodC_of (by have := List.any_eq_false.1 (check_zero hz) r (List.mem_of_getElem? hr); simpa using this)
  refine ⟨⟨by omega, by omega⟩, q.2, h1.cell hq rfl, ?_⟩
  rw [k2.len]
  refine ⟨⟨by omega, rfl, by omega⟩, ?_⟩
  refine ⟨fun (m : Nat) (todo : Slc) (c1 : List AV) (t : Heap) => ∃ (B : List Bool) (T : List Nat), c1 = B.map AV.bool ∧ CloS r.2 B T ∧ TD (h.length + (1 + (t1.length + 1))) t todo T ∧ m = 3 * B.count false + T.length ∧ m ≤ 3 * r.2.length + 1, ⟨_, List.replicate r.2.length false, [0], mk_false _, ⟨⟨by simp, .inr (by simp), fun i l hb => by simp [List.getElem?_replicate] at hb, fun i l hb => by simp [List.getElem?_replicate] at hb⟩, fun x hx => by simp [List.getElem?_replicate] at hx, fun x hx => by rw [List.mem_singleton.1 hx]; exact .start⟩, TD.mk' (T := []) 0 rfl rfl rfl, rfl, by simp⟩, ?_⟩
  rintro m todo _ t2 ⟨B, T, rfl, hC, hT, rfl, hm⟩
  rw [hT.len]
  have hBl := hC.len
  refine ⟨fun hc => ?_, fun hc => ?_⟩
  · simp only [decide_eq_true_eq] at hc
    rcases List.eq_nil_or_concat T with rfl | ⟨T', a, rfl⟩
    · simp at hc
    rw [List.concat_eq_append] at hC hT hm hc ⊢
    rw [show IntKind.wrap .i64 ((((T' ++ [a]).length : Nat) : Int) - 1) = ((T'.length : Nat) : Int) by rw [wrapI (by simp) (by simp at hm ⊢; omega)]; simp]
    have hH : ∀ (k : Nat) o, t2[k]? = some o → (h ++ (AObj.arr [(.str p.1), (.int .i64 p.2.1), s.av] 3 false :: (t1 ++ (AObj.arr (B.map AV.bool) 1 false :: t2))))[h.length + (1 + (t1.length + 1)) + k]? = some o := by
      intro k o hko
      rw [List.getElem?_append_right (by omega), show h.length + (1 + (t1.length + 1)) + k - h.length = (t1.length + (k + 1)) + 1 by omega, List.getElem?_cons_succ, List.getElem?_append_right (by omega), show t1.length + (k + 1) - t1.length = k + 1 by omega, List.getElem?_cons_succ]
      exact hko
    obtain ⟨e1, e2⟩ := hT.last hH
    have hpop : TD (h.length + (1 + (t1.length + 1))) t2 ⟨todo.b, todo.o + Int.toNat (0 : Int) * 1, Int.toNat ((T'.length : Nat) : Int) - Int.toNat (0 : Int), todo.nil⟩ T' := hT.pop (by have := hT.2.1; simp [this]) (by simp)
    have hTl : (T' ++ [a]).length = T'.length + 1 := by simp
    rw [hTl] at hm hc ⊢
    refine ⟨⟨by omega, by omega⟩, (a : Int), by simpa using e1, fun _ => e2, ⟨by omega, by omega, by omega⟩, fun z => ?_, fun z => ⟨3 * B.count false + T'.length, by omega, B, T', rfl, hC.beyond hg (by simpa using z), hpop, rfl, by omega⟩⟩
    simp only [decide_eq_false_iff_not] at z
    have haL : a < r.2.length := by omega
    have hRa : Rch r.2 a := hC.todo a (by simp)
    obtain ⟨l, hl⟩ := lt_len rfl haL
    obtain ⟨b, hb⟩ := lt_len (show B.length = B.length from rfl) (show a < B.length by omega)
    refine ⟨⟨by omega, by simp; omega⟩, b, ?_, fun hbt => ⟨3 * B.count false + T'.length, by omega, B, T', rfl, hC.known (by rw [hb, hbt]), hpop, rfl, by omega⟩, fun hbf => ?_⟩
    · simp only [partOf, Int.toNat_natCast, Nat.mul_one, Nat.zero_add, List.getElem?_map, hb, Option.map_some]
    subst hbf
    have hcnt : (B.set a true).count false + 1 = B.count false := count_set_lt B a (by simp [List.getD_eq_getElem?_getD, hb])
    refine ⟨⟨by omega, by simp; omega⟩, by simp; omega, ?_⟩
    rw [setCells_one, Nat.zero_add, Nat.mul_one, Int.toNat_natCast, ← List.map_set]
    refine ⟨fun todo' t => ∃ U : List Nat, TD (h.length + (1 + (t1.length + 1))) t todo' (T' ++ U) ∧ U.length ≤ 1 ∧ (∀ x ∈ U, Rch r.2 x) ∧ (7 ≤ l.getD 0 0 → l.getD 0 0 ≤ 11 → (l.getD 10 0).toNat ∈ U), ?_, ?_⟩
    · refine ⟨⟨by omega, by omega⟩, l.getD 0 0, k2.cell0 hl rfl, CallE.lift le_ef (jumps_ok fun t3 => ⟨_, rfl, fun hj => ?_, fun hj => ⟨[], by simpa using hpop.more, by simp, (fun x hx => by cases hx), fun e1 e2 => ?_⟩⟩)⟩
      · simp only [Bool.and_eq_true, decide_eq_true_eq] at hj
        have hto := hg.jump a l hl hj.1 hj.2
        obtain ⟨g, hg'⟩ := hpop.take
        refine ⟨⟨by omega, by omega⟩, l.getD 10 0, k2.cell (c := 10) hl rfl, T'.map encN, g, hg', ?_, [(l.getD 10 0).toNat], ?_, by simp, (fun x hx => by rw [List.mem_singleton.1 hx]; exact .jump hRa hl hj.1 hj.2), fun _ _ => by simp⟩
        · rw [hpop.len]; omega
        · refine TD.mk' (g.length + t3.length + 1) (by omega) (by rw [hpop.len]) ?_
          rw [List.getElem?_append_right (by omega), List.getElem?_append_right (by omega), show g.length + t3.length + 1 - g.length - t3.length = 1 by omega]
          simp only [List.getElem?_cons_succ, List.getElem?_cons_zero, encN]
          rw [Int.toNat_of_nonneg hto.1]
      · have hj' : ¬ (7 ≤ l.getD 0 0 ∧ l.getD 0 0 ≤ 11) := by
          simp only [Bool.and_eq_false_iff, decide_eq_false_iff_not] at hj
          omega
        exact absurd ⟨e1, e2⟩ hj'
    · rintro todo' t4 ⟨U, hU, hUl, hUr, hUj⟩
      have hTU : (T' ++ U).length ≤ T'.length + 1 := by simp; omega
      have stop : (l.getD 0 0 = 10 ∨ l.getD 0 0 = 12 ∨ l.getD 0 0 = 25) → ∃ n4, n4 < 3 * B.count false + (T'.length + 1) ∧ ∃ (B' : List Bool) (T : List Nat), (B.set a true).map AV.bool = B'.map AV.bool ∧ CloS r.2 B' T ∧ TD (h.length + (1 + (t1.length + 1))) t4 todo' T ∧ n4 = 3 * B'.count false + T.length ∧ n4 ≤ 3 * r.2.length + 1 := fun e =>
        ⟨3 * (B.set a true).count false + (T' ++ U).length, by omega, B.set a true, T' ++ U, rfl, hC.mark hl hUr hUj (fun a b c => by omega), hU, rfl, by omega⟩
      refine ⟨⟨by omega, by omega⟩, l.getD 0 0, k2.cell0 hl rfl, fun x1 => ⟨fun x2 => ⟨fun x3 => ?_, fun x3 => stop (.inr (.inr (by simpa using x3)))⟩, fun x2 => stop (.inr (.inl (by simpa using x2)))⟩, fun x1 => stop (.inl (by simpa using x1))⟩
      obtain ⟨g, hg'⟩ := hU.take
      refine ⟨(T' ++ U).map encN, g, hg', by rw [hU.len]; omega, 3 * (B.set a true).count false + ((T' ++ U) ++ [a + 1]).length, by simp at hTU ⊢; omega, B.set a true, (T' ++ U) ++ [a + 1], rfl, ?_, ?_, rfl, by simp at hTU ⊢; omega⟩
      · rw [List.append_assoc]
        exact hC.mark hl (fun x hx => (List.mem_append.1 hx).elim (hUr x) fun hx => by rw [List.mem_singleton.1 hx]; exact .next hRa hl (by simpa using x1) (by simpa using x2) (by simpa using x3)) (fun a b => List.mem_append.2 (.inl (hUj a b))) fun _ _ _ => by simp
      · refine TD.mk' (g.length + 1) (by omega) (by rw [hU.len]) ?_
        rw [List.getElem?_append_right (by omega), show g.length + 1 - g.length = 1 by omega, wrap_succ (by omega)]
        rfl
  · simp only [decide_eq_false_iff_not] at hc
    obtain rfl : T = [] := List.eq_nil_of_length_eq_zero (by omega)
    refine g3 i r hz rfl hr ⟨h.length + (1 + t1.length), 0, r.2.length, false⟩ B _ hC.cl hC.on ⟨by simp [Slc.len, hBl], fun j x hj => ?_⟩
    have hjl := (List.getElem?_eq_some_iff.1 hj).1
    have hb : (h ++ (AObj.arr [(.str p.1), (.int .i64 p.2.1), s.av] 3 false :: (t1 ++ (AObj.arr (B.map AV.bool) 1 false :: t2))))[h.length + (1 + t1.length)]? = some (.arr (B.map AV.bool) 1 false) := by
      rw [List.getElem?_append_right (by omega), show h.length + (1 + t1.length) - h.length = t1.length + 1 by omega, List.getElem?_cons_succ, List.getElem?_append_right (Nat.le_refl _), Nat.sub_self]
      rfl
    simp only [rdCells, hb]
    rw [if_pos (by simp; omega)]
    congr 1
    rw [Nat.zero_add, Nat.mul_one]
    apply List.ext_getElem?
    intro n
    rw [List.getElem?_take]
    split
    · rename_i hn
      obtain rfl : n = 0 := by omega
      rw [List.getElem?_drop, Nat.add_zero, List.getElem?_map, hj]
      rfl
    · rw [List.getElem?_eq_none (by simp [encB]; omega)]

theorem good_all {p : ProgT} {i : Nat} {r : Rout} (hz : checkV p = 0) (hr : p.2.2[i]? = some r) : GoodC r.2 ∧ ∀ l ∈ r.2, validL l r.2.length = true := by
  have hw : wrongV r.2 = false := by
    have := List.any_eq_false.1 (check_zero hz) r (List.mem_of_getElem? hr)
    simpa using this
  refine ⟨goodC_of hw, ?_⟩
  unfold wrongV at hw
  simp only [Bool.or_eq_false_iff] at hw
  intro l hl
  have := List.any_eq_false.1 hw.2.1 l hl
  simpa using this
theorem op_range {l : List Int} {n : Nat} (h : validL l n = true) : 0 ≤ l.getD 0 0 ∧ l.getD 0 0 < 26 := by
  unfold validL validV inOp at h
  simp only [Bool.and_eq_true, decide_eq_true_eq] at h
  omega
theorem hit_succ {c : List (List Int)} {k : Nat} {l : List Int} {a : Int} (h : c[k]? = some l) : hitR (c.take (k + 1)) a = (hitR (c.take k) a || (hasV (l.getD 0 0) 76 && l.getD 10 0 == a)) := by
  unfold hitR
  rw [List.take_add_one, h, List.any_append]
  simp

theorem rtargets_d {p : ProgT} {routine : Int} {s : Slc} {h : Heap} (hs : ProgOn h s p.2.2) (hk : Few p.2.2) {P : AV → Heap → Prop}
    (g1 : checkV p ≠ 0 → ∀ t, P (.tuple [.nilslice, .int .i64 (checkV p)]) t) (g2 : checkV p = 0 → (routine < 0 ∨ routine ≥ ((p.2.2.length : Nat) : Int)) → ∀ t, P (.tuple [.nilslice, .int .i64 1]) t)
    (g3 : ∀ (i : Nat) r, checkV p = 0 → routine = (i : Int) → p.2.2[i]? = some r → ∀ (z : Slc) t, Sl (h ++ t) z 1 enI (targR r.2 r.2.length) → P (.tuple [z.av, .int .i64 0]) t) : CallE KF 70 [pAV p s, .int .i64 routine] h P := by
  refine d70 (by kernel_rfl) ?_
  unfold D70
  refine CallE.lift le_df (rcheck_d (p := p) hs.ext hk.bnd fun t1 => ⟨_, rfl, fun q => g1 (by simpa using q) _, fun q => ?_⟩)
  have hz : checkV p = 0 := by simpa using q
  obtain ⟨qs, h1, h2, h3⟩ := hs.rows
  rw [h1.len, h2]
  refine ⟨fun q1 => ⟨fun q2 => g2 hz (.inr (by simpa using q2)) _, fun q2 => ?_⟩, fun q1 => g2 hz (.inl (by simpa using q1)) _⟩
  simp only [decide_eq_false_iff_not] at q1 q2
  obtain ⟨i, rfl⟩ : ∃ i : Nat, routine = (i : Int) := ⟨routine.toNat, by omega⟩
  have hi : i < p.2.2.length := by omega
  obtain ⟨r, hr⟩ := lt_len rfl hi
  obtain ⟨q, hq⟩ := lt_len h2.symm hi
  obtain ⟨k1, k2⟩ := h3 i q r hq hr
  have hcl := hk.code r (List.mem_of_getElem? hr)
  obtain ⟨hg, hval⟩ := good_all hz hr
  refine ⟨⟨by omega, by omega⟩, q.2, h1.cell hq rfl, ?_⟩
  rw [k2.len]
  refine ⟨fun (m : Nat) (l : Slc) (x : Int) (t : Heap) => ∃ j : Nat, x = (j : Int) ∧ m + j = r.2.length ∧ TX (h.length + (1 + t1.length)) t l (targR r.2 j), ⟨r.2.length, 0, rfl, rfl, .inl ⟨rfl, rfl⟩⟩, ?_⟩
  rintro m l _ t2 ⟨j, rfl, hm, hT⟩
  have hTl : (targR r.2 j).length ≤ j := by
    unfold targR
    rw [List.length_map]
    exact Nat.le_trans (List.length_filter_le _ _) (by simp)
  refine ⟨fun hc => ?_, fun hc => ?_⟩
  · simp only [decide_eq_true_eq] at hc
    refine ⟨fun (m2 : Nat) (is1 : Bool) (x : Int) (t : Heap) => ∃ k : Nat, x = (k : Int) ∧ m2 + k = r.2.length ∧ is1 = hitR (r.2.take k) (j : Int), ⟨r.2.length, 0, rfl, rfl, rfl⟩, ?_⟩
    rintro m2 is1 _ t3 ⟨k, rfl, hm2, his⟩
    refine ⟨fun hc2 => ?_, fun hc2 => ?_⟩
    · simp only [decide_eq_true_eq] at hc2
      obtain ⟨c, hck⟩ := lt_len rfl (show k < r.2.length by omega)
      have hv := hval c (List.mem_of_getElem? hck)
      obtain ⟨o1, o2⟩ := op_range hv
      refine ⟨fun e => ⟨⟨by omega, by omega⟩, c.getD 0 0, k2.cell0 hck rfl, CallE.lift le_df (CallE.lift le_cd (asks_ok o1 o2 fun t4 => ⟨_, rfl, fun b2 => ⟨⟨by omega, by omega⟩, c.getD 10 0, k2.cell (c := 10) hck rfl, m2 - 1, by omega, k + 1, wrap_succ (by omega), by omega, ?_⟩, fun b2 => ⟨m2 - 1, by omega, k + 1, wrap_succ (by omega), by omega, ?_⟩⟩))⟩, fun e => ⟨m2 - 1, by omega, k + 1, wrap_succ (by omega), by omega, ?_⟩⟩
      · rw [hit_succ hck, ← his, e, b2]
        simp
      · rw [hit_succ hck, ← his, e, b2]
        simp
      · rw [hit_succ hck, ← his, e]
        simp
    · simp only [decide_eq_false_iff_not] at hc2
      rw [List.take_of_length_le (by omega)] at his
      refine ⟨fun e => ?_, fun e => ⟨m - 1, by omega, j + 1, wrap_succ (by omega), by omega, ?_⟩⟩
      · obtain ⟨g, hg'⟩ := hT.take
        rw [hT.len]
        refine ⟨_, g, hg', by omega, m - 1, by omega, j + 1, wrap_succ (by omega), by omega, ?_⟩
        rw [targR_succ, if_pos (by rw [← his, e])]
        refine TX.mk' (g.length + (t3.length + 1)) (by omega) rfl ?_
        rw [List.getElem?_append_right (by omega), List.getElem?_append_right (by omega), show g.length + (t3.length + 1) - g.length - t3.length = 1 by omega]
        rfl
      · rw [targR_succ, if_neg (by rw [← his, e]; simp), List.append_nil]
        exact hT.more
  · simp only [decide_eq_false_iff_not] at hc
    obtain rfl : j = r.2.length := by omega
    have hp : (h ++ (AObj.arr [(.str p.1), (.int .i64 p.2.1), s.av] 3 false :: t1)).length = h.length + (1 + t1.length) := by simp; omega
    refine g3 i r hz rfl hr l _ ?_
    have := TX.sl (p := h ++ (AObj.arr [(.str p.1), (.int .i64 p.2.1), s.av] 3 false :: t1)) (by rw [hp]; exact hT)
    simpa [List.append_assoc] using this

theorem rreached_d {p : ProgT} {routine : Int} {s : Slc} {h : Heap} (hs : ProgOn h s p.2.2) (hk : Few p.2.2) {P : AV → Heap → Prop}
    (g1 : checkV p ≠ 0 → ∀ t, P (.tuple [.nilslice, .int .i64 (checkV p)]) t) (g2 : checkV p = 0 → (routine < 0 ∨ routine ≥ ((p.2.2.length : Nat) : Int)) → ∀ t, P (.tuple [.nilslice, .int .i64 1]) t)
    (g3 : ∀ (i : Nat) r, checkV p = 0 → routine = (i : Int) → p.2.2[i]? = some r → ∀ (z : Slc) (B : List Bool) t, Closed r.2 B [] → Only r.2 B → Sl (h ++ t) z 1 encB B → P (.tuple [z.av, .int .i64 0]) t) : CallE KF 71 [pAV p s, .int .i64 routine] h P := by
  refine d71 (by kernel_rfl) ?_
  unfold D71
  refine CallE.lift le_df (rcheck_d (p := p) hs.ext hk.bnd fun t1 => ⟨_, rfl, fun q => g1 (by simpa using q) _, fun q => ?_⟩)
  have hz : checkV p = 0 := by simpa using q
  obtain ⟨qs, h1, h2, h3⟩ := hs.rows
  rw [h1.len, h2]
  refine ⟨fun q1 => ⟨fun q2 => g2 hz (.inr (by simpa using q2)) _, fun q2 => ?_⟩, fun q1 => g2 hz (.inl (by simpa using q1)) _⟩
  simp only [decide_eq_false_iff_not] at q1 q2
  obtain ⟨i, rfl⟩ : ∃ i : Nat, routine = (i : Int) := ⟨routine.toNat, by omega⟩
  have hi : i < p.2.2.length := by omega
  obtain ⟨r, hr⟩ := lt_len rfl hi
  obtain ⟨q, hq⟩ := lt_len h2.symm hi
  obtain ⟨k1, k2⟩ := h3 i q r hq hr
  have hcl := hk.code r (List.mem_of_getElem? hr)
  obtain ⟨hg, hval⟩ := good_all hz hr
  have hpos := hg.pos
  refine ⟨⟨by omega, by omega⟩, q.2, h1.cell hq rfl, ?_⟩
  rw [k2.len]
  refine ⟨⟨by omega, rfl, by omega⟩, ⟨by omega, by simp; omega⟩, by simp; omega, ?_⟩
  refine ⟨fun (m : Nat) (x : Int) (c1 : List AV) (t : Heap) => ∃ (n : Nat) (B : List Bool), x = (n : Int) ∧ m + n = r.2.length ∧ c1 = B.map AV.bool ∧ B.length = r.2.length ∧ Only r.2 B ∧ B[0]? = some true ∧ (Closed r.2 B [] ∨ B.count false + n + 1 ≤ r.2.length), ⟨r.2.length, 0, (List.replicate r.2.length false).set 0 true, rfl, rfl, ?_, by simp, ?_, ?_, .inr ?_⟩, ?_⟩
  · rw [mk_false, setCells_one, List.map_set]
    simp
  · intro x hx
    by_cases e : 0 = x
    · subst e; exact .start
    · rw [List.getElem?_set_ne e, List.getElem?_replicate] at hx
      split at hx <;> cases hx
  · rw [List.getElem?_set_self (by simpa using hpos)]
  · have hc : ((List.replicate r.2.length false).set 0 true).count false + 1 = (List.replicate r.2.length false).count false := count_set_lt _ 0 (by simp [List.getD_eq_getElem?_getD, List.getElem?_replicate, hpos])
    rw [List.count_replicate_self] at hc
    omega
  rintro m _ _ t2 ⟨n, B, rfl, hm, rfl, hBl, hBo, hB0, hBc⟩
  refine ⟨fun hc => ?_, fun hc => ?_⟩
  · simp only [decide_eq_true_eq] at hc
    refine ⟨fun (m2 : Nat) (x : Int) (c2 : List AV) (t : Heap) => ∃ (j : Nat) (C : List Bool), x = (j : Int) ∧ m2 + j = r.2.length ∧ c2 = C.map AV.bool ∧ Rnd r.2 B j C, ⟨r.2.length, 0, B, rfl, rfl, rfl, hBl, hBo, fun x hx => hx, .inr ⟨rfl, fun j hj => absurd hj (Nat.not_lt_zero j)⟩⟩, ?_⟩
    rintro m2 _ _ t3 ⟨j, C, rfl, hm2, rfl, hR⟩
    have hCl := hR.1
    refine ⟨fun hc2 => ?_, fun hc2 => ?_⟩
    · simp only [decide_eq_true_eq] at hc2
      have hj : j < r.2.length := by omega
      obtain ⟨l, hl⟩ := lt_len rfl hj
      obtain ⟨b, hb⟩ := lt_len (show C.length = C.length from rfl) (show j < C.length by omega)
      have hv := hval l (List.mem_of_getElem? hl)
      obtain ⟨o1, o2⟩ := op_range hv
      refine ⟨⟨by omega, by simp; omega⟩, b, ?_, fun e => ⟨m2 - 1, by omega, j + 1, C, wrap_succ (by omega), by omega, rfl, hR.skip fun l' hb' => ?_⟩, fun e => ?_⟩
      · simp only [partOf, Int.toNat_natCast, Nat.mul_one, Nat.zero_add, List.getElem?_map, hb, Option.map_some]
      · rw [hb] at hb'
        cases hb'
        cases e
      have hbt : b = true := by simpa using e
      subst hbt
      have hRj : Rch r.2 j := hR.2.1 j hb
      refine ⟨fun (c3 : List AV) (t : Heap) => ∃ D : List Bool, c3 = D.map AV.bool ∧ Rnd r.2 B j D ∧ D[j]? = some true ∧ (7 ≤ l.getD 0 0 → l.getD 0 0 ≤ 11 → D[(l.getD 10 0).toNat]? = some true), ?_, ?_⟩
      · refine ⟨⟨by omega, by omega⟩, l.getD 0 0, k2.cell0 hl rfl, CallE.lift le_df (CallE.lift le_cd (asks_ok o1 o2 fun t4 => ⟨_, rfl, fun b2 => ?_, fun b2 => ⟨C, rfl, hR, hb, fun e1 e2 => ?_⟩⟩))⟩
        · rw [jump_has hv] at b2
          simp only [jumpI, Bool.and_eq_true, decide_eq_true_eq] at b2
          have hto := hg.jump j l hl (by omega) (by omega)
          refine ⟨⟨by omega, by omega⟩, l.getD 10 0, k2.cell (c := 10) hl rfl, ⟨by omega, by rw [Int.toNat_natCast]; exact hto.2⟩, by rw [List.length_map]; omega, ?_⟩
          obtain ⟨r1, r2, r3⟩ := hR.set (a := (l.getD 10 0).toNat) (.jump hRj hl (by omega) (by omega)) (by omega)
          refine ⟨C.set (l.getD 10 0).toNat true, ?_, r1, r3 j hb, fun _ _ => r2⟩
          rw [setCells_one, Nat.zero_add, Nat.mul_one, ← List.map_set]
        · rw [hasL e1 e2] at b2
          cases b2
      · rintro _ t5 ⟨D, rfl, hD, hDj, hDt⟩
        have hDl := hD.1
        have done : ∀ E : List Bool, Rnd r.2 B j E → (∀ x : Nat, D[x]? = some true → E[x]? = some true) → (l.getD 0 0 ≠ 10 → l.getD 0 0 ≠ 12 → l.getD 0 0 ≠ 25 → E[j + 1]? = some true) → Rnd r.2 B (j + 1) E := fun E hE hle hn => hE.skip fun l' _ hl' => by
          rw [hl] at hl'
          cases hl'
          exact ⟨fun e1 e2 => hle _ (hDt e1 e2), hn⟩
        have stop : (l.getD 0 0 = 10 ∨ l.getD 0 0 = 12 ∨ l.getD 0 0 = 25) → ∃ n7, n7 < m2 ∧ ∃ (j' : Nat) (C' : List Bool), ((j + 1 : Nat) : Int) = (j' : Int) ∧ n7 + j' = r.2.length ∧ D.map AV.bool = C'.map AV.bool ∧ Rnd r.2 B j' C' := fun e =>
          ⟨m2 - 1, by omega, j + 1, D, rfl, by omega, rfl, done D hD (fun x hx => hx) fun a b c => by omega⟩
        rw [wrap_succ (by omega)]
        refine ⟨fun c1 => ⟨⟨by omega, by omega⟩, l.getD 0 0, k2.cell0 hl rfl, fun x1 => ⟨⟨by omega, by omega⟩, l.getD 0 0, k2.cell0 hl rfl, fun x2 => ⟨⟨by omega, by omega⟩, l.getD 0 0, k2.cell0 hl rfl, fun x3 => ?_, fun x3 => stop (.inr (.inr (by simpa using x3)))⟩, fun x2 => stop (.inr (.inl (by simpa using x2)))⟩, fun x1 => stop (.inl (by simpa using x1))⟩, fun c1 => stop ?_⟩
        · simp only [decide_eq_true_eq] at c1
          refine ⟨⟨by omega, by simp; omega⟩, by simp; omega, ?_⟩
          obtain ⟨r1, r2, r3⟩ := hD.set (a := j + 1) (.next hRj hl (by simpa using x1) (by simpa using x2) (by simpa using x3)) (by omega)
          refine ⟨m2 - 1, by omega, j + 1, D.set (j + 1) true, rfl, by omega, ?_, done _ r1 r3 fun _ _ _ => r2⟩
          rw [setCells_one, Nat.zero_add, Nat.mul_one, Int.toNat_natCast, ← List.map_set]
        · simp only [decide_eq_false_iff_not] at c1
          exact hg.last l (by rw [show r.2.length - 1 = j by omega]; exact hl)
    · simp only [decide_eq_false_iff_not] at hc2
      obtain rfl : j = r.2.length := by omega
      exact ⟨m - 1, by omega, n + 1, C, wrap_succ (by omega), by omega, rfl, hCl, hR.2.1, hR.2.2.1 0 hB0, rnd_end hR hB0 hBc⟩
  · simp only [decide_eq_false_iff_not] at hc
    have hclo : Closed r.2 B [] := by
      rcases hBc with h | h
      · exact h
      · omega
    refine g3 i r hz rfl hr ⟨h.length + (1 + t1.length), 0, r.2.length, false⟩ B _ hclo hBo (row_slB ?_ hBl.symm)
    rw [List.getElem?_append_right (by omega), show h.length + (1 + t1.length) - h.length = t1.length + 1 by omega, List.getElem?_cons_succ, List.getElem?_append_right (Nat.le_refl _), Nat.sub_self]
    rfl

theorem codeFinds_ok {p : ProgT} {routine : Int} {name : List UInt8} {s : Slc} {h : Heap} (hs : ProgF h s p.2.2) (hk : SmallP p) {P : AV → Heap → Prop} (hP : ∀ t, P (.bool true) t) : CallE KF 23 [pAV p s, .int .i64 routine, .str name] h P := by
  refine d23 (by kernel_rfl) ?_
  unfold D23
  have sane : ∀ {H : Heap} {P : AV → Heap → Prop}, (∀ t, P (.bool true) t) → CallE KF 51 [] H P := fun hP => CallE.lift le_df (sane_d hP)
  refine CallE.lift le_df (large_ok hs.ext.on hk fun b t1 hb => ⟨b, rfl, fun b1 => ⟨fun _ => sane fun t2 => ⟨_, rfl, hP _⟩, fun _ => ?_⟩, fun b1 => sane fun t2 => ⟨_, rfl, hP _⟩⟩)
  have hf : Few p.2.2 := ⟨(hb b1).1, (hb b1).2⟩
  refine find_d hs.ext.on hf fun t3 => ⟨_, _, rfl, rfind_d (p := p) hs.ext.on hf fun t4 => ⟨_, _, rfl, ?_⟩⟩
  by_cases hz : checkV p = 0
  · by_cases hr : routine < 0 ∨ routine ≥ ((p.2.2.length : Nat) : Int)
    · have out : ∀ (i : Nat) (r : Rout), routine = (i : Int) → p.2.2[i]? = some r → False := fun i r e hi => by
        have := (List.getElem?_eq_some_iff.1 hi).1
        omega
      refine targets_d (p := p) hs.ext.on hf (fun c => absurd hz c) (fun _ _ t5 => ⟨⟨0, 0, 0, true⟩, _, rfl, ?_⟩) (fun i r _ e hi => (out i r e hi).elim)
      refine rtargets_d (p := p) hs.ext.on hf (fun c => absurd hz c) (fun _ _ t6 => ⟨⟨0, 0, 0, true⟩, _, rfl, ?_⟩) (fun i r _ e hi => (out i r e hi).elim)
      refine reached2_ok (p := p) hs.ext.on hf (fun c => absurd hz c) (fun _ _ t7 => ⟨⟨0, 0, 0, true⟩, _, rfl, ?_⟩) (fun i r _ e hi => (out i r e hi).elim)
      refine rreached_d (p := p) hs.ext.on hf (fun c => absurd hz c) (fun _ _ t8 => ⟨⟨0, 0, 0, true⟩, _, rfl, ?_⟩) (fun i r _ e hi => (out i r e hi).elim)
      refine ⟨fun _ => ⟨fun _ => ⟨fun _ => ⟨fun _ => ?_, fun e => by simp at e⟩, fun e => by simp at e⟩, fun e => by simp at e⟩, fun e => by simp at e⟩
      exact ints_same (l := []) ⟨rfl, fun i x hx => by cases hx⟩ ⟨rfl, fun i x hx => by cases hx⟩ (by simp) fun t9 => ⟨_, rfl, fun _ => bools_same (l := []) ⟨rfl, fun i x hx => by cases hx⟩ ⟨rfl, fun i x hx => by cases hx⟩ (by simp) fun t10 => ⟨_, rfl, fun _ => sane fun t11 => ⟨_, rfl, hP _⟩, fun e => by cases e⟩, fun e => by cases e⟩
    · obtain ⟨i, rfl⟩ : ∃ i : Nat, routine = (i : Int) := ⟨routine.toNat, by omega⟩
      obtain ⟨r, hi⟩ := lt_len rfl (show i < p.2.2.length by omega)
      have hcl := hf.code r (List.mem_of_getElem? hi)
      have same : ∀ {j : Nat} {r' : Rout}, (i : Int) = (j : Int) → p.2.2[j]? = some r' → r' = r := fun {j r'} e h' => by
        have : i = j := by omega
        subst this
        rw [hi] at h'
        cases h'
        rfl
      have hTl : (targR r.2 r.2.length).length ≤ 1000000 := by
        have : (targR r.2 r.2.length).length ≤ r.2.length := by
          unfold targR
          rw [List.length_map]
          exact Nat.le_trans (List.length_filter_le _ _) (by simp)
        omega
      refine targets_d (p := p) hs.ext.on hf (fun c => absurd hz c) (fun _ c => absurd c hr) (fun j r' _ e h' z1 t5 s1 => ?_)
      obtain rfl := same e h'
      refine ⟨z1, _, rfl, rtargets_d (p := p) hs.ext.on hf (fun c => absurd hz c) (fun _ c => absurd c hr) (fun j2 r2 _ e2 h2 z2 t6 s2 => ?_)⟩
      obtain rfl := same e2 h2
      refine ⟨z2, _, rfl, reached2_ok (p := p) hs.ext.on hf (fun c => absurd hz c) (fun _ c => absurd c hr) (fun j3 r3 _ e3 h3 z3 B t7 c3 o3 s3 => ?_)⟩
      obtain rfl := same e3 h3
      refine ⟨z3, _, rfl, rreached_d (p := p) hs.ext.on hf (fun c => absurd hz c) (fun _ c => absurd c hr) (fun j4 r4 _ e4 h4 z4 C t8 c4 o4 s4 => ?_)⟩
      obtain rfl := same e4 h4
      obtain rfl := reach_same c3 o3 c4 o4
      have hBl := c3.len
      refine ⟨z4, _, rfl, ?_⟩
      refine ⟨fun _ => ⟨fun _ => ⟨fun _ => ⟨fun _ => ?_, fun e => by simp at e⟩, fun e => by simp at e⟩, fun e => by simp at e⟩, fun e => by simp at e⟩
      exact ints_same (s1.ext) (s2.ext) hTl fun t9 => ⟨_, rfl, fun _ => bools_same (s3.ext) (s4.ext) (by omega) fun t10 => ⟨_, rfl, fun _ => sane fun t11 => ⟨_, rfl, hP _⟩, fun e => by cases e⟩, fun e => by cases e⟩
  · refine targets_d (p := p) hs.ext.on hf (fun _ t5 => ⟨⟨0, 0, 0, true⟩, _, rfl, ?_⟩) (fun c => absurd c hz) (fun i r c => absurd c hz)
    refine rtargets_d (p := p) hs.ext.on hf (fun _ t6 => ⟨⟨0, 0, 0, true⟩, _, rfl, ?_⟩) (fun c => absurd c hz) (fun i r c => absurd c hz)
    refine reached2_ok (p := p) hs.ext.on hf (fun _ t7 => ⟨⟨0, 0, 0, true⟩, _, rfl, ?_⟩) (fun c => absurd c hz) (fun i r c => absurd c hz)
    refine rreached_d (p := p) hs.ext.on hf (fun _ t8 => ⟨⟨0, 0, 0, true⟩, _, rfl, ?_⟩) (fun c => absurd c hz) (fun i r c => absurd c hz)
    refine ⟨fun _ => ⟨fun _ => ⟨fun _ => ⟨fun _ => ?_, fun e => by simp at e⟩, fun e => by simp at e⟩, fun e => by simp at e⟩, fun e => by simp at e⟩
    exact ints_same (l := []) ⟨rfl, fun i x hx => by cases hx⟩ ⟨rfl, fun i x hx => by cases hx⟩ (by simp) fun t9 => ⟨_, rfl, fun _ => bools_same (l := []) ⟨rfl, fun i x hx => by cases hx⟩ ⟨rfl, fun i x hx => by cases hx⟩ (by simp) fun t10 => ⟨_, rfl, fun _ => sane fun t11 => ⟨_, rfl, hP _⟩, fun e => by cases e⟩, fun e => by cases e⟩
end Go.Proofs.YtifkphfhadimaaaGreatDoor.Mini

