import Derived.Test.YtcjhjphmlfkikaaDoorHcA
set_option linter.unusedVariables false
set_option linter.unusedSimpArgs false
set_option maxRecDepth 100000
namespace Go.Proofs.YtcjhjphmlfkikaaDoor.Mini
open Go.Abs

def encS (q : Sp) : List AV := [.int .i64 q.th, .int .i64 q.ix, .str q.call.op, .int .i64 q.call.x, .int .i64 q.call.y, .int .i64 q.fr, .int .i64 q.to, .int .i64 q.res]
theorem encS_len (q : Sp) : (encS q).length = 8 := rfl
theorem set_flat {α : Type} {f : α → List AV} {es j : Nat} {v : AV} (hf : ∀ x, (f x).length = es) (hj : j < es) : ∀ {L : List α} {k : Nat} {q q' : α}, L[k]? = some q → f q' = (f q).set j v → (L.flatMap f).set (k * es + j) v = (L.set k q').flatMap f
  | [], k, q, q', h, _ => by simp at h
  | y :: L, 0, q, q', h, e => by
    simp only [List.getElem?_cons_zero, Option.some.injEq] at h
    subst h
    rw [Nat.zero_mul, Nat.zero_add, List.set_cons_zero, List.flatMap_cons, List.flatMap_cons, e, List.set_append_left _ _ (by rw [hf]; exact hj)]
  | y :: L, k + 1, q, q', h, e => by
    have e1 : (k + 1) * es + j = (f y).length + (k * es + j) := by rw [hf y, Nat.add_mul]; omega
    rw [List.set_cons_succ, List.flatMap_cons, List.flatMap_cons, e1, List.set_append_right _ _ (by omega), Nat.add_sub_cancel_left, set_flat hf hj (by simpa using h) e]
theorem rd_keep {H : Heap} {i o : Nat} {c : List AV} {es : Nat} {ro : Bool} {v : AV} (h : H[i]? = some (.arr c es ro)) (hv : c[o]? = some v) : rdVar H none i o = some v := by
  have hlt := (List.getElem?_eq_some_iff.1 hv).1
  simp only [rdVar, rdCells, h]
  rw [if_pos (by omega)]
  have := List.drop_eq_getElem_cons hlt
  rw [this]
  have e := (List.getElem?_eq_some_iff.1 hv).2
  simp [e]
theorem rd_part {H : Heap} {b o n : Nat} {L : List AV} (h : rdCells H b o n = some L) {i m : Nat} (hi : i + m ≤ n) : rdCells H b (o + i) m = some ((L.drop i).take m) := by
  unfold rdCells at h ⊢
  split at h
  · split at h
    · rename_i hle
      cases h
      rw [if_pos (by omega), List.drop_take, List.drop_drop, List.take_take]
      congr 2
      omega
    · cases h
  · cases h
theorem ow_more {base : Nat} {t u : Heap} {s : Slc} {es : Nat} {c : List AV} (k : Ow base t s es c) : Ow base (t ++ u) s es c := by
  rcases k with h | ⟨h1, h2, h3, i, h4, h5⟩
  · exact .inl h
  · exact .inr ⟨h1, h2, h3, i, h4, by rw [List.getElem?_append_left (List.getElem?_eq_some_iff.1 h5).1]; exact h5⟩
theorem setCells_one' {α : Type} (l : List α) (i : Nat) (v : α) : setCells l i [v] = l.set i v := rfl
theorem at_more {t u : Heap} {i : Nat} {o : AObj} (h : t[i]? = some o) : (t ++ u)[i]? = some o := by
  rw [List.getElem?_append_left (List.getElem?_eq_some_iff.1 h).1]
  exact h
theorem at_two {h t : Heap} {x y : AObj} : ∀ k o, t[k]? = some o → (h ++ (x :: y :: t))[h.length + (1 + 1) + k]? = some o := fun k o hk => by
  rw [List.getElem?_append_right (by omega), show h.length + (1 + 1) + k - h.length = (k + 1) + 1 by omega, List.getElem?_cons_succ, List.getElem?_cons_succ]
  exact hk
theorem wr_row {g : Heap} {k o : Nat} {c : List AV} {es : Nat} {v : AV} (h : g[k]? = some (.arr c es false)) (ho : o + 1 ≤ c.length) : wrCells g k o [v] = some (g.set k (.arr (c.set o v) es false)) := by
  simp only [wrCells, h, List.length_cons, List.length_nil]
  rw [if_pos (by omega)]
  rfl

def encI (n : Int) : AV := .int .i64 n
structure Lay (base : Nat) (t : Heap) (l : Slc) (s : St) : Prop where
  opn : t[0]? = some (.arr (s.opn.map encI) 1 false)
  row : Ow base t l 8 (s.l.flatMap encS)
theorem Lay.more {base : Nat} {t u : Heap} {l : Slc} {s : St} (k : Lay base t l s) : Lay base (t ++ u) l s := ⟨at_more k.opn, ow_more k.row⟩
theorem Lay.len {base : Nat} {t : Heap} {l : Slc} {s : St} (k : Lay base t l s) : l.len = s.l.length := by
  have := k.row.len
  rw [flatMap_len encS_len] at this
  exact Nat.eq_of_mul_eq_mul_right (by decide) this
theorem Lay.at {base : Nat} {t : Heap} {l : Slc} {s : St} (k : Lay base t l s) (hne : s.l ≠ []) : l.nil = false ∧ l.o = 0 ∧ l.n = s.l.length ∧ ∃ i, l.b = base + i ∧ i ≠ 0 ∧ t[i]? = some (.arr (s.l.flatMap encS) 8 false) := by
  have hlen := k.len
  rcases k.row with ⟨h1, h2⟩ | ⟨h1, h2, h3, i, h4, h5⟩
  · exfalso
    apply hne
    have := flatMap_len encS_len s.l
    rw [h2] at this
    exact List.eq_nil_of_length_eq_zero (by simp at this; omega)
  · refine ⟨h1, h2, ?_, i, h4, (fun e => ?_), h5⟩
    · simpa [Slc.len, h1] using hlen
    · rw [e, k.opn] at h5
      simp at h5
theorem map_at {l : List Int} {i : Nat} (hi : i < l.length) : (l.map encI)[i]? = some (encI (l.getD i 0)) := by
  rw [List.getElem?_map, List.getD_eq_getElem?_getD, List.getElem?_eq_getElem hi]
  rfl

def CntLe (s : St) : Prop := ∀ t : Nat, 0 ≤ s.cnt.getD t 0 ∧ s.cnt.getD t 0 ≤ (s.l.length : Int)
theorem cnt_start : CntLe St.start := fun t => by
  have : St.start.cnt.getD t 0 = 0 := by
    match t with
    | 0 => rfl
    | 1 => rfl
    | 2 => rfl
    | 3 => rfl
    | n + 4 => rfl
  rw [this]
  exact ⟨Int.le_refl _, Int.natCast_nonneg _⟩
theorem cnt_call {s : St} {i : Nat} {L : List Sp} {o : List Int} (k : CntLe s) (hi : i < s.cnt.length) (hL : L.length = s.l.length + 1) : CntLe ⟨L, s.cnt.set i (s.cnt.getD i 0 + 1), o⟩ := fun t => by
  simp only
  rw [getD_set hi]
  have := k i
  have := k t
  split <;> omega
theorem spans_d {hl : List Ev} {s0 : Slc} {h : Heap} (hs : Sl h s0 7 encE hl) (hlen : hl.length ≤ 140737488355327) {P : AV → Heap → Prop} (g1 : spansV hl = none → ∀ t, P (.tuple [.nilslice, .bool false]) t)
    (g2 : ∀ l, spansV hl = some l → ∀ (z : Slc) t, Sl (h ++ t) z 8 encS l → P (.tuple [z.av, .bool true]) t) : CallE KH 42 [s0.av] h P := by
  refine d42 (by kernel_rfl) ?_
  unfold D42
  refine rep_ok (by rw [List.getElem?_append_right (by omega), Nat.add_sub_cancel_left]; rfl) ?_
  refine ⟨⟨_, 0, 4, false⟩, rfl, ?_⟩
  rw [show (h ++ (AObj.arr [(.int .i64 0), (.int .i64 0), (.int .i64 0), (.int .i64 0)] 1 false :: [AObj.arr [(.int .i64 (-1))] 1 false])).length = h.length + (1 + 1) by simp]
  refine ⟨fun (m : Nat) (l : Slc) (x : Int) (c : List AV) (t : Heap) => ∃ (n : Nat) (s : St) (r : Rt), x = (n : Int) ∧ m + n = hl.length ∧ runL stepV (hl.take n) (0, St.start) = some (n, s) ∧ Rel s r ∧ CntLe s ∧ c = s.cnt.map encI ∧ Lay (h.length + (1 + 1)) t l s,
    ⟨hl.length, 0, St.start, Rt.start, rfl, rfl, rfl, rel_start, cnt_start, rfl, ⟨rfl, .inl ⟨rfl, rfl⟩⟩⟩, ?_⟩
  rintro m l _ _ t2 ⟨n, s, r, rfl, hm, hrun, hrel, hcl, rfl, hlay⟩
  rw [hs.len]
  refine ⟨fun hc => ?_, fun hc => ?_⟩
  · simp only [decide_eq_true_eq] at hc
    have hn : n < hl.length := by omega
    obtain ⟨e, he⟩ := lt_len rfl hn
    have none_of : stepV (n, s) e = none → ∀ t, P (.tuple [.nilslice, .bool false]) t := fun hz => g1 (by
      unfold spansV
      rw [runL_none (i := n + 1) (by rw [runL_take he, hrun]; exact hz)]
      rfl)
    have bad : okE e = false → ∀ t, P (.tuple [.nilslice, .bool false]) t := fun hz => none_of (by unfold stepV; rw [if_pos hz])
    refine ⟨⟨by omega, by omega⟩, e.th, e.ix, e.ret, e.call.op, e.call.x, e.call.y, e.res, hs.agg he, fun p1 => ⟨fun p2 => ?_, fun p2 => bad ?_ _⟩, fun p1 => bad ?_ _⟩
    rotate_left
    · simp only [decide_eq_true_eq] at p2
      have : decide (e.th < 4) = false := decide_eq_false (by omega)
      simp [okE, this]
    · simp only [decide_eq_true_eq] at p1
      have : decide (0 ≤ e.th) = false := decide_eq_false (by omega)
      simp [okE, this]
    simp only [decide_eq_false_iff_not] at p1 p2
    have w0 : decide (0 ≤ e.th) = true := decide_eq_true (by omega)
    have w4 : decide (e.th < 4) = true := decide_eq_true (by omega)
    refine named_ok fun t3 => ⟨_, rfl, fun p3 => ?_, fun p3 => bad (by simp at p3; simp [okE, p3]) _⟩
    refine word_ok fun t4 => ⟨_, rfl, fun p4 => ?_, fun p4 => bad (by simp at p4; simp [okE, p4]) _⟩
    refine word_ok fun t5 => ⟨_, rfl, fun p5 => ?_, fun p5 => bad (by simp at p5; simp [okE, p5]) _⟩
    refine word_ok fun t6 => ⟨_, rfl, fun p6 => bad (by simp at p6; simp [okE, p6]) _, fun p6 => ?_⟩
    have hok : okE e = true := by
      simp only [Bool.not_eq_false'] at p3 p4 p5 p6
      simp only [okE, w0, w4, p3, p4, p5, p6]
      rfl
    have hok' : ¬ okE e = false := by rw [hok]; simp
    have ht : e.th.toNat < 4 := by omega
    have hopn : (s.opn.map encI)[0 + e.th.toNat * 1]? = some (.int .i64 (s.opn.getD e.th.toNat 0)) := by
      rw [Nat.zero_add, Nat.mul_one]
      exact map_at (by rw [hrel.lo]; exact ht)
    have hcnt : partOf none (s.cnt.map encI) (0 + e.th.toNat * 1) = some (.int .i64 (s.cnt.getD e.th.toNat 0)) := by
      rw [Nat.zero_add, Nat.mul_one]
      simp only [partOf]
      exact map_at (by rw [hrel.lc]; exact ht)
    have hsl : Sl (h ++ (AObj.arr (s.cnt.map encI) 1 false :: (AObj.arr [(.int .i64 (-1))] 1 false :: t2))) l 8 encS s.l := hlay.row.sl (by decide) encS_len at_two
    have hll := hlay.len
    have l12 := hrel.le
    refine ⟨⟨by omega, by show e.th < ((4 : Nat) : Int); omega⟩, s.opn.getD e.th.toNat 0, rd_keep (es := 1) (ro := false) (c := s.opn.map encI) (by
      have := at_two (h := h) (x := AObj.arr (s.cnt.map encI) 1 false) (y := AObj.arr [(.int .i64 (-1))] 1 false) 0 _ (at_more (u := (AObj.arr [(.int .i64 e.th), (.int .i64 e.ix), (.bool e.ret), (.str e.call.op), (.int .i64 e.call.x), (.int .i64 e.call.y), (.int .i64 e.res)] 7 false :: (t3 ++ (t4 ++ (t5 ++ t6))))) hlay.opn)
      exact this) hopn, fun hr => ⟨fun q1 => ?_, fun q1 => none_of ?_ _⟩, fun hr => ⟨fun q1 => ?_, fun q1 => none_of ?_ _⟩⟩
    · -- a return
      simp only [decide_eq_false_iff_not] at q1
      cases ho : r.opn.getD e.th.toNat false with
      | false => exact absurd (hrel.shut _ ht ho).1 q1
      | true =>
      obtain ⟨_, _, q, hq, _, _, _, _⟩ := hrel.open_ _ ht ho
      obtain ⟨k, hk⟩ : ∃ k : Nat, s.opn.getD e.th.toNat 0 = (k : Int) := ⟨_, (Int.toNat_of_nonneg (by omega)).symm⟩
      rw [hk, Int.toNat_natCast] at hq
      have hkl := (List.getElem?_eq_some_iff.1 hq).1
      obtain ⟨n1, n2, n3, i, n4, n5, n6⟩ := hlay.at (fun e0 => by rw [e0] at hq; simp at hq)
      have hbeq : q.call.beq e.call = ((q.call.op == e.call.op) && ((q.call.x == e.call.x) && ((q.call.y == e.call.y) && true))) := by simp [Cl.beq, Bool.and_assoc]
      rw [hk, hll, Int.toNat_natCast]
      have hcell := hsl.get k q hq
      have base : stepV (n, s) e = if q.call.beq e.call = false then none else if q.ix ≠ e.ix then none else some (n + 1, ⟨s.l.set k { q with to := (n : Int), res := e.res }, s.cnt, s.opn.set e.th.toNat (-1)⟩) := by
        unfold stepV
        rw [if_neg hok']
        simp only [hr, if_true, hk]
        rw [if_neg (by omega), Int.toNat_natCast, hq]
      refine ⟨⟨by omega, by omega⟩, q.call.op, q.call.x, q.call.y, ?_, fun q2 => ?_, fun q2 => none_of ?_ _⟩
      · simp only [rdVar, rd_part hcell (i := 2) (m := 3) (by decide), Option.map_some]
        rfl
      · have hb : q.call.beq e.call = true := by rw [hbeq]; simpa using q2
        refine ⟨⟨by omega, by omega⟩, q.ix, hsl.cell (c := 1) hq rfl, fun q3 => none_of ?_ _, fun q3 => ?_⟩
        · rw [base, hb, if_neg (by simp), if_pos (by simpa using q3)]
        have hix : q.ix = e.ix := by simpa using q3
        have hst : stepV (n, s) e = some (n + 1, ⟨s.l.set k { q with to := (n : Int), res := e.res }, s.cnt, s.opn.set e.th.toNat (-1)⟩) := by
          rw [base, hb, if_neg (by simp), if_neg (by simpa using hix)]
        have hil := (List.getElem?_eq_some_iff.1 n6).1
        have hfl := flatMap_len encS_len s.l
        have k8 : k * 8 + 8 ≤ (s.l.flatMap encS).length := by rw [hfl]; omega
        obtain ⟨G1, e1⟩ : ∃ G : Heap, G = t2.set i (.arr ((s.l.flatMap encS).set (k * 8 + 6) (.int .i64 (n : Int))) 8 false) := ⟨_, rfl⟩
        obtain ⟨G2, e2⟩ : ∃ G : Heap, G = G1.set i (.arr (((s.l.flatMap encS).set (k * 8 + 6) (.int .i64 (n : Int))).set (k * 8 + 7) (.int .i64 e.res)) 8 false) := ⟨_, rfl⟩
        obtain ⟨G3, e3⟩ : ∃ G : Heap, G = G2.set 0 (.arr ((s.opn.map encI).set e.th.toNat (.int .i64 (-1))) 1 false) := ⟨_, rfl⟩
        refine ⟨⟨n1, by omega⟩, ⟨by omega, by omega⟩, i, G1, n4, ?_, ⟨by omega, by omega⟩, i, G2, n4, ?_, ⟨by omega, by show e.th < ((4 : Nat) : Int); omega⟩, 0, G3, rfl, ?_, ?_⟩
        · rw [n2, Nat.zero_add, e1]
          exact wr_row n6 (by omega)
        · rw [n2, Nat.zero_add, e2]
          exact wr_row (by rw [e1, List.getElem?_set_self hil]) (by rw [List.length_set]; omega)
        · rw [Nat.zero_add, Nat.mul_one, e3]
          refine wr_row (by rw [e2, e1, List.getElem?_set_ne n5, List.getElem?_set_ne n5]; exact hlay.opn) ?_
          rw [List.length_map, hrel.lo]
          omega
        · rcases step_both (n := n) (e := e) hrel with ⟨a, _⟩ | ⟨s', r', a, _, hrel'⟩
          · rw [hst] at a
            cases a
          · rw [hst] at a
            injection a with a
            injection a with _ a
            subst a
            refine ⟨m - 1, by omega, n + 1, _, r', wrap_succ (by omega), by omega, by rw [runL_take he, hrun]; exact hst, hrel', fun t => by simpa using hcl t, rfl, Lay.more ⟨?_, .inr ⟨n1, n2, ?_, i, n4, ?_⟩⟩⟩
            · rw [e3, List.getElem?_set_self (by rw [e2, e1]; simp; omega)]
              rw [List.map_set]
              rfl
            · rw [n3, flatMap_len encS_len, List.length_set]
            · rw [e3, List.getElem?_set_ne (Ne.symm n5), e2, List.getElem?_set_self (by rw [e1]; simpa using hil)]
              rw [set_flat encS_len (by decide) hq (q' := { q with to := (n : Int) }) rfl, set_flat encS_len (by decide) (k := k) (q := { q with to := (n : Int) }) (q' := { q with to := (n : Int), res := e.res }) (List.getElem?_set_self hkl) rfl, List.set_set]
      · have hb : q.call.beq e.call = false := by
          rw [hbeq]
          revert q2
          cases ((q.call.op == e.call.op) && ((q.call.x == e.call.x) && ((q.call.y == e.call.y) && true))) <;> simp
        rw [base, if_pos hb]
    · simp only [decide_eq_true_eq] at q1
      unfold stepV
      rw [if_neg hok']
      simp only [hr, if_true]
      rw [if_pos q1]
    · -- a call
      simp only [decide_eq_false_iff_not] at q1
      have step0 : stepV (n, s) e = if e.ix ≠ s.cnt.getD e.th.toNat 0 then none else if e.res ≠ 0 then none else if s.l.length = 12 then none else
          some (n + 1, ⟨s.l ++ [⟨e.th, e.ix, e.call, (n : Int), -1, 0⟩], s.cnt.set e.th.toNat (s.cnt.getD e.th.toNat 0 + 1), s.opn.set e.th.toNat (s.l.length : Int)⟩) := by
        unfold stepV
        rw [if_neg hok']
        simp only [hr, Bool.false_eq_true, if_false]
        rw [if_neg q1]
      refine ⟨⟨by omega, by omega⟩, s.cnt.getD e.th.toNat 0, hcnt, fun q2 => ⟨fun q3 => ⟨fun q4 => none_of ?_ _, fun q4 => ?_⟩, fun q3 => none_of ?_ _⟩, fun q2 => none_of ?_ _⟩
      · rw [hll] at q4
        simp only [beq_iff_eq] at q4
        rw [step0]
        split
        · rfl
        · split
          · rfl
          · rw [if_pos (by omega)]
      · rw [hll] at q4 ⊢
        have e2 : e.ix = s.cnt.getD e.th.toNat 0 := by simpa using q2
        have e3 : e.res = 0 := by simpa using q3
        have e4 : s.l.length ≠ 12 := by simp only [beq_eq_false_iff_ne, ne_eq] at q4; omega
        have hst : stepV (n, s) e = some (n + 1, ⟨s.l ++ [⟨e.th, e.ix, e.call, (n : Int), -1, 0⟩], s.cnt.set e.th.toNat (s.cnt.getD e.th.toNat 0 + 1), s.opn.set e.th.toNat (s.l.length : Int)⟩) := by
          rw [step0, if_neg (not_not_intro e2), if_neg (not_not_intro e3), if_neg e4]
        have hol := (List.getElem?_eq_some_iff.1 hlay.opn).1
        have row' : Ow (h.length + (1 + 1)) (t2.set 0 (.arr ((s.opn.map encI).set e.th.toNat (.int .i64 ((s.l.length : Nat) : Int))) 1 false)) l 8 (s.l.flatMap encS) := by
          by_cases hne : s.l = []
          · rcases hlay.row with hx | ⟨h1, h2, h3, i, h4, h5⟩
            · exact .inl hx
            · refine .inr ⟨h1, h2, h3, i, h4, ?_⟩
              rw [List.getElem?_set_ne]
              · exact h5
              · intro e0
                rw [← e0, hlay.opn] at h5
                simp at h5
          · obtain ⟨n1, n2, n3, i, n4, n5, n6⟩ := hlay.at hne
            exact .inr ⟨n1, n2, by rw [n3, flatMap_len encS_len], i, n4, by rw [List.getElem?_set_ne (Ne.symm n5)]; exact n6⟩
        refine ⟨⟨by omega, by omega⟩, s.cnt.getD e.th.toNat 0, hcnt, ⟨by omega, by omega⟩, by rw [List.length_map, hrel.lc]; omega, ⟨by omega, by show e.th < ((4 : Nat) : Int); omega⟩, 0, t2.set 0 (.arr ((s.opn.map encI).set e.th.toNat (.int .i64 ((s.l.length : Nat) : Int))) 1 false), rfl, ?_, ?_⟩
        · rw [Nat.zero_add, Nat.mul_one]
          refine wr_row hlay.opn ?_
          rw [List.length_map, hrel.lo]
          omega
        obtain ⟨g, hg⟩ : ∃ g, ((l.nil = true ∧ s.l.flatMap encS = [] ∧ g = t2.set 0 (.arr ((s.opn.map encI).set e.th.toNat (.int .i64 ((s.l.length : Nat) : Int))) 1 false)) ∨ (l.nil = false ∧ ∃ k0 c0, l.b = (h.length + (1 + 1)) + k0 ∧ (t2.set 0 (.arr ((s.opn.map encI).set e.th.toNat (.int .i64 ((s.l.length : Nat) : Int))) 1 false))[k0]? = some (.arr c0 8 false) ∧ l.o + l.n * 8 ≤ c0.length ∧ s.l.flatMap encS = (c0.drop l.o).take (l.n * 8) ∧ g = (t2.set 0 (.arr ((s.opn.map encI).set e.th.toNat (.int .i64 ((s.l.length : Nat) : Int))) 1 false)).set k0 .dead)) := by
          rcases row' with ⟨h1, h2⟩ | ⟨h1, h2, h3, i, h4, h5⟩
          · exact ⟨_, .inl ⟨h1, h2, rfl⟩⟩
          · exact ⟨_, .inr ⟨h1, i, _, h4, h5, by rw [h2, h3]; omega, by rw [h2, h3, List.drop_zero, List.take_of_length_le (Nat.le_refl _)], rfl⟩⟩
        refine ⟨s.l.flatMap encS, g, hg, by omega, m - 1, by omega, ?_⟩
        have g0 : g[0]? = some (.arr ((s.opn.set e.th.toNat ((s.l.length : Nat) : Int)).map encI) 1 false) := by
          rw [List.map_set]
          rcases hg with ⟨_, _, rfl⟩ | ⟨_, k0, c0, _, h5, _, _, rfl⟩
          · rw [List.getElem?_set_self hol]
            rfl
          · rw [List.getElem?_set_ne]
            · rw [List.getElem?_set_self hol]
              rfl
            · intro e0
              rw [e0, List.getElem?_set_self hol] at h5
              simp at h5
        rcases step_both (n := n) (e := e) hrel with ⟨a, _⟩ | ⟨s', r', a, _, hrel'⟩
        · rw [hst] at a
          cases a
        · rw [hst] at a
          injection a with a
          injection a with _ a
          subst a
          refine ⟨n + 1, _, r', wrap_succ (by omega), by omega, by rw [runL_take he, hrun]; exact hst, hrel', cnt_call hcl (by rw [hrel.lc]; exact ht) (by simp), ?_, ⟨at_more g0, .inr ⟨rfl, rfl, ?_, g.length + (1 + (t3.length + (t4.length + (t5.length + (t6.length + 1))))), by simp only []; omega, ?_⟩⟩⟩
          · rw [setCells_one', Nat.zero_add, Nat.mul_one, List.map_set]
            have hw : IntKind.wrap .i64 (s.cnt.getD e.th.toNat 0 + 1) = s.cnt.getD e.th.toNat 0 + 1 := by
              obtain ⟨c0, c1⟩ := hcl e.th.toNat
              have := wrap_succ (i := (s.cnt.getD e.th.toNat 0).toNat) (by omega)
              rw [Int.toNat_of_nonneg c0] at this
              rw [this]
              omega
            rw [hw]
            rfl
          · rw [flatMap_len encS_len]
            simp
          · rw [List.getElem?_append_right (by omega), show g.length + (1 + (t3.length + (t4.length + (t5.length + (t6.length + 1))))) - g.length = (t3.length + (t4.length + (t5.length + (t6.length + 1)))) + 1 by omega, List.getElem?_cons_succ, List.getElem?_append_right (by omega), List.getElem?_append_right (by omega), List.getElem?_append_right (by omega), List.getElem?_append_right (by omega), show t3.length + (t4.length + (t5.length + (t6.length + 1))) - t3.length - t4.length - t5.length - t6.length = 1 by omega, List.flatMap_append]
            rfl
      · rw [step0]
        split
        · rfl
        · rw [if_pos (by simpa using q3)]
      · rw [step0, if_pos (by simpa using q2)]
    · simp only [decide_eq_true_eq] at q1
      unfold stepV
      rw [if_neg hok']
      simp only [hr, Bool.false_eq_true, if_false]
      rw [if_pos q1]
  · simp only [decide_eq_false_iff_not] at hc
    obtain rfl : n = hl.length := by omega
    rw [List.take_length] at hrun
    exact g2 s.l (by unfold spansV; rw [hrun]; rfl) l _ (hlay.row.sl (by decide) encS_len at_two)
end Go.Proofs.YtcjhjphmlfkikaaDoor.Mini

