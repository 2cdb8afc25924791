import Derived.Test.YtcjhjphmlfkikaaDoorHcB
set_option linter.unusedVariables false
set_option linter.unusedSimpArgs false
set_option maxRecDepth 100000
namespace Go.Proofs.YtcjhjphmlfkikaaDoor.Mini
open Go.Abs

def encC (c : Cl) : List AV := [.str c.op, .int .i64 c.x, .int .i64 c.y]
theorem encC_len (c : Cl) : (encC c).length = 3 := rfl
theorem set_call {L : List Cl} {k : Nat} {c : Cl} (hk : k < L.length) : setCells (L.flatMap encC) (k * 3) [.str c.op, .int .i64 c.x, .int .i64 c.y] = (L.set k c).flatMap encC := by
  obtain ⟨q, hq⟩ := lt_len rfl hk
  show (((L.flatMap encC).set (k * 3) (.str c.op)).set (k * 3 + 1) (.int .i64 c.x)).set (k * 3 + 1 + 1) (.int .i64 c.y) = _
  rw [show k * 3 = k * 3 + 0 by omega, set_flat encC_len (by decide) hq (q' := ⟨c.op, q.x, q.y⟩) rfl, show k * 3 + 0 + 1 = k * 3 + 1 by omega, set_flat encC_len (by decide) (k := k) (q := ⟨c.op, q.x, q.y⟩) (q' := ⟨c.op, c.x, q.y⟩) (List.getElem?_set_self hk) rfl, List.set_set,
    show k * 3 + 1 + 1 = k * 3 + 2 by omega, set_flat encC_len (by decide) (k := k) (q := ⟨c.op, c.x, q.y⟩) (q' := c) (List.getElem?_set_self hk) rfl, List.set_set]
structure RInv (n : Nat) (r : Rt) : Prop where
  lo : r.opn.length = 4
  ln : r.nxt.length = 4
  lu : r.und.length = 4
  nx : ∀ t : Nat, 0 ≤ r.nxt.getD t 0 ∧ r.nxt.getD t 0 ≤ (n : Int)
  cl : r.calls ≤ n
theorem rinv_start : RInv 0 Rt.start where
  lo := rfl
  ln := rfl
  lu := rfl
  nx := fun t => by
    have : Rt.start.nxt.getD t 0 = 0 := by
      match t with
      | 0 => rfl
      | 1 => rfl
      | 2 => rfl
      | 3 => rfl
      | n + 4 => rfl
    rw [this]
    exact ⟨Int.le_refl _, Int.le_refl _⟩
  cl := Nat.le_refl _
theorem bmap_at {l : List Bool} {i : Nat} (hi : i < l.length) : (l.map AV.bool)[i]? = some (.bool (l.getD i false)) := by
  rw [List.getElem?_map, List.getD_eq_getElem?_getD, List.getElem?_eq_getElem hi]
  rfl

theorem rvalid_d {hl : List Ev} {s0 : Slc} {h : Heap} (hs : Sl h s0 7 encE hl) (hlen : hl.length ≤ 140737488355327) (hops : ∀ e ∈ hl, e.call.op.length ≤ 140737488355327) {P : AV → Heap → Prop} (hP : ∀ t, P (.bool (validR hl)) t) : CallE KH 25 [s0.av] h P := by
  refine d25 (by kernel_rfl) ?_
  unfold D25
  refine ⟨⟨by omega, rfl, by omega⟩, ⟨by omega, rfl, by omega⟩, ⟨by omega, rfl, by omega⟩, ?_⟩
  refine ⟨fun (m : Nat) (cs : Int) (x : Int) (c1 c2 c3 : List AV) (t : Heap) => ∃ (n : Nat) (r : Rt), x = (n : Int) ∧ m + n = hl.length ∧ runL stepR (hl.take n) Rt.start = some r ∧ RInv n r ∧ cs = (r.calls : Int) ∧ c1 = r.opn.map AV.bool ∧ c2 = r.nxt.map encI ∧ c3 = r.und.flatMap encC,
    ⟨hl.length, 0, Rt.start, rfl, rfl, rfl, rinv_start, rfl, rfl, rfl, rfl⟩, ?_⟩
  rintro m _ _ _ _ _ t1 ⟨n, r, rfl, hm, hrun, hinv, rfl, rfl, rfl, rfl⟩
  rw [hs.len]
  refine ⟨fun hc => ?_, fun hc => ?_⟩
  · simp only [decide_eq_true_eq] at hc
    have hn : n < hl.length := by omega
    obtain ⟨e, he⟩ := lt_len rfl hn
    have none_of : stepR r e = none → ∀ t, P (.bool false) t := fun hz t => by
      have : validR hl = false := by
        unfold validR
        rw [runL_none (i := n + 1) (by rw [runL_take he, hrun]; exact hz)]
        rfl
      have hp := hP t
      rwa [this] at hp
    have bad : okE e = false → ∀ t, P (.bool false) t := fun hz => none_of (by unfold stepR; rw [if_pos hz])
    refine ⟨⟨by omega, by omega⟩, e.th, e.ix, e.ret, e.call.op, e.call.x, e.call.y, e.res, hs.agg he, fun p1 => ⟨fun p2 => ?_, fun p2 => bad ?_ _⟩, fun p1 => bad ?_ _⟩
    rotate_left
    · simp only [decide_eq_true_eq] at p2
      have : decide (e.th < 4) = false := decide_eq_false (by omega)
      simp [okE, this]
    · simp only [decide_eq_true_eq] at p1
      have : decide (0 ≤ e.th) = false := decide_eq_false (by omega)
      simp [okE, this]
    simp only [decide_eq_false_iff_not] at p1 p2
    have w0 : decide (0 ≤ e.th) = true := decide_eq_true (by omega)
    have w4 : decide (e.th < 4) = true := decide_eq_true (by omega)
    refine rword_ok fun t4 => ⟨_, rfl, fun p4 => ?_, fun p4 => bad (by simp at p4; simp [okE, p4]) _⟩
    refine rword_ok fun t5 => ⟨_, rfl, fun p5 => ?_, fun p5 => bad (by simp at p5; simp [okE, p5]) _⟩
    refine rword_ok fun t6 => ⟨_, rfl, fun p6 => ?_, fun p6 => bad (by simp at p6; simp [okE, p6]) _⟩
    refine rname_ok (hops e (List.mem_of_getElem? he)) fun t3 => ⟨_, rfl, fun p3 => bad (by simp at p3; simp [okE, p3]) _, fun p3 => ?_⟩
    have hok : okE e = true := by
      simp only [Bool.not_eq_false'] at p3 p4 p5 p6
      simp only [okE, w0, w4, p3, p4, p5, p6]
      rfl
    have hok' : ¬ okE e = false := by rw [hok]; simp
    have ht : e.th.toNat < 4 := by omega
    have h1 : partOf none (r.opn.map AV.bool) (0 + e.th.toNat * 1) = some (.bool (r.opn.getD e.th.toNat false)) := by
      rw [Nat.zero_add, Nat.mul_one]
      exact bmap_at (by rw [hinv.lo]; exact ht)
    have h2 : partOf none (r.nxt.map encI) (0 + e.th.toNat * 1) = some (.int .i64 (r.nxt.getD e.th.toNat 0)) := by
      rw [Nat.zero_add, Nat.mul_one]
      exact map_at (by rw [hinv.ln]; exact ht)
    obtain ⟨hn0, hn1⟩ := hinv.nx e.th.toNat
    have hcl := hinv.cl
    have hw : IntKind.wrap .i64 (r.nxt.getD e.th.toNat 0 + 1) = r.nxt.getD e.th.toNat 0 + 1 := by
      have := wrap_succ (i := (r.nxt.getD e.th.toNat 0).toNat) (by omega)
      rw [Int.toNat_of_nonneg hn0] at this
      rw [this]
      omega
    have hbeq : ∀ c : Cl, e.call.beq c = ((e.call.op == c.op) && ((e.call.x == c.x) && ((e.call.y == c.y) && true))) := fun c => by simp [Cl.beq, Bool.and_assoc]
    refine ⟨⟨by omega, by show e.th < ((4 : Nat) : Int); omega⟩, r.opn.getD e.th.toNat false, h1, fun q1 => ?_, fun q1 => none_of ?_ _⟩
    · have e1 : e.ret = r.opn.getD e.th.toNat false := by simpa using q1
      refine ⟨⟨by omega, by show e.th < ((4 : Nat) : Int); omega⟩, r.nxt.getD e.th.toNat 0, h2, fun q2 => none_of ?_ _, fun q2 => ?_⟩
      · unfold stepR
        rw [if_neg hok']
        simp only
        rw [if_neg (not_not_intro e1), if_pos (by simpa using q2)]
      have e2 : e.ix = r.nxt.getD e.th.toNat 0 := by simpa using q2
      have base : stepR r e = if e.ret then (if e.call.beq (r.und.getD e.th.toNat ⟨[], 0, 0⟩) = false then none else some ⟨r.calls, r.opn.set e.th.toNat false, r.nxt.set e.th.toNat (r.nxt.getD e.th.toNat 0 + 1), r.und⟩)
          else if e.res ≠ 0 then none else if r.calls + 1 > 12 then none else some ⟨r.calls + 1, r.opn.set e.th.toNat true, r.nxt, r.und.set e.th.toNat e.call⟩ := by
        unfold stepR
        rw [if_neg hok']
        simp only
        rw [if_neg (not_not_intro e1), if_neg (not_not_intro e2)]
      refine ⟨fun hr => ?_, fun hr => ⟨fun q3 => ?_, fun q3 => none_of ?_ _⟩⟩
      · rw [hr] at base
        simp only [if_true] at base
        obtain ⟨u, hu⟩ := lt_len rfl (show e.th.toNat < r.und.length by rw [hinv.lu]; exact ht)
        have hug : r.und.getD e.th.toNat ⟨[], 0, 0⟩ = u := by rw [List.getD_eq_getElem?_getD, hu]; rfl
        rw [hug] at base
        obtain ⟨f1, f2⟩ := flatMap_get encC_len hu
        refine ⟨⟨by omega, by show e.th < ((4 : Nat) : Int); omega⟩, u.op, u.x, u.y, ?_, fun q3 => none_of ?_ _, fun q3 => ?_⟩
        · rw [Nat.zero_add]
          simp only [partOf]
          rw [if_pos f1, f2]
          rfl
        · have hb : e.call.beq u = false := by
            rw [hbeq]
            revert q3
            cases ((e.call.op == u.op) && ((e.call.x == u.x) && ((e.call.y == u.y) && true))) <;> simp
          rw [base, if_pos hb]
        · have hb : e.call.beq u = true := by
            rw [hbeq]
            revert q3
            cases ((e.call.op == u.op) && ((e.call.x == u.x) && ((e.call.y == u.y) && true))) <;> simp
          have hst : stepR r e = some ⟨r.calls, r.opn.set e.th.toNat false, r.nxt.set e.th.toNat (r.nxt.getD e.th.toNat 0 + 1), r.und⟩ := by rw [base, if_neg (by rw [hb]; simp)]
          refine ⟨⟨by omega, by show e.th < ((4 : Nat) : Int); omega⟩, r.nxt.getD e.th.toNat 0, h2, ⟨by omega, by show e.th < ((4 : Nat) : Int); omega⟩, by rw [List.length_map, hinv.ln]; omega, ⟨by omega, by show e.th < ((4 : Nat) : Int); omega⟩, by rw [List.length_map, hinv.lo]; omega, m - 1, by omega, n + 1, ⟨r.calls, r.opn.set e.th.toNat false, r.nxt.set e.th.toNat (r.nxt.getD e.th.toNat 0 + 1), r.und⟩, wrap_succ (by omega), by omega, by rw [runL_take he, hrun]; exact hst, ⟨by simp [hinv.lo], by simp [hinv.ln], hinv.lu, fun t => ?_, by simp only; omega⟩, rfl, ?_, ?_, rfl⟩
          · simp only
            rw [getD_set (by rw [hinv.ln]; exact ht)]
            have := hinv.nx t
            split <;> omega
          · rw [setCells_one', Nat.zero_add, Nat.mul_one, List.map_set]
          · rw [setCells_one', Nat.zero_add, Nat.mul_one, List.map_set, hw]
            rfl
      · rw [hr] at base
        simp only [Bool.false_eq_true, if_false] at base
        have e3 : e.res = 0 := by simpa using q3
        rw [if_neg (not_not_intro e3)] at base
        have hwc : IntKind.wrap .i64 ((r.calls : Int) + 1) = ((r.calls + 1 : Nat) : Int) := wrap_succ (by omega)
        rw [hwc]
        refine ⟨fun q4 => none_of ?_ _, fun q4 => ?_⟩
        · simp only [decide_eq_true_eq] at q4
          rw [base, if_pos (by omega)]
        · simp only [decide_eq_false_iff_not] at q4
          have hst : stepR r e = some ⟨r.calls + 1, r.opn.set e.th.toNat true, r.nxt, r.und.set e.th.toNat e.call⟩ := by rw [base, if_neg (by omega)]
          refine ⟨⟨by omega, by show e.th < ((4 : Nat) : Int); omega⟩, by rw [List.length_map, hinv.lo]; omega, ⟨by omega, by show e.th < ((4 : Nat) : Int); omega⟩, by rw [flatMap_len encC_len, hinv.lu]; omega, m - 1, by omega, n + 1, ⟨r.calls + 1, r.opn.set e.th.toNat true, r.nxt, r.und.set e.th.toNat e.call⟩, wrap_succ (by omega), by omega, by rw [runL_take he, hrun]; exact hst, ⟨by simp [hinv.lo], hinv.ln, by simp [hinv.lu], fun t => ?_, by simp only; omega⟩, rfl, ?_, rfl, ?_⟩
          · have := hinv.nx t
            simp only
            omega
          · rw [setCells_one', Nat.zero_add, Nat.mul_one, List.map_set]
          · rw [Nat.zero_add]
            exact set_call (by rw [hinv.lu]; exact ht)
      · rw [hr] at base
        simp only [Bool.false_eq_true, if_false] at base
        rw [base, if_pos (by simpa using q3)]
    · have e1 : e.ret ≠ r.opn.getD e.th.toNat false := by simpa using q1
      unfold stepR
      rw [if_neg hok']
      simp only
      rw [if_pos e1]
  · simp only [decide_eq_false_iff_not] at hc
    obtain rfl : n = hl.length := by omega
    rw [List.take_length] at hrun
    have : validR hl = true := by unfold validR; rw [hrun]; rfl
    rw [this] at hP
    exact hP _

theorem run_pre {σ α : Type} {f : σ → α → Option σ} {l : List α} {i : Nat} {s x : σ} (h : runL f l s = some x) : ∃ y, runL f (l.take i) s = some y := by
  cases hr : runL f (l.take i) s with
  | none => rw [runL_none hr] at h; cases h
  | some y => exact ⟨y, rfl⟩
theorem upd_len {L : List Sp} {k : Nat} {f : Sp → Sp} : ((L.take k).map f ++ L.drop k).length = L.length := by
  rw [List.length_append, List.length_map, ← List.length_append, List.take_append_drop]
theorem upd_at {L : List Sp} {k : Nat} {f : Sp → Sp} {q : Sp} (h : L[k]? = some q) : ((L.take k).map f ++ L.drop k)[k]? = some q := by
  have hk := (List.getElem?_eq_some_iff.1 h).1
  rw [List.getElem?_append_right (by simp; omega)]
  simp only [List.length_map, List.length_take, List.getElem?_drop]
  rw [show k + (k - min k L.length) = k by omega]
  exact h
theorem upd_next {L : List Sp} {k : Nat} {f : Sp → Sp} {q : Sp} (h : L[k]? = some q) : ((L.take k).map f ++ L.drop k).set k (f q) = (L.take (k + 1)).map f ++ L.drop (k + 1) := by
  have hk := (List.getElem?_eq_some_iff.1 h).1
  have e : L.drop k = q :: L.drop (k + 1) := by
    rw [List.drop_eq_getElem_cons hk]
    rw [(List.getElem?_eq_some_iff.1 h).2]
  rw [e, List.set_append_right _ _ (by simp; omega)]
  simp only [List.length_map, List.length_take]
  rw [show k - min k L.length = 0 by omega, List.set_cons_zero, List.take_add_one, h]
  simp

theorem rspans_d {hl : List Ev} {s0 : Slc} {h : Heap} (hs : Sl h s0 7 encE hl) (hlen : hl.length ≤ 140737488355327) (hops : ∀ e ∈ hl, e.call.op.length ≤ 140737488355327) {P : AV → Heap → Prop} (g1 : spansV hl = none → ∀ t, P (.tuple [.nilslice, .int .i64 1]) t)
    (g2 : ∀ l, spansV hl = some l → ∀ (z : Slc) t, Sl (h ++ t) z 8 encS l → P (.tuple [z.av, .int .i64 0]) t) : CallE KH 18 [s0.av] h P := by
  refine d18 (by kernel_rfl) ?_
  unfold D18
  refine rvalid_d hs hlen hops fun t1 => ⟨_, rfl, fun q => ?_, fun q => ?_⟩
  · refine g1 ?_ _
    have := valid_same hl
    rw [show validR hl = false by simpa using q] at this
    cases hv : spansV hl with
    | none => rfl
    | some l => rw [hv] at this; cases this
  have hv : validR hl = true := by simpa using q
  obtain ⟨⟨nn, sf⟩, hfull⟩ : ∃ x, runL stepV hl (0, St.start) = some x := by
    have := valid_same hl
    rw [hv] at this
    unfold spansV at this
    cases hr : runL stepV hl (0, St.start) with
    | none => rw [hr] at this; cases this
    | some x => exact ⟨x, rfl⟩
  refine ⟨fun (m : Nat) (z : Slc) (x : Int) (t : Heap) => ∃ (n : Nat) (s : St) (r : Rt), x = (n : Int) ∧ m + n = hl.length ∧ runL stepV (hl.take n) (0, St.start) = some (n, s) ∧ Rel s r ∧ Ow (h.length + t1.length) t z 8 (s.l.flatMap encS),
    ⟨hl.length, 0, St.start, Rt.start, rfl, rfl, rfl, rel_start, .inl ⟨rfl, rfl⟩⟩, ?_⟩
  rintro m z _ t2 ⟨n, s, r, rfl, hm, hrun, hrel, how⟩
  rw [hs.len]
  have hzl : z.len = s.l.length := by
    have := how.len
    rw [flatMap_len encS_len] at this
    exact Nat.eq_of_mul_eq_mul_right (by decide) this
  have l12 := hrel.le
  refine ⟨fun hc => ?_, fun hc => ?_⟩
  · simp only [decide_eq_true_eq] at hc
    have hn : n < hl.length := by omega
    obtain ⟨e, he⟩ := lt_len rfl hn
    obtain ⟨y, hy⟩ := run_pre (i := n + 1) hfull
    rw [runL_take he, hrun] at hy
    have hstep : stepV (n, s) e = some y := hy
    rcases step_both (n := n) (e := e) hrel with ⟨a, _⟩ | ⟨s', r', a, _, hrel'⟩
    · rw [hstep] at a; cases a
    have hS := stepS_same hrel a
    have hrun' : runL stepV (hl.take (n + 1)) (0, St.start) = some (n + 1, s') := by rw [runL_take he, hrun]; exact a
    refine ⟨⟨by omega, by omega⟩, e.th, e.ix, e.ret, e.call.op, e.call.x, e.call.y, e.res, hs.agg he, fun hr => ?_, fun hr => ?_⟩
    · have hr : e.ret = false := by simpa using hr
      unfold stepS at hS
      rw [hr] at hS
      simp only [Bool.false_eq_true, if_false] at hS
      obtain ⟨g, hg⟩ : ∃ g, ((z.nil = true ∧ s.l.flatMap encS = [] ∧ g = t2) ∨ (z.nil = false ∧ ∃ k0 c0, z.b = (h.length + t1.length) + k0 ∧ t2[k0]? = some (.arr c0 8 false) ∧ z.o + z.n * 8 ≤ c0.length ∧ s.l.flatMap encS = (c0.drop z.o).take (z.n * 8) ∧ g = t2.set k0 .dead)) := by
        rcases how with ⟨h1, h2⟩ | ⟨h1, h2, h3, i, h4, h5⟩
        · exact ⟨_, .inl ⟨h1, h2, rfl⟩⟩
        · exact ⟨_, .inr ⟨h1, i, _, h4, h5, by rw [h2, h3]; omega, by rw [h2, h3, List.drop_zero, List.take_of_length_le (Nat.le_refl _)], rfl⟩⟩
      rw [hzl]
      refine ⟨s.l.flatMap encS, g, hg, by omega, m - 1, by omega, n + 1, s', r', wrap_succ (by omega), by omega, hrun', hrel', .inr ⟨rfl, rfl, ?_, g.length + (1 + 1), by simp only []; omega, ?_⟩⟩
      · rw [flatMap_len encS_len, ← hS]
        simp
      · rw [List.getElem?_append_right (by omega), show g.length + (1 + 1) - g.length = 1 + 1 by omega, List.getElem?_cons_succ, List.getElem?_cons_succ, ← hS, List.flatMap_append]
        rfl
    · have hr : e.ret = true := by simpa using hr
      unfold stepS at hS
      rw [hr] at hS
      simp only [if_true] at hS
      refine ⟨fun (m2 : Nat) (x : Int) (g : Heap) (t : Heap) => ∃ k : Nat, x = (k : Int) ∧ m2 + k = s.l.length ∧ Ow (h.length + t1.length) g z 8 (((s.l.take k).map (updS (n : Int) e) ++ s.l.drop k).flatMap encS), ⟨s.l.length, 0, rfl, rfl, by simpa using how⟩, ?_⟩
      rintro m2 _ g t3 ⟨k, rfl, hm2, hg⟩
      rw [hzl]
      refine ⟨fun hc2 => ?_, fun hc2 => ?_⟩
      · simp only [decide_eq_true_eq] at hc2
        obtain ⟨q', hq⟩ := lt_len rfl (show k < s.l.length by omega)
        have hqa := upd_at (f := updS (n : Int) e) hq
        have hsl : Sl (h ++ (t1 ++ g)) z 8 encS ((s.l.take k).map (updS (n : Int) e) ++ s.l.drop k) := hg.sl (by decide) encS_len at_app2
        have next : updS (n : Int) e q' = q' → Ow (h.length + t1.length) g z 8 (((s.l.take (k + 1)).map (updS (n : Int) e) ++ s.l.drop (k + 1)).flatMap encS) := fun e0 => by
          rw [← upd_next hq, e0]
          have : ((s.l.take k).map (updS (n : Int) e) ++ s.l.drop k).set k q' = (s.l.take k).map (updS (n : Int) e) ++ s.l.drop k := by
            apply List.ext_getElem?
            intro i
            rw [List.getElem?_set]
            split
            · rename_i e1
              subst e1
              rw [hqa]
              exact if_pos (by rw [upd_len]; omega)
            · rfl
          rw [this]
          exact hg
        refine ⟨⟨by omega, by omega⟩, q'.th, hsl.cell0 hqa rfl, fun p1 => ⟨⟨by omega, by omega⟩, q'.ix, hsl.cell (c := 1) hqa rfl, fun p2 => ?_, fun p2 => ⟨m2 - 1, by omega, k + 1, wrap_succ (by omega), by omega, next ?_⟩⟩, fun p1 => ⟨m2 - 1, by omega, k + 1, wrap_succ (by omega), by omega, next ?_⟩⟩
        · have e1 : q'.th = e.th := by simpa using p1
          have e2 : q'.ix = e.ix := by simpa using p2
          have hu : updS (n : Int) e q' = { q' with to := (n : Int), res := e.res } := by unfold updS; rw [if_pos ⟨e1, e2⟩]
          rcases hg with ⟨h1, h2⟩ | ⟨h1, h2, h3, i, h4, h5⟩
          · exfalso
            have := flatMap_len encS_len ((s.l.take k).map (updS (n : Int) e) ++ s.l.drop k)
            rw [h2, upd_len] at this
            simp only [List.length_nil] at this
            omega
          have hil := (List.getElem?_eq_some_iff.1 h5).1
          have hfl := flatMap_len encS_len ((s.l.take k).map (updS (n : Int) e) ++ s.l.drop k)
          rw [upd_len] at hfl
          have hkl : k < ((s.l.take k).map (updS (n : Int) e) ++ s.l.drop k).length := by rw [upd_len]; omega
          obtain ⟨G1, f1⟩ : ∃ G : Heap, G = g.set i (.arr ((((s.l.take k).map (updS (n : Int) e) ++ s.l.drop k).flatMap encS).set (k * 8 + 6) (.int .i64 (n : Int))) 8 false) := ⟨_, rfl⟩
          obtain ⟨G2, f2⟩ : ∃ G : Heap, G = G1.set i (.arr (((((s.l.take k).map (updS (n : Int) e) ++ s.l.drop k).flatMap encS).set (k * 8 + 6) (.int .i64 (n : Int))).set (k * 8 + 7) (.int .i64 e.res)) 8 false) := ⟨_, rfl⟩
          refine ⟨⟨by omega, by omega⟩, i, G1, h4, ?_, ⟨by omega, by omega⟩, i, G2, h4, ?_, m2 - 1, by omega, k + 1, wrap_succ (by omega), by omega, .inr ⟨h1, h2, ?_, i, h4, ?_⟩⟩
          · rw [h2, Nat.zero_add, f1]
            exact wr_row h5 (by rw [hfl]; omega)
          · rw [h2, Nat.zero_add, f2]
            exact wr_row (by rw [f1, List.getElem?_set_self hil]) (by rw [List.length_set, hfl]; omega)
          · rw [h3, flatMap_len encS_len, flatMap_len encS_len, upd_len, upd_len]
          · rw [f2, List.getElem?_set_self (by rw [f1]; simpa using hil)]
            rw [set_flat encS_len (by decide) hqa (q' := { q' with to := (n : Int) }) rfl, set_flat encS_len (by decide) (k := k) (q := { q' with to := (n : Int) }) (q' := { q' with to := (n : Int), res := e.res }) (List.getElem?_set_self hkl) rfl, List.set_set, ← hu, upd_next hq]
        · have e2 : q'.ix ≠ e.ix := by simpa using p2
          unfold updS
          rw [if_neg fun hh => e2 hh.2]
        · have e1 : q'.th ≠ e.th := by simpa using p1
          unfold updS
          rw [if_neg fun hh => e1 hh.1]
      · simp only [decide_eq_false_iff_not] at hc2
        refine ⟨m - 1, by omega, n + 1, s', r', wrap_succ (by omega), by omega, hrun', hrel', ow_more ?_⟩
        rw [List.take_of_length_le (by omega), List.drop_eq_nil_of_le (by omega), List.append_nil, hS] at hg
        exact hg
  · simp only [decide_eq_false_iff_not] at hc
    obtain rfl : n = hl.length := by omega
    rw [List.take_length] at hrun
    exact g2 s.l (by unfold spansV; rw [hrun]; rfl) z _ (how.sl (by decide) encS_len at_app2)

theorem valid_d {hl : List Ev} {s0 : Slc} {h : Heap} (hs : Sl h s0 7 encE hl) (hlen : hl.length ≤ 140737488355327) {P : AV → Heap → Prop} (hP : ∀ t, P (.bool (spansV hl).isSome) t) : CallE KH 16 [s0.av] h P := by
  refine d16 (by kernel_rfl) ?_
  unfold D16
  refine spans_d hs hlen (fun hv t => ⟨⟨0, 0, 0, true⟩, _, rfl, ?_⟩) (fun l hv z t hz => ⟨z, _, rfl, ?_⟩)
  · rw [hv] at hP; exact hP _
  · rw [hv] at hP; exact hP _
theorem ospans_d {hl : List Ev} {s0 : Slc} {h : Heap} (hs : Sl h s0 7 encE hl) (hlen : hl.length ≤ 140737488355327) {P : AV → Heap → Prop} (g1 : spansV hl = none → ∀ t, P (.tuple [.nilslice, .int .i64 1]) t)
    (g2 : ∀ l, spansV hl = some l → ∀ (z : Slc) t, Sl (h ++ t) z 8 encS l → P (.tuple [z.av, .int .i64 0]) t) : CallE KH 15 [s0.av] h P := by
  refine d15 (by kernel_rfl) ?_
  unfold D15
  refine spans_d hs hlen (fun hv t => ⟨⟨0, 0, 0, true⟩, _, rfl, fun _ => g1 hv _, fun e => by cases e⟩) (fun l hv z t hz => ⟨z, _, rfl, (fun e => by cases e), fun _ => g2 l hv z _ hz⟩)
theorem large_d {hl : List Ev} {s0 : Slc} {h : Heap} (hs : Sl h s0 7 encE hl) {P : AV → Heap → Prop} (hP : ∀ b t, (b = false → hl.length ≤ 60) → P (.bool b) t) : CallE KH 11 [s0.av] h P := by
  refine d11 (by kernel_rfl) ?_
  unfold D11
  rw [hs.len]
  refine ⟨fun _ => hP _ _ (fun e => by cases e), fun q => ?_⟩
  have hl60 : hl.length ≤ 60 := by simp only [decide_eq_false_iff_not] at q; omega
  refine ⟨fun (m : Nat) (s : Int) (x : Int) (t : Heap) => ∃ i : Nat, x = (i : Int) ∧ m + i = hl.length, ⟨hl.length, 0, rfl, rfl⟩, ?_⟩
  rintro m s _ t ⟨i, rfl, hm⟩
  refine ⟨fun hc => ⟨fun _ => ?_, fun _ => hP _ _ fun _ => hl60⟩, fun _ => hP _ _ fun _ => hl60⟩
  simp only [decide_eq_true_eq] at hc
  obtain ⟨e, he⟩ := lt_len rfl (show i < hl.length by omega)
  exact ⟨⟨by omega, by omega⟩, e.call.op, hs.cell (c := 3) he rfl, m - 1, by omega, i + 1, wrap_succ (by omega), by omega⟩
end Go.Proofs.YtcjhjphmlfkikaaDoor.Mini

