/- Layer 16: the reference's Spread as the same plain function; the law LibSpreads. -/
import Derived.Test.YtifkphfhadimaaaGreatDoorLwM
import Derived.Test.YtifkphfhadimaaaGreatDoorDecX
set_option linter.unusedVariables false
set_option linter.unusedSimpArgs false
set_option maxRecDepth 100000
namespace Go.Proofs.YtifkphfhadimaaaGreatDoor.Mini
open Go.Abs

theorem tmod_small {k b : Int} (hb : 0 < b) : Int.tmod (Int.tmod k b + b) b = k % b := by
  have e := Int.tmod_add_mul_tdiv k b
  have m1 := Int.tmod_lt_of_pos k hb
  have m2 := Int.lt_tmod_of_pos k hb
  rw [Int.tmod_eq_emod_of_nonneg (by omega), Int.add_emod_right]
  conv => rhs; rw [← e]
  rw [Int.add_mul_emod_self_left]
theorem mod_ok {k b : Int} (hk : is64 k) (hb : 0 < b) (hb2 : b ≤ 1000) {h : Heap} {P : AV → Heap → Prop} (hP : P (.int .i64 (k % b)) []) : CallE K6 102 [.int .i64 k, .int .i64 b] h P := by
  refine d102 (by kernel_rfl) ?_
  unfold D102
  have m1 := Int.tmod_lt_of_pos k hb
  have m2 := Int.lt_tmod_of_pos k hb
  refine ⟨by omega, by omega, ?_⟩
  rw [wrap64 (k := Int.tmod k b + b) ⟨by omega, by omega⟩, tmod_small hb]
  exact hP
theorem down_ok {k b : Int} (hk : is64 k) (hb : 0 < b) (hb2 : b ≤ 1000) {h : Heap} {P : AV → Heap → Prop} (hP : P (.int .i64 (k / b)) []) : CallE K6 103 [.int .i64 k, .int .i64 b] h P := by
  refine d103 (by kernel_rfl) ?_
  unfold D103
  have e := Int.tmod_add_mul_tdiv k b
  have m1 := Int.tmod_lt_of_pos k hb
  have m2 := Int.lt_tmod_of_pos k hb
  have hd := div_is64 hk hb
  refine ⟨by omega, fun hc => ⟨by omega, ?_⟩, fun hc => ⟨by omega, ?_⟩⟩
  · simp only [decide_eq_true_eq] at hc
    obtain ⟨u1, u2⟩ := (Int.ediv_emod_unique (a := k) (r := Int.tmod k b + b) (q := Int.tdiv k b - 1) hb).2 ⟨by rw [Int.mul_sub]; omega, by omega, by omega⟩
    have ht : is64 (Int.tdiv k b) := by
      have : Int.tdiv k b = k / b + 1 := by omega
      obtain ⟨w1, w2⟩ := hd
      refine ⟨by omega, ?_⟩
      by_cases h0 : 0 ≤ k
      · have := Int.tmod_nonneg b h0
        omega
      · have := Int.ediv_neg_of_neg_of_pos (show k < 0 by omega) hb
        omega
    rw [wrap64 ht, wrap64 (k := Int.tdiv k b - 1) (by rw [← u1]; exact hd), ← u1]
    exact hP
  · simp only [decide_eq_false_iff_not] at hc
    obtain ⟨u1, u2⟩ := (Int.ediv_emod_unique (a := k) (r := Int.tmod k b) (q := Int.tdiv k b) hb).2 ⟨by omega, by omega, by omega⟩
    rw [wrap64 (k := Int.tdiv k b) (by rw [← u1]; exact hd), ← u1]
    exact hP

/-! ### Both as plain functions of their arguments -/
def in64 (k : Int) : Bool := decide (-9223372036854775808 ≤ k) && decide (k ≤ 9223372036854775807)
def quiets (f : Nat) (args : List AV) : Option AV := match args with
  | [.int .i64 a, .int .i64 n] => if in64 a && (decide (0 < n) && decide (n ≤ 1000)) then (if Nat.beq f 102 then some (.int .i64 (a % n)) else if Nat.beq f 103 then some (.int .i64 (a / n)) else none) else none
  | _ => none
noncomputable def KQ : Model := ⟨fnOf [(47, F47)], quietPrim quiets⟩
theorem quietKQ : QuietOps KQ (isQ [102, 103]) := quiet_ops (l := [102, 103]) fun f hf => by
  simp only [List.mem_cons, List.not_mem_nil, or_false] at hf
  rcases hf with rfl | rfl <;> rfl
theorem in64_of {k : Int} (h : is64 k) : in64 k = true := by
  obtain ⟨h1, h2⟩ := h
  unfold in64
  rw [decide_eq_true h1, decide_eq_true h2]
  rfl
theorem modQ {k b : Int} (hk : is64 k) (hb : 0 < b) (hb2 : b ≤ 1000) {h : Heap} {P : AV → Heap → Prop} (hP : ∀ t, P (.int .i64 (k % b)) t) : CallE KQ 102 [.int .i64 k, .int .i64 b] h P := by
  intro Q hQ
  refine .prim ⟨_, ?_, by simpa using hQ _ [] (hP [])⟩
  simp only [quiets, in64_of hk, decide_eq_true hb, decide_eq_true hb2, Bool.and_self, if_true]
  rfl
theorem downQ {k b : Int} (hk : is64 k) (hb : 0 < b) (hb2 : b ≤ 1000) {h : Heap} {P : AV → Heap → Prop} (hP : ∀ t, P (.int .i64 (k / b)) t) : CallE KQ 103 [.int .i64 k, .int .i64 b] h P := by
  intro Q hQ
  refine .prim ⟨_, ?_, by simpa using hQ _ [] (hP [])⟩
  simp only [quiets, in64_of hk, decide_eq_true hb, decide_eq_true hb2, Bool.and_self, if_true]
  rfl
theorem intoQ {f : Nat} {args : List AV} {h : Heap} {P : AV → Heap → Prop} (c : CallE KQ f args h P) : CallE K6 f args h P := by
  refine c.into (fun f F hF => ?_) fun f args h Q hp => ?_
  · have : (f, F) ∈ [(47, F47)] := fnOf_mem hF
    simp only [List.mem_singleton, Prod.mk.injEq] at this
    obtain ⟨rfl, rfl⟩ := this
    exact (show K6.fn 47 = some F47 by kernel_rfl)
  · obtain ⟨v, hv, hQ⟩ := hp
    unfold quiets at hv
    split at hv
    · rename_i a n
      split at hv
      · rename_i hc
        simp only [Bool.and_eq_true, decide_eq_true_eq, in64] at hc
        obtain ⟨⟨h1, h2⟩, h3, h4⟩ := hc
        split at hv
        · rename_i hf
          have := Nat.eq_of_beq_eq_true hf
          subst this
          injection hv with hv
          subst hv
          exact mod_ok (P := fun v t => t = [] ∧ v = .int .i64 (a % n)) ⟨h1, h2⟩ h3 h4 ⟨rfl, rfl⟩ Q fun v t h => by obtain ⟨rfl, rfl⟩ := h; simpa using hQ
        · split at hv
          · rename_i hf
            have := Nat.eq_of_beq_eq_true hf
            subst this
            injection hv with hv
            subst hv
            exact down_ok (P := fun v t => t = [] ∧ v = .int .i64 (a / n)) ⟨h1, h2⟩ h3 h4 ⟨rfl, rfl⟩ Q fun v t h => by obtain ⟨rfl, rfl⟩ := h; simpa using hQ
          · cases hv
      · cases hv
    · cases hv

theorem by_thr {k : Nat} (hk : k < 21) {x : Int} (hw : whichV k x < (lrow k).calls.length) : byV (nm k) (x % 3) (callV k x).1 = decide (x % 3 < thrOf k (whichV k x)) := by
  have m1 := Int.emod_nonneg x (show (3 : Int) ≠ 0 by decide)
  have m2 := Int.emod_lt_of_pos x (show (0 : Int) < 3 by decide)
  obtain ⟨t, ht⟩ := Int.eq_ofNat_of_zero_le m1
  have hb := List.all_eq_true.1 (List.all_eq_true.1 (List.all_eq_true.1 by_all k (List.mem_range.2 hk)) (whichV k x) (List.mem_range.2 hw)) t (List.mem_range.2 (by omega))
  simp only [beq_iff_eq] at hb
  rw [ht]
  show byV (nm k) (t : Int) (opV k (whichV k x)) = _
  unfold opV
  rw [hb, decide_eq_true (show (t : Int) ≥ 0 by omega)]
  rfl

theorem refSpread_yes {k : Nat} (hk : k < 21) {c s : Slc} {ns : List Int} {h : Heap} (hcs : Sl h c 3 encF (lrow k).calls) (hs : Sl h s 1 encI ns) (h24 : ns.length ≤ 24) (h64 : ∀ x ∈ ns, is64 x) {P : AV → Heap → Prop} (hP : ∀ (b : Nat) t, ScriptW (h ++ t) ⟨b, 0, 3, false⟩ (sprV k ns).rows → P (.slice b 0 3) t) : CallE KQ 47 [rowR16 k c, s.av] h P := by
  refine d47 quietKQ (by kernel_rfl) ?_
  unfold D47
  obtain ⟨l1, l2, l3, l4⟩ := row_lo hk
  have hfew := few hk
  rw [hs.len, hcs.len]
  refine ⟨by decide, ?_⟩
  refine ⟨fun n n2 x cs t => ∃ (i : Nat) (qs : List Slc), x = i ∧ n + i = ns.length ∧ n2 = (sprV k (ns.take i)).n ∧ cs = qs.map Slc.av ∧ Three (h.length + (1 + 1)) t qs (sprV k (ns.take i)).rows, ⟨ns.length, 0, [nilS, nilS, nilS], rfl, rfl, rfl, rfl, Three.start⟩, ?_⟩
  rintro n _ _ _ t1 ⟨i, qs, rfl, hi, rfl, rfl, hth⟩
  refine ⟨fun hc1 => ?_, fun hc1 => ?_⟩
  · simp only [decide_eq_true_eq] at hc1
    have hi' : i < ns.length := by omega
    obtain ⟨x, hx⟩ := lt_len rfl hi'
    have hx64 := h64 x (List.mem_of_getElem? hx)
    have hst := spr_take (k := k) hx
    have d3 : is64 (x / 3) := div_is64 hx64 (by decide)
    refine ⟨by omega, x, by simpa using hs.cell0 hx (v := .int .i64 x) rfl, ?_⟩
    refine modQ hx64 (by decide) (by decide) fun t2 => ⟨_, rfl, ?_⟩
    refine downQ hx64 (by decide) (by decide) fun t3 => ⟨_, rfl, ?_⟩
    refine modQ d3 (by omega) (by omega) fun t4 => ⟨_, rfl, ?_⟩
    have w1 := Int.emod_nonneg (x / 3) (show ((lrow k).calls.length : Int) ≠ 0 by omega)
    have w2 := Int.emod_lt_of_pos (x / 3) (show (0 : Int) < (lrow k).calls.length by omega)
    have m1 := Int.emod_nonneg x (show (3 : Int) ≠ 0 by decide)
    have m2 := Int.emod_lt_of_pos x (show (0 : Int) < 3 by decide)
    have hwl : whichV k x < (lrow k).calls.length := by unfold whichV; omega
    obtain ⟨z, hz⟩ := lt_len rfl hwl
    have hop : opV k (whichV k x) = z.1 := by unfold opV; rw [List.getD_eq_getElem?_getD, hz]; rfl
    have hto : takesOf k (whichV k x) = z.2.1 := by unfold takesOf; rw [List.getD_eq_getElem?_getD, hz]; rfl
    have hthr : thrOf k (whichV k x) = z.2.2 := by unfold thrOf; rw [List.getD_eq_getElem?_getD, hz]; rfl
    have arg : ∀ b : Int, 0 < b → b ≤ 1000 → (if (lrow k).hi < IntKind.wrap .i64 ((lrow k).lo + x / b % 4) then (lrow k).hi else IntKind.wrap .i64 ((lrow k).lo + x / b % 4)) = argV (lrow k).lo (lrow k).hi x b := by
      intro b hb hb2
      have q1 := Int.emod_nonneg (x / b) (show (4 : Int) ≠ 0 by decide)
      have q2 := Int.emod_lt_of_pos (x / b) (show (0 : Int) < 4 by decide)
      rw [wrap64 (k := (lrow k).lo + x / b % 4) ⟨by omega, by omega⟩]
      rfl
    refine ⟨⟨w1, w2⟩, z.1, z.2.1, z.2.2, (show rdVar h (some 3) c.b (c.o + whichV k x * 3) = _ by simpa [encF] using hcs.agg hz), fun a b c t => a = z.1 ∧ b = (if takesOf k (whichV k x) > 0 then argV (lrow k).lo (lrow k).hi x 60 else 0) ∧ c = 0, ⟨fun hp => ?_, fun hp => ⟨rfl, ?_, rfl⟩⟩, ?_⟩
    · refine downQ hx64 (by decide) (by decide) fun t5 => ⟨_, rfl, modQ (div_is64 hx64 (by decide)) (by decide) (by decide) fun t6 => ⟨_, rfl, rfl, ?_, rfl⟩⟩
      rw [arg 60 (by decide) (by decide), hto, if_pos (by simpa using hp)]
    · rw [hto, if_neg (by simpa using hp)]
    rintro _ _ _ t7 ⟨rfl, rfl, rfl⟩
    refine ⟨fun a b c t => a = z.1 ∧ b = (if takesOf k (whichV k x) > 0 then argV (lrow k).lo (lrow k).hi x 60 else 0) ∧ c = (if takesOf k (whichV k x) > 1 then argV (lrow k).lo (lrow k).hi x 240 else 0), ⟨fun hp => ?_, fun hp => ⟨rfl, rfl, ?_⟩⟩, ?_⟩
    · refine downQ hx64 (by decide) (by decide) fun t8 => ⟨_, rfl, modQ (div_is64 hx64 (by decide)) (by decide) (by decide) fun t9 => ⟨_, rfl, rfl, rfl, ?_⟩⟩
      rw [arg 240 (by decide) (by decide), hto, if_pos (by simpa using hp)]
    · rw [hto, if_neg (by simpa using hp)]
    rintro _ _ _ t10 ⟨rfl, rfl, rfl⟩
    have hcall : callV k x = (z.1, (if takesOf k (whichV k x) > 0 then argV (lrow k).lo (lrow k).hi x 60 else 0), (if takesOf k (whichV k x) > 1 then argV (lrow k).lo (lrow k).hi x 240 else 0)) := by unfold callV; rw [hop]
    have hby := by_thr hk hwl
    rw [hthr] at hby
    generalize (if takesOf k (whichV k x) > 0 then argV (lrow k).lo (lrow k).hi x 60 else 0) = fx at hcall
    generalize (if takesOf k (whichV k x) > 1 then argV (lrow k).lo (lrow k).hi x 240 else 0) = fy at hcall
    refine ⟨fun hb => ⟨fun hn => ?_, fun hn => ?_⟩, fun hb => ?_⟩
    · have h3 : (x % 3).toNat < 3 := by omega
      obtain ⟨q, hq⟩ := lt_len hth.len.1.symm h3
      obtain ⟨l, hl⟩ := lt_len hth.len.2.symm h3
      obtain ⟨g, hg, hpush⟩ := hth.push hq hl (callV k x)
      have hll := rows_small (k := k) i (by omega) l (List.mem_of_getElem? hl)
      have hql : q.len = l.length := by
        have := (hth.ow _ q l hq hl).len
        rw [flatMap_len (es := 3) (fun _ => rfl)] at this
        omega
      have hn12 : (sprV k (ns.take i)).n < 12 := by simp only [decide_eq_true_eq] at hn; omega
      have hstep : sprStep k (sprV k (ns.take i)) x = ⟨(sprV k (ns.take i)).n + 1, (sprV k (ns.take i)).rows.set (x % 3).toNat (l ++ [callV k x])⟩ := by
        unfold sprStep
        rw [hby, hb, decide_eq_true hn12, List.getD_eq_getElem?_getD, hl]
        rfl
      obtain ⟨mid, hmid⟩ : ∃ mid : Heap, mid = t2 ++ (t3 ++ (t4 ++ (AObj.arr [.str z.1, .int .i64 z.2.1, .int .i64 z.2.2] 3 false :: (AObj.arr [.str z.1, .int .i64 fx, .int .i64 fy] 3 false :: (t7 ++ (t10 ++ [AObj.arr [.str z.1, .int .i64 fx, .int .i64 fy] 3 false])))))) := ⟨_, rfl⟩
      have hp := hpush mid
      refine ⟨⟨m1, m2⟩, q, ?_, l.flatMap encF, g, hg, by rw [hql]; omega, ⟨m1, m2⟩, by simp [hth.len.1]; omega, n - 1, by omega, i + 1, qs.set (x % 3).toNat ⟨h.length + (1 + 1) + (g.length + mid.length), 0, q.len + 1, false⟩, wrap_succ (by omega), by omega, ?_, ?_, ?_⟩
      · simp [partOf, hq]
      · rw [hst, hstep]
        exact wrap_succ (by omega)
      · have ei : h.length + (1 + 1) + (g.length + mid.length) = h.length + (1 + (1 + (g.length + (t2.length + (t3.length + (t4.length + (1 + (1 + (t7.length + (t10.length + 1)))))))))) := by
          rw [hmid]
          simp only [List.length_cons, List.length_append, List.length_nil]
          omega
        rw [ei, List.map_set]
        simp only [setCells, Nat.zero_add, Nat.mul_one]
        rfl
      · rw [hst, hstep]
        have eh : g ++ (mid ++ [AObj.arr (l.flatMap encF ++ encF (callV k x)) 3 false]) = g ++ (t2 ++ (t3 ++ (t4 ++ (AObj.arr [.str z.1, .int .i64 z.2.1, .int .i64 z.2.2] 3 false :: (AObj.arr [.str z.1, .int .i64 fx, .int .i64 fy] 3 false :: (t7 ++ (t10 ++ (AObj.arr [.str z.1, .int .i64 fx, .int .i64 fy] 3 false :: [AObj.arr (l.flatMap encF ++ [.str z.1, .int .i64 fx, .int .i64 fy]) 3 false])))))))) := by
          rw [hmid, hcall]
          simp [encF]
        rw [eh] at hp
        exact hp
    · have : sprStep k (sprV k (ns.take i)) x = sprV k (ns.take i) := by
        unfold sprStep
        rw [hby, hb, show decide ((sprV k (ns.take i)).n < 12) = false from decide_eq_false (by simp only [decide_eq_false_iff_not] at hn; omega)]
        rfl
      exact ⟨n - 1, by omega, i + 1, qs, wrap_succ (by omega), by omega, by rw [hst, this], rfl, by rw [hst, this]; exact hth.more⟩
    · have : sprStep k (sprV k (ns.take i)) x = sprV k (ns.take i) := by unfold sprStep; rw [hby, hb]; rfl
      exact ⟨n - 1, by omega, i + 1, qs, wrap_succ (by omega), by omega, by rw [hst, this], rfl, by rw [hst, this]; exact hth.more⟩
  · simp only [decide_eq_false_iff_not] at hc1
    have hin : i = ns.length := by omega
    subst hin
    rw [List.take_length] at hth
    refine hP _ _ ?_
    refine ⟨qs, ⟨by simp [Slc.len, hth.len.1], fun j q hq => ?_⟩, by rw [hth.len.1, hth.len.2], fun j q l hq hl => ⟨(hth.ow j q l hq hl).sl (by decide) (fun _ => rfl) fun p o ho => ?_, fun hn => ?_⟩⟩
    · have hlt := (List.getElem?_eq_some_iff.1 hq).1
      simp only [rdCells, at_add, at_addc, List.getElem?_cons_zero]
      rw [show ∀ (a b : AObj) (r : Heap), (a :: b :: r)[1]? = some b from fun _ _ _ => rfl]
      simp only [List.length_map]
      rw [if_pos (by omega), ← List.map_drop, List.drop_eq_getElem_cons (by omega)]
      have := (List.getElem?_eq_some_iff.1 hq).2
      simp [this]
    · simp only [Nat.add_assoc, at_add, at_addc]
      exact ho
    · rcases hth.ow j q l hq hl with ⟨h1, _⟩ | ⟨_, _, _, k1, h4, h5⟩
      · rw [h1] at hn
        cases hn
      · refine ⟨l.flatMap encF, false, ?_⟩
        rw [h4]
        simp only [Nat.add_assoc, at_add, at_addc]
        exact h5

/-! ### The law -/
theorem spread_no {name : List UInt8} (hn : ∀ k, k < 21 → nm k ≠ name) {s : Slc} {h : Heap} {P : AV → Heap → Prop} (hP : ∀ t, P (.tuple [.nilslice, .int .i64 5]) t) : CallE K6 46 [.str name, s.av] h P := by
  refine d46 (by kernel_rfl) ?_
  unfold D46
  exact CallE.lift le56 (CallE.lift le45 (find_no hn fun t => ⟨[], [], 0, nilS, 0, 0, false, false, false, false, rfl, fun _ => hP _, fun hb => by simp at hb⟩))
theorem spread_many {k : Nat} (hk : k < 21) {s : Slc} {ns : List Int} {h : Heap} (hs : Sl h s 1 encI ns) (h24 : 24 < ns.length) {P : AV → Heap → Prop} (hP : ∀ t, P (.tuple [.nilslice, .int .i64 1]) t) : CallE K6 46 [.str (nm k), s.av] h P := by
  refine d46 (by kernel_rfl) ?_
  unfold D46
  refine CallE.lift le56 (CallE.lift le45 (find_yes hk fun c t1 hc hcs => ⟨_, _, _, c, _, _, _, _, _, true, rfl, fun hb => by simp at hb, fun _ => ?_⟩))
  rw [hs.len]
  exact ⟨fun _ => hP _, fun hb => by simp only [decide_eq_false_iff_not] at hb; omega⟩

theorem libSpreads_ok {name : List UInt8} {s : Slc} {ns : List Int} {h : Heap} (hs : Sl h s 1 encI ns) (h64 : ∀ x ∈ ns, is64 x) {P : AV → Heap → Prop} (hP : ∀ t, P (.bool true) t) : CallE K6 12 [.str name, s.av] h P := by
  refine d12 (by kernel_rfl) ?_
  unfold D12
  refine CallE.lift le56 (CallE.lift le45 (awake4 ⟨true, rfl, fun hb => by simp at hb, fun _ => ?_⟩))
  rcases known_or name with ⟨k, hk, rfl⟩ | hn
  · refine CallE.lift le56 (CallE.lift le45 (refFind_yes hk fun c t2 hc hcs => ⟨_, _, c, _, _, _, _, true, rfl, ?_⟩))
    by_cases hlen : ns.length ≤ 24
    · refine spread_yes hk hs.ext hlen h64 fun b1 t3 hsc => ⟨⟨b1, 0, 3, false⟩, 0, rfl, fun hb => by simp at hb, fun _ => ?_⟩
      rw [hs.len]
      refine ⟨fun hb => by simp only [decide_eq_true_eq] at hb; omega, fun _ => ?_⟩
      refine intoQ (refSpread_yes hk hcs.ext hs.ext hlen h64 fun b2 t4 hsr => ⟨⟨b2, 0, 3, false⟩, rfl, fun _ => ⟨fun hb => by simp at hb, fun _ => ?_⟩, fun hb => by simp [Slc.len] at hb⟩)
      have gl := (good_all hk ns).len
      obtain ⟨qs1, sa1, sb1, sr1⟩ := (hsc _ rfl).rows
      obtain ⟨qs2, sa2, sb2, sr2⟩ := hsr.rows
      have small := small_rows hk ns
      have each : ∀ j, j < 3 → ∃ q1 q2 l, qs1[j]? = some q1 ∧ qs2[j]? = some q2 ∧ (sprV k ns).rows[j]? = some l ∧ l.length ≤ 140737488355327 := by
        intro j hj
        obtain ⟨l, hl⟩ := lt_len rfl (show j < (sprV k ns).rows.length by omega)
        obtain ⟨q1, hq1⟩ := lt_len (sb1.trans gl).symm hj
        obtain ⟨q2, hq2⟩ := lt_len (sb2.trans gl).symm hj
        exact ⟨q1, q2, l, hq1, hq2, hl, small.row l (List.mem_of_getElem? hl)⟩
      obtain ⟨p0, q0, r0, a0, b0, c0, e0⟩ := each 0 (by decide)
      obtain ⟨p1, q1, r1, a1, b1', c1, e1⟩ := each 1 (by decide)
      obtain ⟨p2, q2, r2, a2, b2', c2, e2⟩ := each 2 (by decide)
      have in3 : ∀ (b j : Nat), j < 3 → (0 : Int) ≤ (j : Int) ∧ (j : Int) < (((⟨b, 0, 3, false⟩ : Slc).len : Nat) : Int) := fun b j hj => ⟨by omega, by simp only [Slc.len, cond_false]; omega⟩
      refine ⟨in3 b1 0 (by decide), p0, sa1.ext.cell0 a0 rfl, in3 b2 0 (by decide), q0, sa2.ext.cell0 b0 rfl, ?_⟩
      refine same_ok (l := r0) (sr1 0 p0 r0 a0 c0).1.ext (sr2 0 q0 r0 b0 c0).1.ext e0 fun t5 => ⟨true, rfl, fun _ => ⟨in3 b1 1 (by decide), p1, sa1.ext.cell0 a1 rfl, in3 b2 1 (by decide), q1, sa2.ext.cell0 b1' rfl, ?_⟩, fun hb => by simp at hb⟩
      refine same_ok (l := r1) (sr1 1 p1 r1 a1 c1).1.ext (sr2 1 q1 r1 b1' c1).1.ext e1 fun t6 => ⟨true, rfl, fun _ => ⟨in3 b1 2 (by decide), p2, sa1.ext.cell0 a2 rfl, in3 b2 2 (by decide), q2, sa2.ext.cell0 b2' rfl, ?_⟩, fun hb => by simp at hb⟩
      exact same_ok (l := r2) (sr1 2 p2 r2 a2 c2).1.ext (sr2 2 q2 r2 b2' c2).1.ext e2 fun t7 => ⟨true, rfl, hP _⟩
    · refine spread_many hk hs.ext (by omega) fun t3 => ⟨nilS, 1, rfl, fun hb => by simp at hb, fun _ => ?_⟩
      rw [hs.len]
      exact ⟨fun _ => ⟨fun _ => put_b (b := true) (by decide) (hP _), fun hb => by simp [nilS, Slc.len] at hb⟩, fun hb => by simp only [decide_eq_false_iff_not] at hb; omega⟩
  · refine CallE.lift le56 (CallE.lift le45 (refFind_no hn fun t2 => ⟨[], 0, nilS, 0, 0, false, false, false, rfl, ?_⟩))
    refine spread_no hn fun t3 => ⟨nilS, 5, rfl, fun _ => ⟨fun _ => put_b (b := true) (by decide) (hP _), fun hb => by simp [nilS, Slc.len] at hb⟩, fun hb => by simp at hb⟩
end Go.Proofs.YtifkphfhadimaaaGreatDoor.Mini

