/- The law ProgressKinds in any heap, and the law ProgressTable, on the abstract machine. -/
import Derived.Test.YthedodaghjpdoaaRNames
set_option linter.unusedVariables false
set_option linter.unusedSimpArgs false
set_option maxRecDepth 100000
namespace Go.Proofs.Ythedodaghjpdoaa.Kinds
open Go.Abs Mini
attribute [local irreducible] hr rtObj hs tObj

theorem awake_ok {h : Heap} {P : AV → Heap → Prop} (hP : ∀ t, P (.bool true) t) : CallE K 5 [] h P := by
  obtain ⟨H, hx, hd⟩ := awake_does h
  exact callE_of_ext hx hd fun t _ => hP t
theorem bound_ok {h : Heap} (name op : List UInt8) (x y : Int) {P : AV → Heap → Prop} (hP : ∀ t, P (.tuple [.int .i64 (boundG name op x y).1, .int .i64 (boundG name op x y).2]) t) : CallE K 7 [.str name, .str op, .int .i64 x, .int .i64 y] h P := by
  obtain ⟨H, hx, hd⟩ := bound_does h name op x y
  exact callE_of_ext hx hd fun t _ => hP t
theorem rbound_ok {h : Heap} (name op : List UInt8) (x y : Int) {P : AV → Heap → Prop} (hP : ∀ t, P (.int .i64 (boundR name op x y)) t) : CallE K 11 [.str name, .str op, .int .i64 x, .int .i64 y] h P :=
  callE_of_ext (Ext.refl h) (rbound_does h name op x y) fun t _ => hP t
theorem rfind_ok {h : Heap} (name : List UInt8) {P : AV → Heap → Prop} (h1 : ∀ i c t, i < 21 → idxR name = (i : Nat) → (h ++ t)[c]? = some (rObj (rrow i).at_) → P (.tuple [.agg (R7s i ⟨c, 0, (rcalls i).length, false⟩), .bool true]) t)
    (h2 : idxR name = -1 → ∀ t, P (.tuple [.agg zero7, .bool false]) t) : CallE K 8 [.str name] h P := by
  rcases rfind_does h name with ⟨i, H, c, hi, hf, hx, hc, hd⟩ | ⟨hn, H, hx, hd⟩
  · exact callE_of_ext hx hd fun t e => h1 i c t hi hf (by rw [← e]; exact hc)
  · exact callE_of_ext hx hd fun t e => h2 hn t
theorem rtakes_ok {h : Heap} {i c : Nat} {op : List UInt8} (hi : i < 21) (hc : h[c]? = some (rObj (rrow i).at_)) {P : AV → Heap → Prop} (hP : ∀ t, P (.int .i64 (takesR i op)) t) : CallE K 9 [.agg (R7s i ⟨c, 0, (rcalls i).length, false⟩), .str op] h P := by
  obtain ⟨H, hx, hd⟩ := rtakes_does (op := op) hi hc
  exact callE_of_ext hx hd fun t _ => hP t

theorem pk_ok {h : Heap} (a b : List UInt8) (x y : Int) {P : AV → Heap → Prop} (hP : ∀ t, P (.bool true) t) : CallE K 3 [.agg [.str a, .str b, .int .i64 x, .int .i64 y]] h P := by
  refine d3 rfl ?_
  unfold D3
  refine awake_ok fun t1 => ⟨true, rfl, fun h => by simp at h, fun _ => ?_⟩
  refine kind_ok _ _ fun t2 => ⟨_, _, rfl, ?_⟩
  refine bound_ok _ _ _ _ fun t3 => ⟨_, _, rfl, ?_⟩
  refine rfind_ok _ (fun i c t4 hi hf hc => ?_) (fun hno t4 => ?_)
  · refine ⟨_, _, ⟨c, 0, (rcalls i).length, false⟩, _, _, _, _, true, rfl, fun h => by simp at h, fun _ => ?_⟩
    have hc' : (h ++ (AObj.arr [.str a, .str b, .int .i64 x, .int .i64 y] 4 false :: (t1 ++ (t2 ++ (t3 ++ (t4 ++ [AObj.arr (R7s i ⟨c, 0, (rcalls i).length, false⟩) 7 false]))))))[c]? = some (rObj (rrow i).at_) := by
      refine Ext.get ⟨[AObj.arr (R7s i ⟨c, 0, (rcalls i).length, false⟩) 7 false], ?_⟩ hc
      simp
    refine rtakes_ok hi hc' fun t5 => ⟨_, rfl, ?_⟩
    have hn : idxN a = i := by rw [← idx_same]; exact hf
    rcases firstFrom_spec (fun j => (rcallAt i j).1 == b) (rcalls i).length 0 with hj | ⟨j, _, hjl, hj, _⟩
    · have hj : rjOf i b = -1 := hj
      have hjj : jOf i b = -1 := by rw [← j_same hi]; exact hj
      have ht : takesG a b = (0, 1) := by simp [takesG, hn, hjj, show ¬ (i : Int) = -1 by omega]
      have hk : kindG a b = (0, 1) := by simp [kindG, ht]
      have hb : boundG a b x y = (0, 1) := by simp [boundG, hk]
      have htr : takesR i b = -1 := by simp [takesR, hj]
      rw [hk, hb, htr]
      simp [hP]
    · have hj : rjOf i b = (j : Nat) := hj
      have hjl : j < (rcalls i).length := by omega
      have hjj : jOf i b = (j : Nat) := by rw [← j_same hi]; exact hj
      have ht : takesG a b = ((callAt i j).2, 0) := by simp [takesG, hn, hjj, show ¬ (i : Int) = -1 by omega, show ¬ (j : Int) = -1 by omega]
      have htr : takesR i b = (callAt i j).2 := by simp [takesR, hj, show ¬ (j : Int) = -1 by omega, rcall_same hi hjl]
      have hp := takes_pos i hi j (by rw [← len_same hi]; exact hjl)
      have hs := kinds_same a b
      have hk : kindG a b = (kindR a b, 0) := by
        cases hfr : freeG a b with
        | true => simp [kindG, ht, hfr, ← hs]
        | false => simp [kindG, ht, hfr, ← hs]
      rw [htr]
      refine ⟨fun hlt => by simp at hlt; omega, fun _ => ?_⟩
      refine rkind_ok _ _ fun t6 => ⟨_, rfl, ?_⟩
      rw [hk]
      refine ⟨fun _ => ⟨fun h => by simp at h, fun _ => ?_⟩, fun h => by simp at h⟩
      by_cases ho : outR x y
      · have hb : boundG a b x y = (0, 1) := by simp [boundG, hk, ho]
        rw [hb]
        unfold outR at ho
        by_cases c1 : x < 0
        · simp [c1, hP]
        · by_cases c2 : x > 1000000
          · simp [c1, c2, hP]
          · by_cases c3 : y < 0
            · simp [c1, c2, c3, hP]
            · have c4 : y > 1000000 := by omega
              simp [c1, c2, c3, c4, hP]
      · have hb : boundG a b x y = (boundR a b x y, 0) := by
          have hkk : (kindG a b).2 = 0 := by rw [hk]
          have hk1 : (kindG a b).1 = kindR a b := by rw [hk]
          simp only [boundG, hkk, ne_eq, not_true, if_false, ho, hk1, boundR]
          split <;> rfl
        rw [hb]
        unfold outR at ho
        have c1 : ¬ x < 0 := by omega
        have c2 : ¬ x > 1000000 := by omega
        have c3 : ¬ y < 0 := by omega
        have c4 : ¬ y > 1000000 := by omega
        refine ⟨fun _ => ⟨fun _ => ⟨fun _ => ⟨fun h => by simp [c4] at h, fun _ => ?_⟩, fun h => by simp [c3] at h⟩, fun h => by simp [c2] at h⟩, fun h => by simp [c1] at h⟩
        refine rbound_ok _ _ _ _ fun t7 => ⟨_, rfl, ?_⟩
        simp [hP]
  · refine ⟨_, _, ⟨0, 0, 0, true⟩, _, _, _, _, false, rfl, fun _ => ?_, fun h => by simp at h⟩
    have hn : idxN a = -1 := by rw [← idx_same]; exact hno
    have ht : takesG a b = (0, 5) := by simp [takesG, hn]
    have hk : kindG a b = (0, 5) := by simp [kindG, ht]
    have hb : boundG a b x y = (0, 5) := by simp [boundG, hk]
    rw [hk, hb]
    simp [hP]

theorem u64_mod (n : Int) : ∃ i : Nat, i < 52 ∧ IntKind.wrap .i64 (Int.tmod (IntKind.wrap .u64 n) (IntKind.wrap .u64 ((52 : Nat) : Int))) = (i : Int) := by
  have e2 : IntKind.wrap .u64 ((52 : Nat) : Int) = 52 := by decide
  rw [e2]
  have h0 : 0 ≤ IntKind.wrap .u64 n := by
    simp only [IntKind.wrap, IntKind.signed, Bool.false_and, Bool.false_eq_true, if_false]
    exact Int.emod_nonneg _ (by decide)
  generalize IntKind.wrap .u64 n = m at h0
  have e3 : Int.tmod m 52 = m % 52 := Int.tmod_eq_emod_of_nonneg h0
  rw [e3]
  have h1 := Int.emod_nonneg m (show (52 : Int) ≠ 0 by decide)
  have h2 := Int.emod_lt_of_pos m (show (0 : Int) < 52 by decide)
  refine ⟨(m % 52).toNat, by omega, ?_⟩
  generalize m % 52 = r at h1 h2
  have e4 : IntKind.wrap .i64 r = r := by
    have e1 : (2 : Int) ^ 64 = 18446744073709551616 := by decide
    have e2 : (2 : Int) ^ (64 - 1) = 9223372036854775808 := by decide
    simp only [IntKind.wrap, IntKind.signed, IntKind.bits, Bool.true_and, decide_eq_true_eq, e1, e2]
    split <;> omega
  omega

theorem prows_len : prows.length = 52 := by kernel_rfl

theorem pt_ok {h : Heap} (n x y : Int) {P : AV → Heap → Prop} (hP : ∀ t, P (.bool true) t) : CallE K 4 [.int .i64 n, .int .i64 x, .int .i64 y] h P := by
  refine d4 rfl ?_
  unfold D4
  refine awake_ok fun t1 => ⟨true, rfl, fun h => by simp at h, fun _ => ?_⟩
  refine ptable_ok fun s t2 hs => ⟨s, rfl, ?_⟩
  refine rtab28_ok fun s' t3 hs' => ⟨s', rfl, ?_⟩
  rw [rows_same] at hs'
  rw [hs.len, hs'.len, prows_len]
  obtain ⟨i, hi, e⟩ := u64_mod n
  rw [e]
  refine ⟨fun h => by simp at h, fun _ => ⟨by decide, ?_⟩⟩
  obtain ⟨p, hp⟩ := lt_len prows_len.symm hi
  have k1 := hs.ext (H' := h ++ (t1 ++ (t2 ++ t3)))
  have k2 := hs'.ext (H' := h ++ (t1 ++ (t2 ++ t3)))
  refine ⟨by omega, p.1, p.2.1, p.2.2, k1.agg hp, by omega, p.1, p.2.1, p.2.2, k2.agg hp, fun _ => ?_, fun h => by simp at h⟩
  refine ⟨by omega, _, k1.cell0 hp rfl, by omega, _, k1.cell (c := 1) hp rfl, ?_⟩
  exact pk_ok _ _ _ _ fun t4 => ⟨true, rfl, hP _⟩
end Go.Proofs.Ythedodaghjpdoaa.Kinds
