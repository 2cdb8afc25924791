/- Layer 16: the program's Spread as a plain function. -/
import Derived.Test.YtifkphfhadimaaaGreatDoorLwH
set_option linter.unusedVariables false
set_option linter.unusedSimpArgs false
set_option maxRecDepth 100000
namespace Go.Proofs.YtifkphfhadimaaaGreatDoor.Mini
open Go.Abs

def encI (x : Int) : List AV := [.int .i64 x]
theorem spr_take {k : Nat} {ns : List Int} {i : Nat} {x : Int} (h : ns[i]? = some x) : sprV k (ns.take (i + 1)) = sprStep k (sprV k (ns.take i)) x := by
  unfold sprV
  rw [List.take_add_one, h, List.foldl_append]
  rfl
theorem row_lo {k : Nat} (hk : k < 21) : -1000 ≤ (lrow k).lo ∧ (lrow k).lo ≤ 1000 ∧ 0 < (lrow k).calls.length ∧ (lrow k).calls.all (fun c => decide (c.1.length ≤ 10)) = true := by
  have : ∀ k, k < 21 → -1000 ≤ (lrow k).lo ∧ (lrow k).lo ≤ 1000 ∧ 0 < (lrow k).calls.length ∧ (lrow k).calls.all (fun c => decide (c.1.length ≤ 10)) = true := by decide
  exact this k hk

theorem rows_step {k m : Nat} {s : SprS} {x : Int} (h : ∀ l ∈ s.rows, l.length ≤ m) : ∀ l ∈ (sprStep k s x).rows, l.length ≤ m + 1 := by
  intro l hl
  unfold sprStep at hl
  split at hl
  · rcases List.mem_or_eq_of_mem_set hl with h1 | h1
    · have := h l h1
      omega
    · subst h1
      rw [List.length_append]
      have : (s.rows.getD (x % 3).toNat []).length ≤ m := by
        rw [List.getD_eq_getElem?_getD]
        cases hg : s.rows[(x % 3).toNat]? with
        | none => simp
        | some r => exact h r (List.mem_of_getElem? hg)
      simp only [List.length_singleton]
      omega
  · have := h l hl
    omega
theorem rows_small {k : Nat} {ns : List Int} : ∀ i : Nat, i ≤ ns.length → ∀ l ∈ (sprV k (ns.take i)).rows, l.length ≤ i
  | 0, _ => by simp [sprV]
  | i + 1, h => by
    obtain ⟨x, hx⟩ := lt_len rfl (show i < ns.length by omega)
    rw [spr_take hx]
    exact rows_step (rows_small i (by omega))
/-- A script on the heap whose rows lie in objects of three cells each. -/
structure ScriptW (h : Heap) (s : Slc) (ls : List (List Form)) : Prop where
  rows : ∃ qs : List Slc, Sl h s 1 (fun q : Slc => [q.av]) qs ∧ qs.length = ls.length ∧ ∀ (i : Nat) (q : Slc) (l : List Form), qs[i]? = some q → ls[i]? = some l → Sl h q 3 encF l ∧ (q.nil = false → ∃ c ro, h[q.b]? = some (.arr c 3 ro))
theorem ScriptW.script {h : Heap} {s : Slc} {ls : List (List Form)} (k : ScriptW h s ls) : Script h s ls := by
  obtain ⟨qs, h1, h2, h3⟩ := k.rows
  exact ⟨qs, h1, h2, fun i q l hq hl => (h3 i q l hq hl).1⟩
theorem spread_yes {k : Nat} (hk : k < 21) {s : Slc} {ns : List Int} {h : Heap} (hs : Sl h s 1 encI ns) (h24 : ns.length ≤ 24) (h64 : ∀ x ∈ ns, is64 x) {P : AV → Heap → Prop} (hP : ∀ (b : Nat) t, (∀ hh : Heap, hh.length = h.length → ScriptW (hh ++ t) ⟨b, 0, 3, false⟩ (sprV k ns).rows) → P (.tuple [.slice b 0 3, .int .i64 0]) t) : CallE K6 46 [.str (nm k), s.av] h P := by
  refine d46 (by kernel_rfl) ?_
  unfold D46
  obtain ⟨l1, l2, l3, l4⟩ := row_lo hk
  have hfew := few hk
  refine CallE.lift le56 (CallE.lift le45 (find_yes hk fun c t1 hc hcs => ⟨_, _, _, c, _, _, _, _, _, true, rfl, fun hb => by simp at hb, fun _ => ?_⟩))
  rw [hs.len, hcs.len]
  refine ⟨fun hb => by simp only [decide_eq_true_eq] at hb; omega, fun _ => ⟨by decide, ?_⟩⟩
  refine ⟨fun n n2 x cs t => ∃ (i : Nat) (qs : List Slc), x = i ∧ n + i = ns.length ∧ n2 = (sprV k (ns.take i)).n ∧ cs = qs.map Slc.av ∧ Three (h.length + (t1.length + (1 + 1))) t qs (sprV k (ns.take i)).rows, ⟨ns.length, 0, [nilS, nilS, nilS], rfl, rfl, rfl, rfl, Three.start⟩, ?_⟩
  rintro n _ _ _ t2 ⟨i, qs, rfl, hi, rfl, rfl, hth⟩
  refine ⟨fun hc1 => ?_, fun hc1 => ?_⟩
  · simp only [decide_eq_true_eq] at hc1
    have hi' : i < ns.length := by omega
    obtain ⟨x, hx⟩ := lt_len rfl hi'
    have hx64 := h64 x (List.mem_of_getElem? hx)
    have hst := spr_take (k := k) hx
    refine ⟨by omega, x, by simpa using hs.cell0 hx (v := .int .i64 x) rfl, ?_⟩
    refine split_ok hx64 (by decide) (by decide) fun t3 => ⟨_, _, rfl, ?_⟩
    refine split_ok (div_is64 hx64 (by decide)) (by omega) (by omega) fun t4 => ⟨_, _, rfl, ?_⟩
    have w1 := Int.emod_nonneg (x / 3) (show ((lrow k).calls.length : Int) ≠ 0 by omega)
    have w2 := Int.emod_lt_of_pos (x / 3) (show (0 : Int) < (lrow k).calls.length by omega)
    have m1 := Int.emod_nonneg x (show (3 : Int) ≠ 0 by decide)
    have m2 := Int.emod_lt_of_pos x (show (0 : Int) < 3 by decide)
    obtain ⟨z, hz⟩ := lt_len rfl (show whichV k x < (lrow k).calls.length by unfold whichV; omega)
    have hop : opV k (whichV k x) = z.1 := by unfold opV; rw [List.getD_eq_getElem?_getD, hz]; rfl
    have hto : takesOf k (whichV k x) = z.2.1 := by unfold takesOf; rw [List.getD_eq_getElem?_getD, hz]; rfl
    have f6 : z.1.length ≤ 10 := by simpa using List.all_eq_true.1 l4 z (List.mem_of_getElem? hz)
    refine ⟨⟨w1, w2⟩, z.1, hcs.ext.cell0 hz rfl, fun a b c t => a = z.1 ∧ b = (if takesOf k (whichV k x) > 0 then argV (lrow k).lo (lrow k).hi x 60 else 0) ∧ c = 0, ⟨⟨w1, w2⟩, z.2.1, hcs.ext.cell hz (c := 1) rfl, fun hp => ?_, fun hp => ⟨rfl, ?_, rfl⟩⟩, ?_⟩
    · refine arg_ok (x := x) (lo := (lrow k).lo) (hi := (lrow k).hi) hx64 (by decide) (by decide) l1 l2 (rdVar_at (c := [.int .i64 x]) (es := 1) (ro := false) (by simp only [at_add, at_addc, at_len]; rfl) rfl)
        (rdVar_at (c := [(.str (nm k)), (.str (src75 k)), (.int .i64 (lrow k).rule), c.av, (.int .i64 (lrow k).lo), (.int .i64 (lrow k).hi), (.bool (lrow k).safe), (.bool (lrow k).strict), (.bool (lrow k).point)]) (es := 9) (ro := false) (by simp only [at_add, at_addc, at_len]; rfl) rfl)
        (rdVar_at (c := [(.str (nm k)), (.str (src75 k)), (.int .i64 (lrow k).rule), c.av, (.int .i64 (lrow k).lo), (.int .i64 (lrow k).hi), (.bool (lrow k).safe), (.bool (lrow k).strict), (.bool (lrow k).point)]) (es := 9) (ro := false) (by simp only [at_add, at_addc, at_len]; rfl) rfl) fun t5 => ⟨_, rfl, rfl, ?_, rfl⟩
      rw [hto, if_pos (by simpa using hp)]
    · rw [hto, if_neg (by simpa using hp)]
    rintro _ _ _ t6 ⟨rfl, rfl, rfl⟩
    refine ⟨fun a b c t => a = z.1 ∧ b = (if takesOf k (whichV k x) > 0 then argV (lrow k).lo (lrow k).hi x 60 else 0) ∧ c = (if takesOf k (whichV k x) > 1 then argV (lrow k).lo (lrow k).hi x 240 else 0), ⟨⟨w1, w2⟩, z.2.1, hcs.ext.cell hz (c := 1) rfl, fun hp => ?_, fun hp => ⟨rfl, rfl, ?_⟩⟩, ?_⟩
    · refine arg_ok (x := x) (lo := (lrow k).lo) (hi := (lrow k).hi) hx64 (by decide) (by decide) l1 l2 (rdVar_at (c := [.int .i64 x]) (es := 1) (ro := false) (by simp only [at_add, at_addc, at_len]; rfl) rfl)
        (rdVar_at (c := [(.str (nm k)), (.str (src75 k)), (.int .i64 (lrow k).rule), c.av, (.int .i64 (lrow k).lo), (.int .i64 (lrow k).hi), (.bool (lrow k).safe), (.bool (lrow k).strict), (.bool (lrow k).point)]) (es := 9) (ro := false) (by simp only [at_add, at_addc, at_len]; rfl) rfl)
        (rdVar_at (c := [(.str (nm k)), (.str (src75 k)), (.int .i64 (lrow k).rule), c.av, (.int .i64 (lrow k).lo), (.int .i64 (lrow k).hi), (.bool (lrow k).safe), (.bool (lrow k).strict), (.bool (lrow k).point)]) (es := 9) (ro := false) (by simp only [at_add, at_addc, at_len]; rfl) rfl) fun t7 => ⟨_, rfl, rfl, rfl, ?_⟩
      rw [hto, if_pos (by simpa using hp)]
    · rw [hto, if_neg (by simpa using hp)]
    rintro _ _ _ t8 ⟨rfl, rfl, rfl⟩
    have hcall : callV k x = (z.1, (if takesOf k (whichV k x) > 0 then argV (lrow k).lo (lrow k).hi x 60 else 0), (if takesOf k (whichV k x) > 1 then argV (lrow k).lo (lrow k).hi x 240 else 0)) := by unfold callV; rw [hop]
    generalize (if takesOf k (whichV k x) > 0 then argV (lrow k).lo (lrow k).hi x 60 else 0) = fx at hcall
    generalize (if takesOf k (whichV k x) > 1 then argV (lrow k).lo (lrow k).hi x 240 else 0) = fy at hcall
    refine CallE.lift le56 (by_ok hk (c := c) (thread := x % 3) (op := z.1) (by omega) fun t9 => ⟨_, rfl, fun hb => ⟨fun hn => ?_, fun hn => ?_⟩, fun hb => ?_⟩)
    · have h3 : (x % 3).toNat < 3 := by omega
      obtain ⟨q, hq⟩ := lt_len hth.len.1.symm h3
      obtain ⟨l, hl⟩ := lt_len hth.len.2.symm h3
      obtain ⟨g, hg, hpush⟩ := hth.push hq hl (callV k x)
      have hll := rows_small (k := k) i (by omega) l (List.mem_of_getElem? hl)
      have hql : q.len = l.length := by
        have := (hth.ow _ q l hq hl).len
        rw [flatMap_len (es := 3) (fun _ => rfl)] at this
        omega
      have hn12 : (sprV k (ns.take i)).n < 12 := by simp only [decide_eq_true_eq] at hn; omega
      have hstep : sprStep k (sprV k (ns.take i)) x = ⟨(sprV k (ns.take i)).n + 1, (sprV k (ns.take i)).rows.set (x % 3).toNat (l ++ [callV k x])⟩ := by
        unfold sprStep
        rw [hcall, hb, decide_eq_true hn12, ← hcall, List.getD_eq_getElem?_getD, hl]
        rfl
      obtain ⟨mid, hmid⟩ : ∃ mid : Heap, mid = AObj.arr [.int .i64 x] 1 false :: (t3 ++ (t4 ++ (AObj.arr [.str z.1, .int .i64 fx, .int .i64 fy] 3 false :: (t6 ++ (t8 ++ (t9 ++ [AObj.arr [.str z.1, .int .i64 fx, .int .i64 fy] 3 false])))))) := ⟨_, rfl⟩
      have hp := hpush mid
      refine ⟨⟨m1, m2⟩, q, ?_, l.flatMap encF, g, hg, by rw [hql]; omega, ⟨m1, m2⟩, by simp [hth.len.1]; omega, n - 1, by omega, i + 1, qs.set (x % 3).toNat ⟨h.length + (t1.length + (1 + 1)) + (g.length + mid.length), 0, q.len + 1, false⟩, wrap_succ (by omega), by omega, ?_, ?_, ?_⟩
      · simp [partOf, hq]
      · rw [hst, hstep]
        exact wrap_succ (by omega)
      · have ei : h.length + (t1.length + (1 + 1)) + (g.length + mid.length) = h.length + (t1.length + (1 + (1 + (g.length + (1 + (t3.length + (t4.length + (1 + (t6.length + (t8.length + (t9.length + 1))))))))))) := by
          rw [hmid]
          simp only [List.length_cons, List.length_append, List.length_nil]
          omega
        rw [ei, List.map_set]
        simp only [setCells, Nat.zero_add, Nat.mul_one]
        rfl
      · rw [hst, hstep]
        have eh : g ++ (mid ++ [AObj.arr (l.flatMap encF ++ encF (callV k x)) 3 false]) = g ++ (AObj.arr [.int .i64 x] 1 false :: (t3 ++ (t4 ++ (AObj.arr [.str z.1, .int .i64 fx, .int .i64 fy] 3 false :: (t6 ++ (t8 ++ (t9 ++ (AObj.arr [.str z.1, .int .i64 fx, .int .i64 fy] 3 false :: [AObj.arr (l.flatMap encF ++ [.str z.1, .int .i64 fx, .int .i64 fy]) 3 false])))))))) := by
          rw [hmid, hcall]
          simp [encF]
        rw [eh] at hp
        exact hp
    · refine ⟨n - 1, by omega, i + 1, qs, wrap_succ (by omega), by omega, ?_, rfl, ?_⟩
      · have : sprStep k (sprV k (ns.take i)) x = sprV k (ns.take i) := by unfold sprStep; rw [hcall, hb, show decide ((sprV k (ns.take i)).n < 12) = false from decide_eq_false (by simp only [decide_eq_false_iff_not] at hn; omega)]; rfl
        rw [hst, this]
      · have : sprStep k (sprV k (ns.take i)) x = sprV k (ns.take i) := by unfold sprStep; rw [hcall, hb, show decide ((sprV k (ns.take i)).n < 12) = false from decide_eq_false (by simp only [decide_eq_false_iff_not] at hn; omega)]; rfl
        rw [hst, this]
        exact hth.more
    · have : sprStep k (sprV k (ns.take i)) x = sprV k (ns.take i) := by unfold sprStep; rw [hcall, hb]; rfl
      exact ⟨n - 1, by omega, i + 1, qs, wrap_succ (by omega), by omega, by rw [hst, this], rfl, by rw [hst, this]; exact hth.more⟩
  · simp only [decide_eq_false_iff_not] at hc1
    have hin : i = ns.length := by omega
    subst hin
    rw [List.take_length] at hth
    refine hP _ _ fun hh he => ?_
    rw [← he] at hth ⊢
    refine ⟨qs, ⟨by simp [Slc.len, hth.len.1], fun j q hq => ?_⟩, by rw [hth.len.1, hth.len.2], fun j q l hq hl => ⟨(hth.ow j q l hq hl).sl (by decide) (fun _ => rfl) fun p o ho => ?_, fun hn => ?_⟩⟩
    · have hlt := (List.getElem?_eq_some_iff.1 hq).1
      simp only [rdCells, at_add, at_addc, List.getElem?_cons_zero]
      rw [show ∀ (a b : AObj) (r : Heap), (a :: b :: r)[1]? = some b from fun _ _ _ => rfl]
      simp only [List.length_map]
      rw [if_pos (by omega), ← List.map_drop, List.drop_eq_getElem_cons (by omega)]
      have := (List.getElem?_eq_some_iff.1 hq).2
      simp [this]
    · simp only [Nat.add_assoc, at_add, at_addc]
      exact ho
    · rcases hth.ow j q l hq hl with ⟨h1, _⟩ | ⟨_, _, _, k1, h4, h5⟩
      · rw [h1] at hn
        cases hn
      · refine ⟨l.flatMap encF, false, ?_⟩
        rw [h4]
        simp only [Nat.add_assoc, at_add, at_addc]
        exact h5
end Go.Proofs.YtifkphfhadimaaaGreatDoor.Mini

