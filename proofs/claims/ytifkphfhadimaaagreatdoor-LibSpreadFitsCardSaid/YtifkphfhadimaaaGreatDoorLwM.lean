/- Layer 16: the law LibSpreadFits. -/
import Derived.Test.YtifkphfhadimaaaGreatDoorLwK
set_option linter.unusedVariables false
set_option linter.unusedSimpArgs false
set_option maxRecDepth 100000
namespace Go.Proofs.YtifkphfhadimaaaGreatDoor.Mini
open Go.Abs

theorem spr_push (k : Nat) (ns : List Int) (x : Int) : sprV k (ns ++ [x]) = sprStep k (sprV k ns) x := by
  unfold sprV
  rw [List.foldl_append]
  rfl
/-- A shorter list of the same slice. -/
theorem Sl.front {α : Type} {H : Heap} {s : Slc} {es : Nat} {f : α → List AV} {l m : List α} (k : Sl H s es f (l ++ m)) (hn : s.nil = false) : Sl H ⟨s.b, s.o, l.length, false⟩ es f l := by
  refine ⟨rfl, fun i x hi => ?_⟩
  have := k.get i x (by rw [List.getElem?_append_left (List.getElem?_eq_some_iff.1 hi).1]; exact hi)
  exact this
/-- Row t after one number more. -/
theorem row_more {k : Nat} (hk : k < 21) (ns : List Int) (x : Int) : ∃ j : Nat, j < 3 ∧ (∀ t l, (sprV k ns).rows[t]? = some l → ∃ m : List Form, (sprV k (ns ++ [x])).rows[t]? = some (l ++ m) ∧ m.length ≤ 1 ∧ (t ≠ j → m = [])) := by
  have g := good_all hk ns
  have m1 := Int.emod_nonneg x (show (3 : Int) ≠ 0 by decide)
  have m2 := Int.emod_lt_of_pos x (show (0 : Int) < 3 by decide)
  refine ⟨(x % 3).toNat, by omega, fun t l hl => ?_⟩
  rw [spr_push]
  unfold sprStep
  split
  · by_cases ht : t = (x % 3).toNat
    · subst ht
      refine ⟨[callV k x], ?_, by simp, fun h => absurd rfl h⟩
      rw [List.getElem?_set_self (by rw [g.len]; omega), List.getD_eq_getElem?_getD, hl]
      rfl
    · exact ⟨[], by rw [List.getElem?_set_ne (by omega), List.append_nil]; exact hl, by simp, fun _ => rfl⟩
  · exact ⟨[], by rw [List.append_nil]; exact hl, by simp, fun _ => rfl⟩

theorem Sl.cut {α : Type} {H : Heap} {s : Slc} {f : α → List AV} {l m : List α} {n : Nat} (k : Sl H s 3 f (l ++ m)) (hn : n = l.length) : Sl H ⟨s.b, s.o + Int.toNat (0 : Int) * 3, Int.toNat ((n : Nat) : Int) - Int.toNat (0 : Int), s.nil⟩ 3 f l := by
  subst hn
  cases hs : s.nil with
  | true =>
    have h1 := k.len
    simp only [Slc.len, hs, cond_true, List.length_append] at h1
    have h2 : l = [] := List.eq_nil_of_length_eq_zero (by omega)
    subst h2
    exact ⟨rfl, fun i x hi => by simp at hi⟩
  | false => exact (Sl.front k hs : Sl H ⟨s.b, s.o, l.length, false⟩ 3 f l)
theorem ow_take1 {base : Nat} {t : Heap} {l : Slc} {ns : List Int} (how : Ow base t l 1 (ns.flatMap encI)) : l.len = ns.length := by
  have := how.len
  rw [flatMap_len (es := 1) (fun _ => rfl)] at this
  omega
instance nilapp (b H : Heap) [k : ExtC b H] : ExtC ([] ++ b) H := ⟨k.out⟩
theorem libSpreadFits_ok {w x : Int} {s : Slc} {ns : List Int} {h : Heap} (hs : Sl h s 1 encI ns) (h64 : ∀ x ∈ ns, is64 x) (hx : is64 x) (hlen : ns.length ≤ 140737488355327) {P : AV → Heap → Prop} (hP : ∀ t, P (.bool true) t) : CallE K6 14 [.int .i64 w, s.av, .int .i64 x] h P := by
  refine d14 (by kernel_rfl) ?_
  unfold D14
  refine CallE.lift le56 (CallE.lift le45 (awake4 ⟨true, rfl, fun hb => by simp at hb, fun _ => ?_⟩))
  refine ⟨fun l t => ∃ ms : List Int, ms.length ≤ 23 ∧ (∀ y ∈ ms, is64 y) ∧ Ow (h.length + ([] : Heap).length) t l 1 (ms.flatMap encI), ⟨fun n l i1 t => ∃ i : Nat, i1 = i ∧ n + i = ns.length ∧ i ≤ 23 ∧ Ow (h.length + ([] : Heap).length) t l 1 ((ns.take i).flatMap encI), ⟨ns.length, 0, rfl, rfl, by omega, by simpa using Ow.none⟩, ?_⟩, ?_⟩
  · rintro n l _ t2 ⟨i, rfl, hi, h23, how⟩
    have hms : (ns.take i).length ≤ 23 ∧ ∀ y ∈ ns.take i, is64 y := ⟨by simp; omega, fun y hy => h64 y (List.mem_of_mem_take hy)⟩
    rw [hs.len]
    refine ⟨fun hc => ⟨fun hc2 => ?_, fun _ => ⟨_, hms.1, hms.2, how⟩⟩, fun _ => ⟨_, hms.1, hms.2, how⟩⟩
    simp only [decide_eq_true_eq] at hc hc2
    obtain ⟨y, hy⟩ := lt_len rfl (show i < ns.length by omega)
    obtain ⟨g, hg, hgl, _⟩ := how.take
    have hll := ow_take1 how
    rw [List.length_take] at hll
    refine ⟨by omega, y, by simpa using hs.cell0 hy (v := .int .i64 y) rfl, _, g, hg, by omega, n - 1, by omega, i + 1, wrap_succ (by omega), by omega, by omega, ?_⟩
    rw [take_succ_flat hy]
    refine Ow.mk (g.length + 1) (by omega) ?_ ?_
    · rw [List.getElem?_append_right (by omega)]
      simp [encI]
    · rw [List.length_append, flatMap_len (es := 1) (fun _ => rfl), List.length_take]
      simp [encI]
      omega
  · rintro l t3 ⟨ms, h23, hm64, how⟩
    refine CallE.lift le56 (CallE.lift le45 (nameIx_ok fun t4 => ⟨_, rfl, ?_⟩))
    have hk := ix_lt w
    generalize ix w = k at hk
    have hsl : Sl (h ++ ([] ++ (t3 ++ t4))) l 1 encI ms := how.sl (by decide) (fun _ => rfl) fun j o hj => by
      simp only [Nat.add_assoc, at_add]
      rw [List.getElem?_append_left (List.getElem?_eq_some_iff.1 hj).1]
      exact hj
    refine spread_yes hk hsl (by omega) hm64 fun b1 t5 hsc1 => ⟨⟨b1, 0, 3, false⟩, 0, rfl, ?_⟩
    obtain ⟨g, hg, hgl, _⟩ := how.take
    have hll := ow_take1 how
    refine ⟨_, g, hg, by omega, ?_⟩
    have hsl2 : Sl (h ++ ([] ++ (g ++ (t4 ++ (t5 ++ (AObj.arr [.int .i64 x] 1 false :: [AObj.arr (ms.flatMap encI ++ [.int .i64 x]) 1 false])))))) ⟨h.length + (([] : Heap).length + (g.length + (t4.length + (t5.length + 1)))), 0, l.len + 1, false⟩ 1 encI (ms ++ [x]) := by
      have : Ow (h.length + (([] : Heap).length + (g.length + (t4.length + (t5.length + 1))))) [AObj.arr (ms.flatMap encI ++ [.int .i64 x]) 1 false] ⟨h.length + (([] : Heap).length + (g.length + (t4.length + (t5.length + 1)))), 0, l.len + 1, false⟩ 1 ((ms ++ [x]).flatMap encI) := by
        refine Ow.mk 0 rfl ?_ ?_
        · simp [encI]
        · rw [hll, flatMap_len (es := 1) (fun _ => rfl)]
          simp
      refine this.sl (by decide) (fun _ => rfl) fun j o hj => ?_
      simp only [Nat.add_assoc, at_add]
      rw [Nat.add_comm 1 j]
      exact hj
    refine spread_yes hk hsl2 (by simp; omega) (fun y hy => ?_) fun b2 t6 hsc2 => ⟨⟨b2, 0, 3, false⟩, 0, rfl, ?_⟩
    · rcases List.mem_append.1 hy with h1 | h1
      · exact hm64 y h1
      · simp at h1
        subst h1
        exact hx
    refine ⟨fun _ => ⟨fun _ => ⟨fun _ => ⟨fun hb => by simp at hb, fun _ => ?_⟩, fun hb => by simp at hb⟩, fun hb => by simp [Slc.len] at hb⟩, fun hb => by simp [Slc.len] at hb⟩
    refine CallE.lift le56 (libFits_yes hk (s := ⟨b1, 0, 3, false⟩) ((hsc1 (h ++ ([] ++ (g ++ t4))) (by simp [hgl])).script.ext) (small_rows hk ms) fun t7 => ⟨_, _, rfl, ?_⟩)
    refine CallE.lift le56 (libFits_yes hk (s := ⟨b2, 0, 3, false⟩) ((hsc2 _ rfl).script.ext) (small_rows hk (ms ++ [x])) fun t8 => ⟨_, _, rfl, ?_⟩)
    rw [spread_fits hk, spread_fits hk]
    obtain ⟨j0, hj0, hrow⟩ := row_more hk ms x
    have gl := (good_all hk ms).len
    have gl2 := (good_all hk (ms ++ [x])).len
    refine ⟨fun n e y t => ∃ j d : Nat, y = j ∧ n + j = 3 ∧ e = (d : Int) ∧ d ≤ 1 ∧ (j ≤ j0 → d = 0), ⟨3, 0, 0, rfl, rfl, rfl, by omega, fun _ => rfl⟩, ?_⟩
    rintro n _ _ t10 ⟨j, d, rfl, hj, rfl, hd, hd0⟩
    refine ⟨fun hc => ?_, fun _ => ⟨fun _ => ⟨fun _ => ⟨fun _ => ⟨fun _ => put_b (b := true) (decide_eq_true (by omega)).symm (hP _), fun hb => by simp at hb⟩, fun hb => by simp at hb⟩, fun hb => by cases hb⟩, fun hb => by cases hb⟩⟩
    simp only [decide_eq_true_eq] at hc
    have hj3 : j < 3 := by omega
    obtain ⟨qs1, sa1, sb1, sr1⟩ := (hsc1 (h ++ ([] ++ (g ++ t4))) (by simp [hgl])).rows
    obtain ⟨qs2, sa2, sb2, sr2⟩ := (hsc2 _ rfl).rows
    obtain ⟨l1, hl1⟩ := lt_len rfl (show j < (sprV k ms).rows.length by omega)
    obtain ⟨m, hm, hm1, hm2⟩ := hrow j l1 hl1
    obtain ⟨q1, hq1⟩ := lt_len (sb1.trans gl).symm hj3
    obtain ⟨q2, hq2⟩ := lt_len (sb2.trans gl2).symm hj3
    obtain ⟨s1, w1⟩ := sr1 j q1 l1 hq1 hl1
    obtain ⟨s2, w2⟩ := sr2 j q2 (l1 ++ m) hq2 hm
    have e1 := s1.len
    have e2 := s2.len
    rw [List.length_append] at e2
    have hsml := (small_rows hk ms).row l1 (List.mem_of_getElem? hl1)
    have ew : ((q2.len : Nat) : Int) - ((q1.len : Nat) : Int) = ((m.length : Nat) : Int) := by omega
    have hdm : d + m.length ≤ 1 ∧ (j + 1 ≤ j0 → d + m.length = 0) := by
      by_cases hjj : j = j0
      · have := hd0 (by omega)
        omega
      · have := hm2 hjj
        subst this
        refine ⟨by simpa using hd, fun h1 => ?_⟩
        have := hd0 (by omega)
        simpa using this
    have in1 : (0 : Int) ≤ (j : Int) ∧ (j : Int) < (((⟨b1, 0, 3, false⟩ : Slc).len : Nat) : Int) := ⟨by omega, by simp only [Slc.len, cond_false]; omega⟩
    have in2 : (0 : Int) ≤ (j : Int) ∧ (j : Int) < (((⟨b2, 0, 3, false⟩ : Slc).len : Nat) : Int) := ⟨by omega, by simp only [Slc.len, cond_false]; omega⟩
    refine ⟨in2, q2, sa2.ext.cell0 hq2 rfl, in1, q1, sa1.ext.cell0 hq1 rfl, fun _ => ⟨in1, q1, sa1.ext.cell0 hq1 rfl, in2, q2, sa2.ext.cell0 hq2 rfl, in1, q1, sa1.ext.cell0 hq1 rfl, wide_ext w2, ⟨by omega, by omega, by omega⟩, ?_⟩, fun hb => ?_⟩
    · refine same_ok (l := l1) s1.ext (Sl.cut s2 e1).ext (by omega) fun t11 => ⟨true, rfl, fun hb => by simp at hb, fun _ => ⟨in2, q2, sa2.ext.cell0 hq2 rfl, in1, q1, sa1.ext.cell0 hq1 rfl, n - 1, by omega, j + 1, d + m.length, wrap_succ (by omega), by omega, ?_, hdm.1, hdm.2⟩⟩
      rw [ew, wrap64 (k := ((m.length : Nat) : Int)) ⟨by omega, by omega⟩, wrap64 (k := (d : Int) + ((m.length : Nat) : Int)) ⟨by omega, by omega⟩]
      omega
    · simp only [decide_eq_true_eq] at hb
      omega
end Go.Proofs.YtifkphfhadimaaaGreatDoor.Mini

