import Derived.Test.YtifkphfhadimaaaGreatDoorCeA
import Derived.Test.YtifkphfhadimaaaGreatDoorCdG
set_option linter.unusedVariables false
set_option linter.unusedSimpArgs false
set_option maxRecDepth 100000
namespace Go.Proofs.YtifkphfhadimaaaGreatDoor.Mini
open Go.Abs

theorem ntT {b : Bool} (h : (!b) = true) : b = false := by cases b <;> simp_all
theorem ntF {b : Bool} (h : (!b) = false) : b = true := by cases b <;> simp_all

section
variable {α : Type} {f : α → α → Bool} {l m : List α}
end
structure Bnd (p : List Rout) : Prop where
  len : p.length ≤ 140737488355327
  code : ∀ r ∈ p, r.2.length ≤ 140737488355327
abbrev pAV (p : ProgT) (s : Slc) : AV := .agg [.str p.1, .int .i64 p.2.1, s.av]
theorem large_ok {p : ProgT} {s : Slc} {h : Heap} (hs : ProgOn h s p.2.2) (hk : SmallP p) {P : AV → Heap → Prop} (hP : ∀ b t, (b = false → p.2.2.length < 800 ∧ ∀ r ∈ p.2.2, r.2.length < 800) → P (.bool b) t) : CallE KD 50 [pAV p s] h P := by
  refine d50 (by kernel_rfl) ?_
  unfold D50
  obtain ⟨qs, h1, h2, h3⟩ := hs.rows
  rw [h1.len, h2]
  have b1 := hk.len
  have b2 := hk.name
  refine ⟨fun (m : Nat) (n : Int) (x : Int) (t : Heap) => ∃ i N : Nat, x = (i : Int) ∧ n = (N : Int) ∧ m + i = p.2.2.length ∧ N ≤ 1125899906842624 ∧ p.2.2.length ≤ N ∧ ∀ j r, j < i → p.2.2[j]? = some r → r.2.length ≤ N, ⟨p.2.2.length, 0, p.2.2.length + p.1.length, rfl, by rw [wrapI (by omega) (by omega)]; omega, rfl, by omega, by omega, fun j r hj => absurd hj (Nat.not_lt_zero j)⟩, ?_⟩
  rintro m _ _ t ⟨i, N, rfl, rfl, hm, hN, hpN, hall⟩
  refine ⟨fun hc => ⟨fun hn => ?_, fun hn => ?_⟩, fun hc => ?_⟩
  · simp only [decide_eq_true_eq] at hc hn
    have hi : i < p.2.2.length := by omega
    obtain ⟨a, ha⟩ := lt_len rfl hi
    obtain ⟨q, hq⟩ := lt_len h2.symm hi
    obtain ⟨k1, k2⟩ := h3 i q a hq ha
    have c1 := hk.code a (List.mem_of_getElem? ha)
    have c2 := hk.names a (List.mem_of_getElem? ha)
    refine ⟨⟨by omega, by omega⟩, q.2, h1.cell hq rfl, ⟨by omega, by omega⟩, q.1, h1.cell0 hq rfl, m - 1, by omega, i + 1, N + a.2.length + a.1.length, wrap_succ (by omega), ?_, by omega, by omega, by omega, fun j r hj hr => ?_⟩
    · rw [k2.len, k1, wrapI (k := (N : Int) + ((a.2.length : Nat) : Int)) (by omega) (by omega), wrapI (by omega) (by omega)]
      omega
    · rcases Nat.lt_or_ge j i with h' | h'
      · have := hall j r h' hr
        omega
      · obtain rfl : j = i := by omega
        rw [ha] at hr
        cases hr
        omega
  · refine hP _ _ fun hb => ?_
    simp only [decide_eq_false_iff_not] at hn hb
    omega
  · refine hP _ _ fun hb => ?_
    simp only [decide_eq_false_iff_not] at hc hb
    refine ⟨by omega, fun r hr => ?_⟩
    obtain ⟨j, hj⟩ := List.mem_iff_getElem?.1 hr
    have := hall j r (by have := (List.getElem?_eq_some_iff.1 hj).1; omega) hj
    omega
end Go.Proofs.YtifkphfhadimaaaGreatDoor.Mini

