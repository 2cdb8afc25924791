import Derived.Test.YtcjhjphmlfkikaaDoorHcD
set_option linter.unusedVariables false
set_option linter.unusedSimpArgs false
set_option maxRecDepth 100000
namespace Go.Proofs.YtcjhjphmlfkikaaDoor.Mini
open Go.Abs

theorem ahead_true {hl : List Ev} {a b : Int} (h : (aheadV hl a b).1 = true) : ∃ (l : List Sp) (p q : Sp), spansV hl = some l ∧ (0 ≤ a ∧ a < (l.length : Int) ∧ 0 ≤ b ∧ b < (l.length : Int)) ∧ l[a.toNat]? = some p ∧ l[b.toNat]? = some q ∧ aheadS p q = true := by
  cases hv : spansV hl with
  | none =>
    unfold aheadV at h
    rw [hv] at h
    cases h
  | some l =>
    by_cases hr : 0 ≤ a ∧ a < (l.length : Int) ∧ 0 ≤ b ∧ b < (l.length : Int)
    · obtain ⟨p, hp⟩ := lt_len rfl (show a.toNat < l.length by omega)
      obtain ⟨q, hq⟩ := lt_len rfl (show b.toNat < l.length by omega)
      rw [ahead_in hv hr hp hq] at h
      exact ⟨l, p, q, rfl, hr, hp, hq, h⟩
    · rw [ahead_out hv hr] at h
      cases h
theorem order {hl : List Ev} {l : List Sp} (hv : spansV hl = some l) {i : Nat} {q : Sp} (hq : l[i]? = some q) : q.to ≥ 0 → q.fr < q.to := by
  obtain ⟨n, e, g1, _, _, _, _, _, g7⟩ := (facts_of hv).call i q hq
  intro h0
  rcases g7 with ⟨g8, _⟩ | ⟨m, e', g8, g9, _⟩
  · omega
  · omega
theorem ahead_self {hl : List Ev} {a : Int} : (aheadV hl a a).1 = false := by
  cases h : (aheadV hl a a).1 with
  | false => rfl
  | true =>
    obtain ⟨l, p, q, hv, _, hp, hq, ha⟩ := ahead_true h
    rw [hp] at hq
    cases hq
    have := order hv hp
    simp only [aheadS, Bool.and_eq_true, decide_eq_true_eq] at ha
    omega
theorem ahead_on {hl : List Ev} {a b c : Int} (h1 : (aheadV hl a b).1 = true) (h2 : (aheadV hl b c).1 = true) : (aheadV hl a c).1 = true := by
  obtain ⟨l, p, q, hv, hr, hp, hq, ha⟩ := ahead_true h1
  obtain ⟨l', q', r, hv', hr', hq', hr2, hb⟩ := ahead_true h2
  rw [hv] at hv'
  cases hv'
  rw [hq] at hq'
  cases hq'
  rw [ahead_in hv ⟨hr.1, hr.2.1, hr'.2.2.1, hr'.2.2.2⟩ hp hr2]
  have := order hv hq
  simp only [aheadS, Bool.and_eq_true, decide_eq_true_eq] at ha hb ⊢
  omega

theorem histAhead_ok {hl : List Ev} {a b : Int} {s0 : Slc} {h : Heap} (hs : EvsF h s0 hl) (hk : SmallE hl) {P : AV → Heap → Prop} (hP : ∀ t, P (.bool true) t) : CallE KH 3 [s0.av, .int .i64 a, .int .i64 b] h P := by
  refine d3 (by kernel_rfl) ?_
  unfold D3
  refine large_d hs.sl fun big t1 hb => ⟨big, rfl, fun _ => sane_d fun t2 => ⟨_, rfl, hP _⟩, fun e0 => ?_⟩
  refine ahead_d hs.sl.ext hk.len fun t3 => ⟨_, _, rfl, rahead_d (hl := hl) hs.sl.ext hk.len hk.ops fun t4 => ⟨_, _, rfl, ?_⟩⟩
  refine ⟨fun _ => True, ⟨fun e1 => ⟨fun e2 => ⟨fun x => ⟨fun eab => ?_, fun _ => trivial⟩, fun _ => trivial⟩, fun e2 => ?_⟩, fun e1 => ?_⟩, ?_⟩
  · have : a = b := by simpa using eab
    subst this
    rw [ahead_self] at x
    cases x
  · simp at e2
  · simp at e1
  · intro t5 _
    refine ospans_d (hl := hl) hs.sl.ext hk.len (fun hv t6 => ⟨⟨0, 0, 0, true⟩, _, rfl, ?_⟩) (fun l hv z t6 hz => ⟨z, _, rfl, ?_⟩)
    · refine ⟨fun (m : Nat) (x : Int) (t : Heap) => True, ⟨0, trivial⟩, ?_⟩
      rintro m x t7 _
      refine ⟨fun _ => ⟨(fun e => by cases e), fun _ => sane_d fun t8 => ⟨_, rfl, hP _⟩⟩, fun _ => sane_d fun t8 => ⟨_, rfl, hP _⟩⟩
    · have hll : l.length ≤ 1000000 := by
        have hrr := rel_run hl 0 rel_start
        unfold spansV at hv
        rcases hrr with ⟨e, _⟩ | ⟨s', r', e, _, hrel⟩
        · rw [e] at hv; cases hv
        · rw [e] at hv
          simp only [Option.map_some, Option.some.injEq] at hv
          rw [← hv]
          have := hrel.le
          omega
      rw [hz.len]
      refine ⟨fun (m : Nat) (x : Int) (t : Heap) => ∃ k : Nat, x = (k : Int) ∧ m + k = l.length, ⟨l.length, 0, rfl, rfl⟩, ?_⟩
      rintro m _ t7 ⟨k, rfl, hm⟩
      refine ⟨fun hc => ⟨fun _ => ⟨fun x => ?_, fun _ => sane_d fun t8 => ⟨_, rfl, hP _⟩⟩, fun e => by cases e⟩, fun _ => sane_d fun t8 => ⟨_, rfl, hP _⟩⟩
      simp only [decide_eq_true_eq] at hc
      refine ahead_d (hl := hl) hs.sl.ext hk.len fun t8 => ⟨_, _, rfl, ahead_d (hl := hl) hs.sl.ext hk.len fun t9 => ⟨_, _, rfl, fun on => ⟨fun all => ?_, fun _ => ⟨m - 1, by omega, k + 1, wrap_succ (by omega), by omega⟩⟩, fun _ => ⟨m - 1, by omega, k + 1, wrap_succ (by omega), by omega⟩⟩⟩
      rw [ahead_on x on] at all
      cases all
end Go.Proofs.YtcjhjphmlfkikaaDoor.Mini

