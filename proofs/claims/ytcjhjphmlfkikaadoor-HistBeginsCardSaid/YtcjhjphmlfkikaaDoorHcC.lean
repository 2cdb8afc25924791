import Derived.Test.YtcjhjphmlfkikaaDoorHcB
set_option linter.unusedVariables false
set_option linter.unusedSimpArgs false
set_option maxRecDepth 100000
namespace Go.Proofs.YtcjhjphmlfkikaaDoor.Mini
open Go.Abs

theorem run_pre {σ α : Type} {f : σ → α → Option σ} {l : List α} {i : Nat} {s x : σ} (h : runL f l s = some x) : ∃ y, runL f (l.take i) s = some y := by
  cases hr : runL f (l.take i) s with
  | none => rw [runL_none hr] at h; cases h
  | some y => exact ⟨y, rfl⟩
theorem valid_d {hl : List Ev} {s0 : Slc} {h : Heap} (hs : Sl h s0 7 encE hl) (hlen : hl.length ≤ 140737488355327) {P : AV → Heap → Prop} (hP : ∀ t, P (.bool (spansV hl).isSome) t) : CallE KH 16 [s0.av] h P := by
  refine d16 (by kernel_rfl) ?_
  unfold D16
  refine spans_d hs hlen (fun hv t => ⟨⟨0, 0, 0, true⟩, _, rfl, ?_⟩) (fun l hv z t hz => ⟨z, _, rfl, ?_⟩)
  · rw [hv] at hP; exact hP _
  · rw [hv] at hP; exact hP _
theorem ospans_d {hl : List Ev} {s0 : Slc} {h : Heap} (hs : Sl h s0 7 encE hl) (hlen : hl.length ≤ 140737488355327) {P : AV → Heap → Prop} (g1 : spansV hl = none → ∀ t, P (.tuple [.nilslice, .int .i64 1]) t)
    (g2 : ∀ l, spansV hl = some l → ∀ (z : Slc) t, Sl (h ++ t) z 8 encS l → P (.tuple [z.av, .int .i64 0]) t) : CallE KH 15 [s0.av] h P := by
  refine d15 (by kernel_rfl) ?_
  unfold D15
  refine spans_d hs hlen (fun hv t => ⟨⟨0, 0, 0, true⟩, _, rfl, fun _ => g1 hv _, fun e => by cases e⟩) (fun l hv z t hz => ⟨z, _, rfl, (fun e => by cases e), fun _ => g2 l hv z _ hz⟩)
def aheadS (a b : Sp) : Bool := decide (a.to ≥ 0) && decide (a.to < b.fr)
def aheadV (hl : List Ev) (a b : Int) : Bool × Int := match spansV hl with
  | none => (false, 1)
  | some l => if 0 ≤ a ∧ a < (l.length : Int) ∧ 0 ≤ b ∧ b < (l.length : Int) then (match l[a.toNat]?, l[b.toNat]? with
    | some p, some q => (aheadS p q, 0)
    | _, _ => (false, 1)) else (false, 1)
theorem ahead_in {hl : List Ev} {l : List Sp} {a b : Int} {p q : Sp} (hv : spansV hl = some l) (h : 0 ≤ a ∧ a < (l.length : Int) ∧ 0 ≤ b ∧ b < (l.length : Int)) (hp : l[a.toNat]? = some p) (hq : l[b.toNat]? = some q) : aheadV hl a b = (aheadS p q, 0) := by
  unfold aheadV
  rw [hv]
  simp only [hp, hq]
  rw [if_pos h]
theorem ahead_out {hl : List Ev} {l : List Sp} {a b : Int} (hv : spansV hl = some l) (h : ¬ (0 ≤ a ∧ a < (l.length : Int) ∧ 0 ≤ b ∧ b < (l.length : Int))) : aheadV hl a b = (false, 1) := by
  unfold aheadV
  rw [hv]
  simp only
  rw [if_neg h]
theorem ahead2_ok {p q : Sp} {h : Heap} {P : AV → Heap → Prop} (hP : ∀ t, P (.bool (aheadS p q)) t) : CallE KH 43 [.agg (encS p), .agg (encS q)] h P := by
  refine d43 (by kernel_rfl) ?_
  unfold D43
  unfold aheadS at hP
  refine ⟨fun a => ?_, fun a => ?_⟩
  · rw [a, Bool.true_and] at hP; exact hP _
  · rw [a, Bool.false_and] at hP; exact hP _
theorem ahead_d {hl : List Ev} {a b : Int} {s0 : Slc} {h : Heap} (hs : Sl h s0 7 encE hl) (hlen : hl.length ≤ 140737488355327) {P : AV → Heap → Prop} (hP : ∀ t, P (.tuple [.bool (aheadV hl a b).1, .int .i64 (aheadV hl a b).2]) t) : CallE KH 13 [s0.av, .int .i64 a, .int .i64 b] h P := by
  refine d13 (by kernel_rfl) ?_
  unfold D13
  refine spans_d hs hlen (fun hv t => ⟨⟨0, 0, 0, true⟩, _, rfl, (fun e => by cases e), fun _ => ?_⟩) (fun l hv z t hz => ⟨z, _, rfl, fun _ => ?_, fun e => by cases e⟩)
  · have : aheadV hl a b = (false, 1) := by unfold aheadV; rw [hv]
    rw [this] at hP
    exact hP _
  have out : ¬ (0 ≤ a ∧ a < (l.length : Int) ∧ 0 ≤ b ∧ b < (l.length : Int)) → ∀ t, P (.tuple [.bool false, .int .i64 1]) t := fun h t => by
    have := hP t
    rwa [ahead_out hv h] at this
  rw [hz.len]
  refine ⟨fun q1 => ⟨fun q2 => ⟨fun q3 => ⟨fun q4 => out (by simp only [decide_eq_true_eq] at q4; omega) _, fun q4 => ?_⟩, fun q3 => out (by simp only [decide_eq_true_eq] at q3; omega) _⟩, fun q2 => out (by simp only [decide_eq_true_eq] at q2; omega) _⟩, fun q1 => out (by simp only [decide_eq_true_eq] at q1; omega) _⟩
  simp only [decide_eq_false_iff_not] at q1 q2 q3 q4
  obtain ⟨p, hp⟩ := lt_len rfl (show a.toNat < l.length by omega)
  obtain ⟨q, hq⟩ := lt_len rfl (show b.toNat < l.length by omega)
  rw [ahead_in hv ⟨by omega, by omega, by omega, by omega⟩ hp hq] at hP
  refine ⟨⟨by omega, by omega⟩, p.th, p.ix, p.call.op, p.call.x, p.call.y, p.fr, p.to, p.res, hz.agg hp, ⟨by omega, by omega⟩, q.th, q.ix, q.call.op, q.call.x, q.call.y, q.fr, q.to, q.res, hz.agg hq, ahead2_ok (p := p) (q := q) fun t2 => ⟨_, rfl, hP _⟩⟩
theorem large_d {hl : List Ev} {s0 : Slc} {h : Heap} (hs : Sl h s0 7 encE hl) {P : AV → Heap → Prop} (hP : ∀ b t, (b = false → hl.length ≤ 60) → P (.bool b) t) : CallE KH 11 [s0.av] h P := by
  refine d11 (by kernel_rfl) ?_
  unfold D11
  rw [hs.len]
  refine ⟨fun _ => hP _ _ (fun e => by cases e), fun q => ?_⟩
  have hl60 : hl.length ≤ 60 := by simp only [decide_eq_false_iff_not] at q; omega
  refine ⟨fun (m : Nat) (s : Int) (x : Int) (t : Heap) => ∃ i : Nat, x = (i : Int) ∧ m + i = hl.length, ⟨hl.length, 0, rfl, rfl⟩, ?_⟩
  rintro m s _ t ⟨i, rfl, hm⟩
  refine ⟨fun hc => ⟨fun _ => ?_, fun _ => hP _ _ fun _ => hl60⟩, fun _ => hP _ _ fun _ => hl60⟩
  simp only [decide_eq_true_eq] at hc
  obtain ⟨e, he⟩ := lt_len rfl (show i < hl.length by omega)
  exact ⟨⟨by omega, by omega⟩, e.call.op, hs.cell (c := 3) he rfl, m - 1, by omega, i + 1, wrap_succ (by omega), by omega⟩
end Go.Proofs.YtcjhjphmlfkikaaDoor.Mini

