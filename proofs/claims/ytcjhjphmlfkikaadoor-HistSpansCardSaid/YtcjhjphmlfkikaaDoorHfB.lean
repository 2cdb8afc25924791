import Derived.Test.YtcjhjphmlfkikaaDoorHfA
set_option linter.unusedVariables false
set_option linter.unusedSimpArgs false
set_option maxRecDepth 100000
namespace Go.Proofs.YtcjhjphmlfkikaaDoor.Mini
open Go.Abs

def widO (hl : List Ev) : Int × Int := match spansV hl with
  | none => (0, 1)
  | some _ => (widthV hl, 0)
noncomputable instance seqDec (hl : List Ev) : Decidable (SeqR hl) := Classical.propDecidable _
noncomputable def seqO (hl : List Ev) : Bool × Int := match spansV hl with
  | none => (false, 1)
  | some _ => (decide (SeqR hl), 0)
theorem seq_same {hl : List Ev} {l : List Sp} (hv : spansV hl = some l) : SeqP l hl.length ↔ SeqR hl := ⟨seqR_of (facts_of hv), seqP_of (facts_of hv)⟩
theorem width_u {hl : List Ev} {s0 : Slc} {h : Heap} (hs : Sl h s0 7 encE hl) (hlen : hl.length ≤ 140737488355327) {P : AV → Heap → Prop} (g : ∀ t, P (.tuple [.int .i64 (widO hl).1, .int .i64 (widO hl).2]) t) : CallE KH 21 [s0.av] h P := by
  unfold widO at g
  exact width_d hs hlen (fun hv t => by rw [hv] at g; exact g t) (fun l hv t => by rw [hv] at g; exact g t)
theorem rwidth_u {hl : List Ev} {s0 : Slc} {h : Heap} (hs : Sl h s0 7 encE hl) (hlen : hl.length ≤ 140737488355327) (hops : ∀ e ∈ hl, e.call.op.length ≤ 140737488355327) {P : AV → Heap → Prop} (g : ∀ t, P (.tuple [.int .i64 (widO hl).1, .int .i64 (widO hl).2]) t) : CallE KH 22 [s0.av] h P := by
  unfold widO at g
  exact rwidth_d hs hlen hops (fun hv t => by rw [hv] at g; exact g t) (fun l hv t => by rw [hv] at g; exact g t)
theorem seq_u {hl : List Ev} {s0 : Slc} {h : Heap} (hs : Sl h s0 7 encE hl) (hlen : hl.length ≤ 140737488355327) {P : AV → Heap → Prop} (g : ∀ t, P (.tuple [.bool (seqO hl).1, .int .i64 (seqO hl).2]) t) : CallE KH 23 [s0.av] h P := by
  unfold seqO at g
  refine seq_d hs hlen (fun hv t => by rw [hv] at g; exact g t) (fun l hv k t => ?_) (fun l hv k t => ?_)
  · rw [hv] at g
    simp only [decide_eq_true ((seq_same hv).1 k)] at g
    exact g t
  · rw [hv] at g
    simp only [decide_eq_false (fun x => k ((seq_same hv).2 x))] at g
    exact g t
theorem rseq_u {hl : List Ev} {s0 : Slc} {h : Heap} (hs : Sl h s0 7 encE hl) (hlen : hl.length ≤ 140737488355327) (hops : ∀ e ∈ hl, e.call.op.length ≤ 140737488355327) {P : AV → Heap → Prop} (g : ∀ t, P (.tuple [.bool (seqO hl).1, .int .i64 (seqO hl).2]) t) : CallE KH 24 [s0.av] h P := by
  unfold seqO at g
  refine rseq_d hs hlen hops (fun hv t => by rw [hv] at g; exact g t) (fun l hv k t => ?_) (fun l hv k t => ?_)
  · rw [hv] at g
    simp only [decide_eq_true k] at g
    exact g t
  · rw [hv] at g
    simp only [decide_eq_false k] at g
    exact g t
theorem widO_le (hl : List Ev) : (widO hl).1 ≤ 4 := by
  unfold widO
  cases hv : spansV hl with
  | none => exact (show (0 : Int) ≤ 4 by decide)
  | some l => exact width_le hv
theorem spO_len (hl : List Ev) : (spO hl).1.length ≤ 12 := by
  unfold spO
  cases hv : spansV hl with
  | none => exact Nat.zero_le _
  | some l => exact spans_len hv
theorem pendO_len (hl : List Ev) : (pendO hl).1.length ≤ 12 := by
  unfold pendO
  cases hv : spansV hl with
  | none => exact Nat.zero_le _
  | some l => exact Nat.le_trans (pendN_le l _) (spans_len hv)

theorem histSpans_ok {hl : List Ev} {s0 : Slc} {h : Heap} (hs : EvsF h s0 hl) (hk : SmallE hl) {P : AV → Heap → Prop} (hP : ∀ t, P (.bool true) t) : CallE KH 5 [s0.av] h P := by
  refine d5 (by kernel_rfl) ?_
  unfold D5
  refine large_d hs.sl fun big t1 hb => ⟨big, rfl, fun _ => sane_d fun t2 => ⟨_, rfl, hP _⟩, fun e0 => ?_⟩
  have h60 := hb e0
  refine own_d (hl := hl) hs.ext (by omega) fun b t3 hbb hbl => ⟨⟨b, 0, hl.length, false⟩, rfl, ?_⟩
  have hk3 : EvsF (h ++ (t1 ++ t3)) ⟨b, 0, hl.length, false⟩ hl := by
    have := own_sl (l := hl) (H := h ++ (t1 ++ t3)) (by rw [← List.append_assoc]; exact hbb) hl.length (Nat.le_refl _)
    rw [List.take_length] at this
    exact this
  have len := hk.len
  have ops := hk.ops
  refine ospans_u (hl := hl) hs.sl.ext len fun z4 t4 hz4 => ⟨z4, _, rfl, ?_⟩
  refine rspans_u (hl := hl) hk3.sl.ext len ops fun z5 t5 hz5 => ⟨z5, _, rfl, ?_⟩
  refine pend_d (hl := hl) hs.sl.ext len fun z6 t6 hz6 => ⟨z6, _, rfl, ?_⟩
  refine rpend_d (hl := hl) hk3.sl.ext len ops fun z7 t7 hz7 => ⟨z7, _, rfl, ?_⟩
  refine width_u (hl := hl) hs.sl.ext len fun t8 => ⟨_, _, rfl, ?_⟩
  refine rwidth_u (hl := hl) hk3.sl.ext len ops fun t9 => ⟨_, _, rfl, ?_⟩
  refine seq_u (hl := hl) hs.sl.ext len fun t10 => ⟨_, _, rfl, ?_⟩
  refine rseq_u (hl := hl) hk3.sl.ext len ops fun t11 => ⟨_, _, rfl, ?_⟩
  refine valid_d (hl := hl) hs.sl.ext len fun t12 => ⟨_, rfl, ?_⟩
  refine rvalid_d (hl := hl) hk3.sl.ext len ops fun t13 => ⟨_, rfl, ?_⟩
  rw [valid_same hl]
  have hw := widO_le hl
  have l4 := spO_len hl
  have l6 := pendO_len hl
  refine ⟨fun _ => ⟨fun _ => ⟨fun _ => ⟨fun _ => ⟨fun _ => ⟨fun _ => ⟨fun e => ?_, fun _ => ⟨fun _ => ?_, fun e => ?_⟩⟩, fun e => ?_⟩, fun e => ?_⟩, fun e => ?_⟩, fun e => ?_⟩, fun e => ?_⟩, fun e => ?_⟩
  · simp at e
  · refine spans26 (l := (spO hl).1) hz4.ext hz5.ext (by omega) fun t14 => ⟨_, rfl, fun _ => ?_, fun e => by cases e⟩
    refine ints27 (l := (pendO hl).1) hz6.ext hz7.ext (by omega) fun t15 => ⟨_, rfl, fun _ => ?_, fun e => by cases e⟩
    refine events28 (l := hl) hs.sl.ext hk3.sl.ext (by omega) fun t16 => ⟨_, rfl, fun _ => ?_, fun e => by cases e⟩
    exact sane_d fun t17 => ⟨_, rfl, hP _⟩
  · simp only [decide_eq_false_iff_not] at e
    exact absurd hw e
  all_goals simp at e

end Go.Proofs.YtcjhjphmlfkikaaDoor.Mini

