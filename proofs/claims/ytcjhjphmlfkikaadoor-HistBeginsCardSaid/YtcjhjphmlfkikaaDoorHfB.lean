import Derived.Test.YtcjhjphmlfkikaaDoorHfA
set_option linter.unusedVariables false
set_option linter.unusedSimpArgs false
set_option maxRecDepth 100000
namespace Go.Proofs.YtcjhjphmlfkikaaDoor.Mini
open Go.Abs

noncomputable instance seqDec (hl : List Ev) : Decidable (SeqR hl) := Classical.propDecidable _
theorem histBegins_ok {hl : List Ev} {nn : Int} {s0 : Slc} {h : Heap} (hs : EvsF h s0 hl) (hk : SmallE hl) {P : AV → Heap → Prop} (hP : ∀ t, P (.bool true) t) : CallE KH 4 [s0.av, .int .i64 nn] h P := by
  refine d4 (by kernel_rfl) ?_
  unfold D4
  refine large_d hs.sl fun big t1 hb => ⟨big, rfl, fun e0 => ?_, fun _ => sane_d fun t2 => ⟨_, rfl, hP _⟩⟩
  have h60 := hb e0
  have len := hk.len
  refine valid_d (hl := hl) hs.sl.ext len fun t2 => ⟨_, rfl, fun q => ?_, fun _ => sane_d fun t => ⟨_, rfl, hP _⟩⟩
  obtain ⟨l, hv⟩ := Option.isSome_iff_exists.1 (show (spansV hl).isSome = true by simpa using q)
  refine ⟨fun c1 => ⟨fun _ => sane_d fun t => ⟨_, rfl, hP _⟩, fun c2 => ?_⟩, fun _ => sane_d fun t => ⟨_, rfl, hP _⟩⟩
  rw [hs.sl.len] at c2
  simp only [decide_eq_false_iff_not] at c1 c2
  obtain ⟨n, rfl⟩ : ∃ n : Nat, nn = (n : Int) := ⟨nn.toNat, by omega⟩
  have hn : n ≤ hl.length := by omega
  refine own_d (hl := hl) hs.ext (by omega) fun b t4 hbb hbl => ⟨⟨b, 0, hl.length, false⟩, rfl, fun _ => ⟨hl.flatMap encE, false, ?_⟩, ⟨by omega, by omega, ?_⟩, ?_⟩
  · rw [← List.append_assoc t1, ← List.append_assoc h]
    exact hbb
  · show (n : Int) ≤ ((hl.length : Nat) : Int)
    omega
  have hbb2 : (h ++ (t1 ++ (t2 ++ t4)))[b]? = some (.arr (hl.flatMap encE) 7 false) := by
    rw [← List.append_assoc t1, ← List.append_assoc h]
    exact hbb
  have hk4 : Sl (h ++ (t1 ++ (t2 ++ t4))) ⟨b, 0, n, false⟩ 7 encE (hl.take n) := (own_sl (l := hl) hbb2 n hn).sl
  have e1 : (Slc.mk b (0 + Int.toNat (0 : Int) * 7) (Int.toNat (n : Int) - Int.toNat (0 : Int)) false) = ⟨b, 0, n, false⟩ := by simp
  simp only [e1]
  obtain ⟨l', hv', hg⟩ := spans_take hv n hn
  have len' : (hl.take n).length ≤ 140737488355327 := by simp; omega
  have l12 := spans_len hv'
  refine ospans_d (hl := hl.take n) hk4 len' (fun hv0 t => by rw [hv'] at hv0; cases hv0) (fun l2 hv2 z t5 hz => ⟨z, _, rfl, ?_⟩)
  rw [hv'] at hv2
  cases hv2
  refine valid_d (hl := hl.take n) hk4.ext len' fun t6 => ⟨_, rfl, fun _ => ⟨fun e => by simp at e, fun _ => ?_⟩, fun e => ?_⟩
  · rw [hz.len]
    refine ⟨fun (m : Nat) (x : Int) (t : Heap) => ∃ i : Nat, x = (i : Int) ∧ m + i = l'.length, ⟨l'.length, 0, rfl, rfl⟩, ?_⟩
    rintro m _ t7 ⟨i, rfl, hm⟩
    refine ⟨fun c => ?_, fun _ => sane_d fun t => ⟨_, rfl, hP _⟩⟩
    simp only [decide_eq_true_eq] at c
    refine ⟨fun (m2 : Nat) (x : Int) (t : Heap) => ∃ j : Nat, x = (j : Int) ∧ m2 + j = l'.length, ⟨l'.length, 0, rfl, rfl⟩, ?_⟩
    rintro m2 _ t8 ⟨j, rfl, hm2⟩
    refine ⟨fun c' => ?_, fun _ => ⟨m - 1, by omega, i + 1, wrap_succ (by omega), by omega⟩⟩
    simp only [decide_eq_true_eq] at c'
    refine ahead_d (hl := hl.take n) hk4.ext len' fun t9 => ⟨_, _, rfl, ahead_d (hl := hl) hs.sl.ext len fun t10 => ⟨_, _, rfl, fun e => ?_, fun _ => ⟨m2 - 1, by omega, j + 1, wrap_succ (by omega), by omega⟩⟩⟩
    rw [ahead_begin hn hv hv' hg (a := i) (b := j) (by omega) (by omega)] at e
    simp at e
  · rw [hv'] at e
    simp at e
end Go.Proofs.YtcjhjphmlfkikaaDoor.Mini

