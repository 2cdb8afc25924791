import Derived.Test.YtcjhjphmlfkikaaDoorHfP
import Derived.Test.YtcjhjphmlfkikaaDoorAbsG2
set_option linter.unusedVariables false
set_option linter.unusedSimpArgs false
set_option maxRecDepth 100000
namespace Go.Proofs.YtcjhjphmlfkikaaDoor.Mini
open Go.Abs

theorem encE_len (e : Ev) : (encE e).length = 7 := rfl
theorem rd_joinH {H : Heap} {b o n m : Nat} {x y : List AV} (h1 : rdCells H b o n = some x) (h2 : rdCells H b (o + n) m = some y) : rdCells H b o (n + m) = some (x ++ y) := by
  unfold rdCells at h1 h2 ⊢
  cases hb : H[b]? with
  | none => rw [hb] at h1; cases h1
  | some ob =>
    rw [hb] at h1 h2
    cases ob with
    | arr c es ro =>
      simp only at h1 h2 ⊢
      split at h1
      · rename_i h3
        split at h2
        · rename_i h4
          rw [if_pos (by omega)]
          cases h1
          cases h2
          rw [List.take_add, List.drop_drop]
        · cases h2
      · cases h1
    | _ => cases h1
theorem sl_rowsH {α : Type} {H : Heap} {s : Slc} {es : Nat} {f : α → List AV} {l : List α} (k : Sl H s es f l) (h0 : rdCells H s.b s.o 0 = some []) : ∀ n, n ≤ l.length → rdCells H s.b s.o (n * es) = some ((l.take n).flatMap f)
  | 0, _ => by simpa using h0
  | n + 1, hn => by
    obtain ⟨x, hx⟩ := lt_len rfl (show n < l.length by omega)
    rw [Nat.add_mul, Nat.one_mul, take_flat f hx]
    exact rd_joinH (sl_rowsH k h0 n (by omega)) (k.get n x hx)
theorem slice_row {H : Heap} {s : Slc} {l : List Ev} (k : EvsF H s l) : rowOf H 7 s.av = some (l.flatMap encE) := by
  have hl := k.sl.len
  unfold Slc.av
  unfold Slc.len at hl
  cases hn : s.nil with
  | true =>
    rw [hn] at hl
    obtain rfl : l = [] := List.eq_nil_of_length_eq_zero hl.symm
    simp [rowOf]
  | false =>
    rw [hn] at hl
    simp only [cond_false] at hl ⊢
    simp only [rowOf, hl]
    have := sl_rowsH k.sl (k.here hn) l.length (Nat.le_refl _)
    rw [List.take_length] at this
    exact this
theorem own_nil {h : Heap} {x : AV} (hx : lenOf x = some 0) (hr : rowOf (h ++ [AObj.arr [] 7 false]) 7 x = some []) (ht : x = .nilslice ∨ ∃ b o, x = .slice b o 0) : Does KH 17 [x] h (.slice h.length 0 0) (h ++ [AObj.arr [] 7 false]) := by
  have key : evalOp [x, .undef, .nilslice, .slice h.length 0 0, x, .undef] (h ++ [AObj.arr [] 7 false]) (.append 7 64 (.tmp 3) (.tmp 4)) = some (.slice h.length 0 0, h ++ [AObj.arr [] 7 false]) := by
    show (match lenOf x, rowOf (h ++ [AObj.arr [] 7 false]) 7 x with
      | some n, some new => appendAV (h ++ [AObj.arr [] 7 false]) 7 64 (.slice h.length 0 0) n new
      | _, _ => none) = _
    rw [hx, hr]
    simp [appendAV, lenOf, takeRow]
  rcases ht with rfl | ⟨b, o, rfl⟩
  · refine does_of_exec (n := 60) [(5, .full (.slice h.length 0 0) (h ++ [AObj.arr [] 7 false]))] [evalOp [.nilslice, .undef, .nilslice, .slice h.length 0 0, .nilslice, .undef] (h ++ [AObj.arr [] 7 false]) (.append 7 64 (.tmp 3) (.tmp 4)) = some (.slice h.length 0 0, h ++ [AObj.arr [] 7 false])] (by kernel_rfl) ?_
    simp only [List.mem_cons, List.not_mem_nil, or_false, forall_eq]
    exact key
  · refine does_of_exec (n := 60) [(5, .full (.slice h.length 0 0) (h ++ [AObj.arr [] 7 false]))] [evalOp [.slice b o 0, .undef, .nilslice, .slice h.length 0 0, .slice b o 0, .undef] (h ++ [AObj.arr [] 7 false]) (.append 7 64 (.tmp 3) (.tmp 4)) = some (.slice h.length 0 0, h ++ [AObj.arr [] 7 false])] (by kernel_rfl) ?_
    simp only [List.mem_cons, List.not_mem_nil, or_false, forall_eq]
    exact key
theorem own_d {hl : List Ev} {s0 : Slc} {h : Heap} (hs : EvsF h s0 hl) (hlen : hl.length ≤ 1000000) {P : AV → Heap → Prop} (hP : ∀ (b : Nat) t, (h ++ t)[b]? = some (.arr (hl.flatMap encE) 7 false) → h.length ≤ b → P (.slice b 0 hl.length) t) : CallE KH 17 [s0.av] h P := by
  rcases Nat.eq_zero_or_pos hl.length with h0 | h0
  · obtain rfl : hl = [] := List.eq_nil_of_length_eq_zero h0
    have hl := hs.sl.len
    refine CallE.of_does (tail := [AObj.arr [] 7 false]) (v := .slice h.length 0 0) (own_nil ?_ ?_ ?_) (hP h.length _ (by simp) (Nat.le_refl _))
    · unfold Slc.av
      unfold Slc.len at hl
      cases hn : s0.nil with
      | true => rfl
      | false => rw [hn] at hl; simpa [lenOf] using hl
    · have := slice_row (H := h ++ [AObj.arr [] 7 false]) (hs.ext)
      simpa using this
    · unfold Slc.av
      unfold Slc.len at hl
      cases hn : s0.nil with
      | true => exact .inl rfl
      | false =>
        rw [hn] at hl
        refine .inr ⟨s0.b, s0.o, ?_⟩
        have : s0.n = 0 := by simpa using hl
        rw [this]
        rfl
  · refine d17 (by kernel_rfl) ?_
    unfold D17
    rw [hs.sl.len]
    refine ⟨h0, _, slice_row hs, by omega, ?_⟩
    rw [Nat.zero_add]
    exact hP _ _ (by simp) (by omega)
theorem own_sl {l : List Ev} {H : Heap} {b : Nat} (hb : H[b]? = some (.arr (l.flatMap encE) 7 false)) (n : Nat) (hn : n ≤ l.length) : EvsF H ⟨b, 0, n, false⟩ (l.take n) := by
  have h1 := flatMap_len encE_len l
  refine ⟨⟨by simp [Slc.len, hn], fun i x hi => ?_⟩, fun _ => ?_⟩
  · have hi2 : l[i]? = some x := by
      rw [List.getElem?_take] at hi
      split at hi
      · exact hi
      · cases hi
    obtain ⟨f1, f2⟩ := flatMap_get encE_len hi2
    simp only [rdCells, hb, Nat.zero_add]
    rw [if_pos f1, f2]
  · simp [rdCells, hb]

def enc1 (n : Int) : List AV := [.int .i64 n]
theorem enc1_len (n : Int) : (enc1 n).length = 1 := rfl
def pendN (l : List Sp) : Nat → List Int
  | 0 => []
  | n + 1 => match l[n]? with
    | some q => if q.to < 0 then pendN l n ++ [(n : Int)] else pendN l n
    | none => pendN l n
theorem pendN_le (l : List Sp) : ∀ n, (pendN l n).length ≤ n
  | 0 => Nat.le_refl _
  | n + 1 => by
    have := pendN_le l n
    unfold pendN
    split
    · split
      · simp; omega
      · omega
    · omega
def pendO (hl : List Ev) : List Int × Int := match spansV hl with
  | none => ([], 1)
  | some l => (pendN l l.length, 0)
def spO (hl : List Ev) : List Sp × Int := match spansV hl with
  | none => ([], 1)
  | some l => (l, 0)
theorem sl_none {α : Type} {H : Heap} {es : Nat} {f : α → List AV} : Sl H ⟨0, 0, 0, true⟩ es f ([] : List α) := ⟨rfl, fun i x h => by simp at h⟩
theorem ospans_u {hl : List Ev} {s0 : Slc} {h : Heap} (hs : Sl h s0 7 encE hl) (hlen : hl.length ≤ 140737488355327) {P : AV → Heap → Prop} (g : ∀ (z : Slc) t, Sl (h ++ t) z 8 encS (spO hl).1 → P (.tuple [z.av, .int .i64 (spO hl).2]) t) : CallE KH 15 [s0.av] h P := by
  unfold spO at g
  refine ospans_d hs hlen (fun hv t => ?_) (fun l hv z t hz => ?_)
  · rw [hv] at g
    exact g ⟨0, 0, 0, true⟩ t sl_none
  · rw [hv] at g
    exact g z t hz
theorem rspans_u {hl : List Ev} {s0 : Slc} {h : Heap} (hs : Sl h s0 7 encE hl) (hlen : hl.length ≤ 140737488355327) (hops : ∀ e ∈ hl, e.call.op.length ≤ 140737488355327) {P : AV → Heap → Prop} (g : ∀ (z : Slc) t, Sl (h ++ t) z 8 encS (spO hl).1 → P (.tuple [z.av, .int .i64 (spO hl).2]) t) : CallE KH 18 [s0.av] h P := by
  unfold spO at g
  refine rspans_d hs hlen hops (fun hv t => ?_) (fun l hv z t hz => ?_)
  · rw [hv] at g
    exact g ⟨0, 0, 0, true⟩ t sl_none
  · rw [hv] at g
    exact g z t hz
theorem spans_len {hl : List Ev} {l : List Sp} (hv : spansV hl = some l) : l.length ≤ 12 := by
  have hrr := rel_run hl 0 rel_start
  unfold spansV at hv
  rcases hrr with ⟨e, _⟩ | ⟨s', r', e, _, hrel⟩
  · rw [e] at hv; cases hv
  · rw [e] at hv
    simp only [Option.map_some, Option.some.injEq] at hv
    rw [← hv]
    exact hrel.le
theorem pend_next {l : List Sp} {n : Nat} {q : Sp} (hq : l[n]? = some q) : pendN l (n + 1) = if q.to < 0 then pendN l n ++ [(n : Int)] else pendN l n := by
  rw [pendN, hq]

theorem pend_d {hl : List Ev} {s0 : Slc} {h : Heap} (hs : Sl h s0 7 encE hl) (hlen : hl.length ≤ 140737488355327) {P : AV → Heap → Prop} (g : ∀ (z : Slc) t, Sl (h ++ t) z 1 enc1 (pendO hl).1 → P (.tuple [z.av, .int .i64 (pendO hl).2]) t) : CallE KH 19 [s0.av] h P := by
  refine d19 (by kernel_rfl) ?_
  unfold D19
  unfold pendO at g
  refine spans_d hs hlen (fun hv t => ⟨⟨0, 0, 0, true⟩, _, rfl, fun _ => ?_, fun e => by cases e⟩) (fun l hv z t1 hz => ⟨z, _, rfl, (fun e => by cases e), fun _ => ?_⟩)
  · rw [hv] at g
    exact g ⟨0, 0, 0, true⟩ _ sl_none
  rw [hv] at g
  have l12 := spans_len hv
  refine ⟨fun (m : Nat) (o : Slc) (x : Int) (t : Heap) => ∃ n : Nat, x = (n : Int) ∧ m + n = l.length ∧ Ow (h.length + t1.length) t o 1 ((pendN l n).flatMap enc1), ⟨l.length, 0, rfl, rfl, .inl ⟨rfl, rfl⟩⟩, ?_⟩
  rintro m o _ t2 ⟨n, rfl, hm, how⟩
  rw [hz.len]
  refine ⟨fun hc => ?_, fun hc => ?_⟩
  · simp only [decide_eq_true_eq] at hc
    obtain ⟨q, hq⟩ := lt_len rfl (show n < l.length by omega)
    have hn := pend_next hq
    have hol : o.len = (pendN l n).length := by
      have := how.len
      rw [flatMap_len enc1_len] at this
      omega
    have hpl := pendN_le l n
    refine ⟨⟨by omega, by omega⟩, q.to, hz.ext.cell (c := 6) hq rfl, fun c => ?_, fun c => ?_⟩
    · rw [if_pos (by simpa using c)] at hn
      obtain ⟨g1, e1, e2, e3⟩ := how.take
      refine ⟨_, g1, e1, by omega, m - 1, by omega, n + 1, wrap_succ (by omega), by omega, ?_⟩
      rw [hn, List.flatMap_append]
      refine Ow.mk (g1.length + 1) (by omega) ?_ ?_
      · rw [List.getElem?_append_right (by omega), Nat.add_sub_cancel_left]
        rfl
      · rw [List.length_append, flatMap_len enc1_len]
        show (o.len + 1) * 1 = (pendN l n).length * 1 + 1
        omega
    · rw [if_neg (by simpa using c)] at hn
      exact ⟨m - 1, by omega, n + 1, wrap_succ (by omega), by omega, by rw [hn]; exact how⟩
  · simp only [decide_eq_false_iff_not] at hc
    obtain rfl : n = l.length := by omega
    exact g o _ (how.sl (by decide) enc1_len at_app2)
theorem rpend_d {hl : List Ev} {s0 : Slc} {h : Heap} (hs : Sl h s0 7 encE hl) (hlen : hl.length ≤ 140737488355327) (hops : ∀ e ∈ hl, e.call.op.length ≤ 140737488355327) {P : AV → Heap → Prop} (g : ∀ (z : Slc) t, Sl (h ++ t) z 1 enc1 (pendO hl).1 → P (.tuple [z.av, .int .i64 (pendO hl).2]) t) : CallE KH 20 [s0.av] h P := by
  refine d20 (by kernel_rfl) ?_
  unfold D20
  unfold pendO at g
  refine rspans_d hs hlen hops (fun hv t => ⟨⟨0, 0, 0, true⟩, _, rfl, fun _ => ?_, fun e => by cases e⟩) (fun l hv z t1 hz => ⟨z, _, rfl, (fun e => by cases e), fun _ => ?_⟩)
  · rw [hv] at g
    exact g ⟨0, 0, 0, true⟩ _ sl_none
  rw [hv] at g
  have l12 := spans_len hv
  refine ⟨fun (m : Nat) (o : Slc) (x : Int) (t : Heap) => ∃ n : Nat, x = (n : Int) ∧ m + n = l.length ∧ Ow (h.length + t1.length) t o 1 ((pendN l n).flatMap enc1), ⟨l.length, 0, rfl, rfl, .inl ⟨rfl, rfl⟩⟩, ?_⟩
  rintro m o _ t2 ⟨n, rfl, hm, how⟩
  rw [hz.len]
  refine ⟨fun hc => ?_, fun hc => ?_⟩
  · simp only [decide_eq_true_eq] at hc
    obtain ⟨q, hq⟩ := lt_len rfl (show n < l.length by omega)
    have hn := pend_next hq
    have hol : o.len = (pendN l n).length := by
      have := how.len
      rw [flatMap_len enc1_len] at this
      omega
    have hpl := pendN_le l n
    refine ⟨⟨by omega, by omega⟩, q.to, hz.ext.cell (c := 6) hq rfl, fun c => ?_, fun c => ?_⟩
    · rw [if_pos (by simpa using c)] at hn
      obtain ⟨g1, e1, e2, e3⟩ := how.take
      refine ⟨_, g1, e1, by omega, m - 1, by omega, n + 1, wrap_succ (by omega), by omega, ?_⟩
      rw [hn, List.flatMap_append]
      refine Ow.mk (g1.length + 1) (by omega) ?_ ?_
      · rw [List.getElem?_append_right (by omega), Nat.add_sub_cancel_left]
        rfl
      · rw [List.length_append, flatMap_len enc1_len]
        show (o.len + 1) * 1 = (pendN l n).length * 1 + 1
        omega
    · rw [if_neg (by simpa using c)] at hn
      exact ⟨m - 1, by omega, n + 1, wrap_succ (by omega), by omega, by rw [hn]; exact how⟩
  · simp only [decide_eq_false_iff_not] at hc
    obtain rfl : n = l.length := by omega
    exact g o _ (how.sl (by decide) enc1_len at_app2)

theorem rwidth_d {hl : List Ev} {s0 : Slc} {h : Heap} (hs : Sl h s0 7 encE hl) (hlen : hl.length ≤ 140737488355327) (hops : ∀ e ∈ hl, e.call.op.length ≤ 140737488355327) {P : AV → Heap → Prop} (g1 : spansV hl = none → ∀ t, P (.tuple [.int .i64 0, .int .i64 1]) t)
    (g2 : ∀ l, spansV hl = some l → ∀ t, P (.tuple [.int .i64 (widthV hl), .int .i64 0]) t) : CallE KH 22 [s0.av] h P := by
  refine d22 (by kernel_rfl) ?_
  unfold D22
  refine rvalid_d hs hlen hops fun t1 => ⟨_, rfl, fun q => ?_, fun q => ?_⟩
  · refine g1 ?_ _
    have := valid_same hl
    rw [show validR hl = false by simpa using q] at this
    exact Option.not_isSome_iff_eq_none.1 (by rw [this]; simp)
  have := valid_same hl
  rw [show validR hl = true by simpa using q] at this
  obtain ⟨l, hv⟩ := Option.isSome_iff_exists.1 this
  refine ⟨fun (m : Nat) (o : Int) (w : Int) (x : Int) (t : Heap) => ∃ n : Nat, x = (n : Int) ∧ m + n = hl.length ∧ (hl.take n).foldl wS (0, 0) = (o, w) ∧ -(n : Int) ≤ o ∧ o ≤ (n : Int), ⟨hl.length, 0, rfl, rfl, rfl, by omega, by omega⟩, ?_⟩
  rintro m o w _ t2 ⟨n, rfl, hm, hf, h0, h1⟩
  rw [hs.len]
  refine ⟨fun hc => ?_, fun hc => ?_⟩
  · simp only [decide_eq_true_eq] at hc
    obtain ⟨e, he⟩ := lt_len rfl (show n < hl.length by omega)
    have hS := wS_take he
    rw [hf] at hS
    have e1 : (wS (o, w) e) = ((if e.ret then o - 1 else o + 1), if (if e.ret then o - 1 else o + 1) > w then (if e.ret then o - 1 else o + 1) else w) := rfl
    rw [e1] at hS
    refine ⟨⟨by omega, by omega⟩, e.ret, hs.cell (c := 2) he rfl, fun hr => ?_, fun hr => ?_⟩
    · simp only [hr, if_true] at hS
      rw [wrapI (by omega) (by omega)]
      refine ⟨fun c => ?_, fun c => ?_⟩
      · rw [if_pos (by simpa using c)] at hS
        exact ⟨m - 1, by omega, n + 1, wrap_succ (by omega), by omega, hS, by omega, by omega⟩
      · rw [if_neg (by simpa using c)] at hS
        exact ⟨m - 1, by omega, n + 1, wrap_succ (by omega), by omega, hS, by omega, by omega⟩
    · simp only [hr, Bool.false_eq_true, if_false] at hS
      rw [wrapI (by omega) (by omega)]
      refine ⟨fun c => ?_, fun c => ?_⟩
      · rw [if_pos (by simpa using c)] at hS
        exact ⟨m - 1, by omega, n + 1, wrap_succ (by omega), by omega, hS, by omega, by omega⟩
      · rw [if_neg (by simpa using c)] at hS
        exact ⟨m - 1, by omega, n + 1, wrap_succ (by omega), by omega, hS, by omega, by omega⟩
  · simp only [decide_eq_false_iff_not] at hc
    obtain rfl : n = hl.length := by omega
    rw [List.take_length] at hf
    have : widthV hl = w := by unfold widthV; rw [hf]
    rw [← this]
    exact g2 l hv _

theorem seq_d {hl : List Ev} {s0 : Slc} {h : Heap} (hs : Sl h s0 7 encE hl) (hlen : hl.length ≤ 140737488355327) {P : AV → Heap → Prop} (g1 : spansV hl = none → ∀ t, P (.tuple [.bool false, .int .i64 1]) t)
    (g2 : ∀ l, spansV hl = some l → SeqP l hl.length → ∀ t, P (.tuple [.bool true, .int .i64 0]) t) (g3 : ∀ l, spansV hl = some l → ¬ SeqP l hl.length → ∀ t, P (.tuple [.bool false, .int .i64 0]) t) : CallE KH 23 [s0.av] h P := by
  refine d23 (by kernel_rfl) ?_
  unfold D23
  refine spans_d hs hlen (fun hv t => ⟨⟨0, 0, 0, true⟩, _, rfl, fun _ => g1 hv _, fun e => by cases e⟩) (fun l hv z t1 hz => ⟨z, _, rfl, (fun e => by cases e), fun _ => ?_⟩)
  have l12 := spans_len hv
  refine ⟨fun (m : Nat) (x : Int) (t : Heap) => ∃ n : Nat, x = (n : Int) ∧ m + n = l.length ∧ ∀ (i : Nat) (q : Sp), i < n → l[i]? = some q → q.to = q.fr + 1 ∨ (q.to < 0 ∧ i + 1 = l.length ∧ q.fr + 1 = (hl.length : Int)), ⟨l.length, 0, rfl, rfl, fun i q hi => by omega⟩, ?_⟩
  rintro m _ t2 ⟨n, rfl, hm, hall⟩
  rw [hz.len, hs.len]
  refine ⟨fun hc => ?_, fun hc => ?_⟩
  · simp only [decide_eq_true_eq] at hc
    obtain ⟨q, hq⟩ := lt_len rfl (show n < l.length by omega)
    obtain ⟨fn, e, f1, f2, _⟩ := (facts_of hv).call n q hq
    have f3 := (List.getElem?_eq_some_iff.1 f2).1
    have w1 : IntKind.wrap .i64 (q.fr + 1) = q.fr + 1 := by rw [f1, wrap_succ (by omega)]; omega
    have next : (q.to = q.fr + 1 ∨ (q.to < 0 ∧ n + 1 = l.length ∧ q.fr + 1 = (hl.length : Int))) → ∀ (i : Nat) (q : Sp), i < n + 1 → l[i]? = some q → q.to = q.fr + 1 ∨ (q.to < 0 ∧ i + 1 = l.length ∧ q.fr + 1 = (hl.length : Int)) := by
      intro hh i p hi hp
      rcases Nat.lt_or_ge i n with h' | h'
      · exact hall i p h' hp
      · obtain rfl : i = n := by omega
        rw [hq] at hp
        cases hp
        exact hh
    have no : ¬ (q.to = q.fr + 1 ∨ (q.to < 0 ∧ n + 1 = l.length ∧ q.fr + 1 = (hl.length : Int))) → ∀ t, P (.tuple [.bool false, .int .i64 0]) t := fun hh => g3 l hv fun hS => hh (hS n q hq)
    rw [wrapI (k := (l.length : Int) - 1) (by omega) (by omega), wrapI (k := (hl.length : Int) - 1) (by omega) (by omega)]
    refine ⟨⟨by omega, by omega⟩, q.th, q.ix, q.call.op, q.call.x, q.call.y, q.fr, q.to, q.res, hz.ext.agg hq, fun c1 => ⟨fun c2 => ⟨fun c3 => ⟨fun c4 => no ?_ _, fun c4 => ?_⟩, fun c3 => no ?_ _⟩, fun c2 => no ?_ _⟩, fun c1 => ?_⟩
    · rw [w1] at c1
      simp only [bne_iff_ne, ne_eq, decide_eq_false_iff_not, bne_eq_false_iff_eq] at c1 c2 c3 c4
      omega
    · rw [w1] at c1
      simp only [bne_iff_ne, ne_eq, decide_eq_false_iff_not, bne_eq_false_iff_eq] at c1 c2 c3 c4
      exact ⟨m - 1, by omega, n + 1, wrap_succ (by omega), by omega, next (by omega)⟩
    · rw [w1] at c1
      simp only [bne_iff_ne, ne_eq, decide_eq_false_iff_not, bne_eq_false_iff_eq] at c1 c2 c3
      omega
    · rw [w1] at c1
      simp only [bne_iff_ne, ne_eq, decide_eq_true_eq] at c1 c2
      omega
    · rw [w1] at c1
      simp only [bne_eq_false_iff_eq] at c1
      exact ⟨m - 1, by omega, n + 1, wrap_succ (by omega), by omega, next (.inl c1)⟩
  · simp only [decide_eq_false_iff_not] at hc
    refine g2 l hv (fun i q hq => hall i q ?_ hq) _
    have := (List.getElem?_eq_some_iff.1 hq).1
    omega
theorem tmod2 (n : Nat) : ((Int.tmod (n : Int) 2) == 1) = decide (n % 2 = 1) := by
  have : Int.tmod (n : Int) 2 = ((n % 2 : Nat) : Int) := by
    rw [show (2 : Int) = ((2 : Nat) : Int) from rfl, ← Int.ofNat_tmod]
  rw [this, Bool.eq_iff_iff]
  simp only [beq_iff_eq, decide_eq_true_eq]
  omega
theorem rseq_d {hl : List Ev} {s0 : Slc} {h : Heap} (hs : Sl h s0 7 encE hl) (hlen : hl.length ≤ 140737488355327) (hops : ∀ e ∈ hl, e.call.op.length ≤ 140737488355327) {P : AV → Heap → Prop} (g1 : spansV hl = none → ∀ t, P (.tuple [.bool false, .int .i64 1]) t)
    (g2 : ∀ l, spansV hl = some l → SeqR hl → ∀ t, P (.tuple [.bool true, .int .i64 0]) t) (g3 : ∀ l, spansV hl = some l → ¬ SeqR hl → ∀ t, P (.tuple [.bool false, .int .i64 0]) t) : CallE KH 24 [s0.av] h P := by
  refine d24 (by kernel_rfl) ?_
  unfold D24
  refine rvalid_d hs hlen hops fun t1 => ⟨_, rfl, fun q => ?_, fun q => ?_⟩
  · refine g1 ?_ _
    have := valid_same hl
    rw [show validR hl = false by simpa using q] at this
    exact Option.not_isSome_iff_eq_none.1 (by rw [this]; simp)
  have := valid_same hl
  rw [show validR hl = true by simpa using q] at this
  obtain ⟨l, hv⟩ := Option.isSome_iff_exists.1 this
  refine ⟨fun (m : Nat) (x : Int) (t : Heap) => ∃ n : Nat, x = (n : Int) ∧ m + n = hl.length ∧ ∀ (i : Nat) (e : Ev), i < n → hl[i]? = some e → e.ret = decide (i % 2 = 1) ∧ (i % 2 = 1 → ∀ e', hl[i - 1]? = some e' → e.th = e'.th), ⟨hl.length, 0, rfl, rfl, fun i q hi => by omega⟩, ?_⟩
  rintro m _ t2 ⟨n, rfl, hm, hall⟩
  rw [hs.len]
  refine ⟨fun hc => ?_, fun hc => ?_⟩
  · simp only [decide_eq_true_eq] at hc
    obtain ⟨e, he⟩ := lt_len rfl (show n < hl.length by omega)
    have next : (e.ret = decide (n % 2 = 1) ∧ (n % 2 = 1 → ∀ e', hl[n - 1]? = some e' → e.th = e'.th)) → ∀ (i : Nat) (e : Ev), i < n + 1 → hl[i]? = some e → e.ret = decide (i % 2 = 1) ∧ (i % 2 = 1 → ∀ e', hl[i - 1]? = some e' → e.th = e'.th) := by
      intro hh i p hi hp
      rcases Nat.lt_or_ge i n with h' | h'
      · exact hall i p h' hp
      · obtain rfl : i = n := by omega
        rw [he] at hp
        cases hp
        exact hh
    have no : ¬ (e.ret = decide (n % 2 = 1) ∧ (n % 2 = 1 → ∀ e', hl[n - 1]? = some e' → e.th = e'.th)) → ∀ t, P (.tuple [.bool false, .int .i64 0]) t := fun hh => g3 l hv fun hS => hh (hS n e he)
    rw [tmod2]
    refine ⟨⟨by omega, by omega⟩, e.ret, hs.cell (c := 2) he rfl, fun c1 => ⟨fun c2 => ?_, fun c2 => ?_⟩, fun c1 => no ?_ _⟩
    · have c1 : e.ret = decide (n % 2 = 1) := by simpa using c1
      have c2 : n % 2 = 1 := by simpa using c2
      obtain ⟨e0, he0⟩ := lt_len rfl (show n - 1 < hl.length by omega)
      have hw : IntKind.wrap .i64 ((n : Int) - 1) = ((n - 1 : Nat) : Int) := by rw [wrapI (by omega) (by omega)]; omega
      rw [hw]
      refine ⟨⟨by omega, by omega⟩, e.th, hs.cell0 he rfl, ⟨by omega, by omega⟩, e0.th, hs.cell0 he0 rfl, fun c3 => no ?_ _, fun c3 => ?_⟩
      · rintro ⟨_, k⟩
        have := k c2 e0 he0
        simp [this] at c3
      · refine ⟨m - 1, by omega, n + 1, wrap_succ (by omega), by omega, next ⟨c1, fun _ e' he' => ?_⟩⟩
        rw [he0] at he'
        cases he'
        simpa using c3
    · have c1 : e.ret = decide (n % 2 = 1) := by simpa using c1
      refine ⟨m - 1, by omega, n + 1, wrap_succ (by omega), by omega, next ⟨c1, fun c3 => ?_⟩⟩
      simp [c3] at c2
    · rintro ⟨k, _⟩
      simp [k] at c1
  · simp only [decide_eq_false_iff_not] at hc
    refine g2 l hv (fun i q hq => hall i q ?_ hq) _
    have := (List.getElem?_eq_some_iff.1 hq).1
    omega

theorem spans26 {a b : Slc} {l : List Sp} {h : Heap} (ha : Sl h a 8 encS l) (hb : Sl h b 8 encS l) (hl : l.length ≤ 140737488355327) {P : AV → Heap → Prop} (hP : ∀ t, P (.bool true) t) : CallE KH 26 [a.av, b.av] h P := by
  refine d26 (by kernel_rfl) ?_
  unfold D26
  rw [ha.len, hb.len]
  refine ⟨fun e => by simp at e, fun _ => ?_⟩
  refine ⟨fun (m : Nat) (x : Int) (t : Heap) => ∃ n : Nat, x = (n : Int) ∧ m + n = l.length, ⟨l.length, 0, rfl, rfl⟩, ?_⟩
  rintro m _ t ⟨n, rfl, hm⟩
  refine ⟨fun hc => ?_, fun _ => hP _⟩
  simp only [decide_eq_true_eq] at hc
  obtain ⟨q, hq⟩ := lt_len rfl (show n < l.length by omega)
  have hagg : rdVar h (some 3) a.b ((a.o + ((n : Nat) : Int).toNat * 8) + 2) = some (.agg [.str q.call.op, .int .i64 q.call.x, .int .i64 q.call.y]) := by
    have := rd_part (i := 2) (m := 3) (ha.get n q hq) (by decide)
    simp only [rdVar, Int.toNat_natCast, this, Option.map_some]
    rfl
  refine ⟨⟨by omega, by omega⟩, q.th, ha.cell0 hq rfl, ⟨by omega, by omega⟩, q.ix, ha.cell (c := 1) hq rfl, ⟨by omega, by omega⟩, q.call.op, q.call.x, q.call.y, hagg, ⟨by omega, by omega⟩, q.fr, ha.cell (c := 5) hq rfl, ⟨by omega, by omega⟩, q.to, ha.cell (c := 6) hq rfl, ⟨by omega, by omega⟩, q.res, ha.cell (c := 7) hq rfl, ⟨by omega, by omega⟩, q.th, q.ix, q.call.op, q.call.x, q.call.y, q.fr, q.to, q.res, hb.agg hq, fun e => by simp at e, fun _ => ⟨m - 1, by omega, n + 1, wrap_succ (by omega), by omega⟩⟩
theorem ints27 {a b : Slc} {l : List Int} {h : Heap} (ha : Sl h a 1 enc1 l) (hb : Sl h b 1 enc1 l) (hl : l.length ≤ 140737488355327) {P : AV → Heap → Prop} (hP : ∀ t, P (.bool true) t) : CallE KH 27 [a.av, b.av] h P := by
  refine d27 (by kernel_rfl) ?_
  unfold D27
  rw [ha.len, hb.len]
  refine ⟨fun e => by simp at e, fun _ => ?_⟩
  refine ⟨fun (m : Nat) (x : Int) (t : Heap) => ∃ n : Nat, x = (n : Int) ∧ m + n = l.length, ⟨l.length, 0, rfl, rfl⟩, ?_⟩
  rintro m _ t ⟨n, rfl, hm⟩
  refine ⟨fun hc => ?_, fun _ => hP _⟩
  simp only [decide_eq_true_eq] at hc
  obtain ⟨q, hq⟩ := lt_len rfl (show n < l.length by omega)
  exact ⟨⟨by omega, by omega⟩, q, ha.cell0 hq rfl, ⟨by omega, by omega⟩, q, hb.cell0 hq rfl, fun e => by simp at e, fun _ => ⟨m - 1, by omega, n + 1, wrap_succ (by omega), by omega⟩⟩
theorem events28 {a b : Slc} {l : List Ev} {h : Heap} (ha : Sl h a 7 encE l) (hb : Sl h b 7 encE l) (hl : l.length ≤ 140737488355327) {P : AV → Heap → Prop} (hP : ∀ t, P (.bool true) t) : CallE KH 28 [a.av, b.av] h P := by
  refine d28 (by kernel_rfl) ?_
  unfold D28
  rw [ha.len, hb.len]
  refine ⟨fun e => by simp at e, fun _ => ?_⟩
  refine ⟨fun (m : Nat) (x : Int) (t : Heap) => ∃ n : Nat, x = (n : Int) ∧ m + n = l.length, ⟨l.length, 0, rfl, rfl⟩, ?_⟩
  rintro m _ t ⟨n, rfl, hm⟩
  refine ⟨fun hc => ?_, fun _ => hP _⟩
  simp only [decide_eq_true_eq] at hc
  obtain ⟨e, he⟩ := lt_len rfl (show n < l.length by omega)
  exact ⟨⟨by omega, by omega⟩, e.th, e.ix, e.ret, e.call.op, e.call.x, e.call.y, e.res, ha.agg he, ⟨by omega, by omega⟩, e.th, e.ix, e.ret, e.call.op, e.call.x, e.call.y, e.res, hb.agg he, fun e => by simp at e, fun _ => ⟨m - 1, by omega, n + 1, wrap_succ (by omega), by omega⟩⟩
end Go.Proofs.YtcjhjphmlfkikaaDoor.Mini

