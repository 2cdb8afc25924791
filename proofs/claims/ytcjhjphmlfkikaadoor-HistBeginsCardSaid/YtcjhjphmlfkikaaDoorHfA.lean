import Derived.Test.YtcjhjphmlfkikaaDoorHfP
import Derived.Test.YtcjhjphmlfkikaaDoorAbsG2
set_option linter.unusedVariables false
set_option linter.unusedSimpArgs false
set_option maxRecDepth 100000
namespace Go.Proofs.YtcjhjphmlfkikaaDoor.Mini
open Go.Abs

theorem encE_len (e : Ev) : (encE e).length = 7 := rfl
theorem rd_joinH {H : Heap} {b o n m : Nat} {x y : List AV} (h1 : rdCells H b o n = some x) (h2 : rdCells H b (o + n) m = some y) : rdCells H b o (n + m) = some (x ++ y) := by
  unfold rdCells at h1 h2 ⊢
  cases hb : H[b]? with
  | none => rw [hb] at h1; cases h1
  | some ob =>
    rw [hb] at h1 h2
    cases ob with
    | arr c es ro =>
      simp only at h1 h2 ⊢
      split at h1
      · rename_i h3
        split at h2
        · rename_i h4
          rw [if_pos (by omega)]
          cases h1
          cases h2
          rw [List.take_add, List.drop_drop]
        · cases h2
      · cases h1
    | _ => cases h1
theorem sl_rowsH {α : Type} {H : Heap} {s : Slc} {es : Nat} {f : α → List AV} {l : List α} (k : Sl H s es f l) (h0 : rdCells H s.b s.o 0 = some []) : ∀ n, n ≤ l.length → rdCells H s.b s.o (n * es) = some ((l.take n).flatMap f)
  | 0, _ => by simpa using h0
  | n + 1, hn => by
    obtain ⟨x, hx⟩ := lt_len rfl (show n < l.length by omega)
    rw [Nat.add_mul, Nat.one_mul, take_flat f hx]
    exact rd_joinH (sl_rowsH k h0 n (by omega)) (k.get n x hx)
theorem slice_row {H : Heap} {s : Slc} {l : List Ev} (k : EvsF H s l) : rowOf H 7 s.av = some (l.flatMap encE) := by
  have hl := k.sl.len
  unfold Slc.av
  unfold Slc.len at hl
  cases hn : s.nil with
  | true =>
    rw [hn] at hl
    obtain rfl : l = [] := List.eq_nil_of_length_eq_zero hl.symm
    simp [rowOf]
  | false =>
    rw [hn] at hl
    simp only [cond_false] at hl ⊢
    simp only [rowOf, hl]
    have := sl_rowsH k.sl (k.here hn) l.length (Nat.le_refl _)
    rw [List.take_length] at this
    exact this
theorem own_nil {h : Heap} {x : AV} (hx : lenOf x = some 0) (hr : rowOf (h ++ [AObj.arr [] 7 false]) 7 x = some []) (ht : x = .nilslice ∨ ∃ b o, x = .slice b o 0) : Does KH 17 [x] h (.slice h.length 0 0) (h ++ [AObj.arr [] 7 false]) := by
  have key : evalOp [x, .undef, .nilslice, .slice h.length 0 0, x, .undef] (h ++ [AObj.arr [] 7 false]) (.append 7 64 (.tmp 3) (.tmp 4)) = some (.slice h.length 0 0, h ++ [AObj.arr [] 7 false]) := by
    show (match lenOf x, rowOf (h ++ [AObj.arr [] 7 false]) 7 x with
      | some n, some new => appendAV (h ++ [AObj.arr [] 7 false]) 7 64 (.slice h.length 0 0) n new
      | _, _ => none) = _
    rw [hx, hr]
    simp [appendAV, lenOf, takeRow]
  rcases ht with rfl | ⟨b, o, rfl⟩
  · refine does_of_exec (n := 60) [(5, .full (.slice h.length 0 0) (h ++ [AObj.arr [] 7 false]))] [evalOp [.nilslice, .undef, .nilslice, .slice h.length 0 0, .nilslice, .undef] (h ++ [AObj.arr [] 7 false]) (.append 7 64 (.tmp 3) (.tmp 4)) = some (.slice h.length 0 0, h ++ [AObj.arr [] 7 false])] (by kernel_rfl) ?_
    simp only [List.mem_cons, List.not_mem_nil, or_false, forall_eq]
    exact key
  · refine does_of_exec (n := 60) [(5, .full (.slice h.length 0 0) (h ++ [AObj.arr [] 7 false]))] [evalOp [.slice b o 0, .undef, .nilslice, .slice h.length 0 0, .slice b o 0, .undef] (h ++ [AObj.arr [] 7 false]) (.append 7 64 (.tmp 3) (.tmp 4)) = some (.slice h.length 0 0, h ++ [AObj.arr [] 7 false])] (by kernel_rfl) ?_
    simp only [List.mem_cons, List.not_mem_nil, or_false, forall_eq]
    exact key
theorem own_d {hl : List Ev} {s0 : Slc} {h : Heap} (hs : EvsF h s0 hl) (hlen : hl.length ≤ 1000000) {P : AV → Heap → Prop} (hP : ∀ (b : Nat) t, (h ++ t)[b]? = some (.arr (hl.flatMap encE) 7 false) → h.length ≤ b → P (.slice b 0 hl.length) t) : CallE KH 17 [s0.av] h P := by
  rcases Nat.eq_zero_or_pos hl.length with h0 | h0
  · obtain rfl : hl = [] := List.eq_nil_of_length_eq_zero h0
    have hl := hs.sl.len
    refine CallE.of_does (tail := [AObj.arr [] 7 false]) (v := .slice h.length 0 0) (own_nil ?_ ?_ ?_) (hP h.length _ (by simp) (Nat.le_refl _))
    · unfold Slc.av
      unfold Slc.len at hl
      cases hn : s0.nil with
      | true => rfl
      | false => rw [hn] at hl; simpa [lenOf] using hl
    · have := slice_row (H := h ++ [AObj.arr [] 7 false]) (hs.ext)
      simpa using this
    · unfold Slc.av
      unfold Slc.len at hl
      cases hn : s0.nil with
      | true => exact .inl rfl
      | false =>
        rw [hn] at hl
        refine .inr ⟨s0.b, s0.o, ?_⟩
        have : s0.n = 0 := by simpa using hl
        rw [this]
        rfl
  · refine d17 (by kernel_rfl) ?_
    unfold D17
    rw [hs.sl.len]
    refine ⟨h0, _, slice_row hs, by omega, ?_⟩
    rw [Nat.zero_add]
    exact hP _ _ (by simp) (by omega)
theorem own_sl {l : List Ev} {H : Heap} {b : Nat} (hb : H[b]? = some (.arr (l.flatMap encE) 7 false)) (n : Nat) (hn : n ≤ l.length) : EvsF H ⟨b, 0, n, false⟩ (l.take n) := by
  have h1 := flatMap_len encE_len l
  refine ⟨⟨by simp [Slc.len, hn], fun i x hi => ?_⟩, fun _ => ?_⟩
  · have hi2 : l[i]? = some x := by
      rw [List.getElem?_take] at hi
      split at hi
      · exact hi
      · cases hi
    obtain ⟨f1, f2⟩ := flatMap_get encE_len hi2
    simp only [rdCells, hb, Nat.zero_add]
    rw [if_pos f1, f2]
  · simp [rdCells, hb]

theorem spans_len {hl : List Ev} {l : List Sp} (hv : spansV hl = some l) : l.length ≤ 12 := by
  have hrr := rel_run hl 0 rel_start
  unfold spansV at hv
  rcases hrr with ⟨e, _⟩ | ⟨s', r', e, _, hrel⟩
  · rw [e] at hv; cases hv
  · rw [e] at hv
    simp only [Option.map_some, Option.some.injEq] at hv
    rw [← hv]
    exact hrel.le
end Go.Proofs.YtcjhjphmlfkikaaDoor.Mini

