/- slices.IndexFunc, on the abstract machine. -/
import Derived.Test.YthedodaghjpdoaaMini
import Derived.Test.YthedodaghjpdoaaAbsO
set_option linter.unusedVariables false
set_option linter.unusedSimpArgs false
namespace Go.Proofs.Ythedodaghjpdoaa.Kinds
open Go.Abs Mini

noncomputable def tbl : List (Nat × MFunc) := [(3, F3), (4, F4), (12, F12), (13, F13), (17, F17), (18, F18), (5, F5), (6, F6), (7, F7), (8, F8), (9, F9), (10, F10), (11, F11), (14, F14), (15, F15), (16, F16), (19, F19), (20, F20), (21, F21), (22, F22 src22), (23, F23), (24, F24)]
noncomputable def K : Model := ⟨fnOf tbl, noPrim⟩

def IdxB (es : Nat) : MCode := (.seq (.region [(.mk (.some 9) (.bin .lss (.tmp 8) (.tmp 7)) .none)]) (.seq (.cond (.tmp 9) .skip (.exit 0)) (.seq (.block 1 (.seq (.region [(.mk (.some 10) (.mov (.tmp 8)) .none), (.mk (.some 5) (.mov (.tmp 10)) .none)]) (.seq (.region [(.mk (.some 11) (.mov (.tmp 1)) .none), (.mk (.some 12) (.mov (.tmp 0)) .none), (.mk (.some 13) (.mov (.tmp 5)) .none), (.mk (.some 14) (.indexAddr es (.tmp 12) (.tmp 13)) .none), (.mk (.some 15) (.load (.some es) (.tmp 14)) .none), (.mk (.some 16) (.call (.tmp 11) [(.tmp 15)]) .none)]) (.cond (.tmp 16) (.seq (.region [(.mk (.some 17) (.mov (.tmp 5)) .none), (.mk (.some 4) (.mov (.tmp 17)) .none)]) .ret) .skip)))) (.region [(.mk (.some 18) (.bin .add (.tmp 8) (.const (.int .i64 1))) .none), (.mk (.some 8) (.mov (.tmp 18)) .none)]))))
def IdxF (es : Nat) : MFunc := (.mk 19 (.seq (.region [(.mk (.some 4) (.mov (.const (.int .i64 0))) .none)]) (.seq (.seq (.region [(.mk (.some 6) (.mov (.tmp 0)) .none), (.mk (.some 7) (.lenSlc (.tmp 6)) .none), (.mk (.some 8) (.mov (.const (.int .i64 0))) .none)]) (.block 0 (.loop (IdxB es)))) (.seq (.region [(.mk (.some 4) (.mov (.const (.int .i64 (.negSucc 0)))) .none)]) .ret))) [(.tmp 4)])
theorem F20_eq : F20 = IdxF 2 := rfl
theorem F23_eq : F23 = IdxF 9 := rfl

/-- What is asked of an index that a token tells. -/
def IA (h : Heap) (b o n es : Nat) (j : Int) (v : AV) : Prop := (if 0 ≤ j ∧ j < n then some (AV.ptr b (o + j.toNat * es), h) else none) = some (v, h)
theorem IA.of {h : Heap} {b o n es i : Nat} (hi : i < n) : IA h b o n es i (.ptr b (o + i * es)) := by
  unfold IA
  rw [if_pos (by omega)]
  simp

theorem wrap_small {i : Int} (h1 : 0 ≤ i) (h2 : i < 9223372036854775808) : IntKind.i64.wrap i = i := by
  simp only [IntKind.wrap, IntKind.bits, IntKind.signed]
  simp
  omega

def iT (b o n : Nat) (f : AV) (i : Nat) (t2 t3 t5 t9 t10 t11 t12 t13 t14 t15 t16 t17 t18 : AV) : Tmps := [.slice b o n, f, t2, t3, .int .i64 0, t5, .slice b o n, .int .i64 n, .int .i64 i, t9, t10, t11, t12, t13, t14, t15, t16, t17, t18]

variable {M : Model}

theorem idx_no {es b o n g i : Nat} {cap E : List AV} {h h3 : Heap} {t2 t3 t5 t9 t10 t11 t12 t13 t14 t15 t16 t17 t18 : AV} (hn : n < 9223372036854775807) (hi : i < n) (hr : Abs.rdVar h (some es) b (o + i * es) = some (.agg E)) (hc : Does M g (.agg E :: cap) h (.bool false) h3) :
    Gets M (IdxB es) (iT b o n (.fn g cap) i t2 t3 t5 t9 t10 t11 t12 t13 t14 t15 t16 t17 t18) h .normal (iT b o n (.fn g cap) (i + 1) t2 t3 (.int .i64 i) (.bool true) (.int .i64 i) (.fn g cap) (.slice b o n) (.int .i64 i) (.ptr b (o + i * es)) (.agg E) (.bool false) t17 (.int .i64 (i + 1 : Nat))) h3 := by
  refine gets_of_exec (n := 60) [(9, .val (.bool true)), (14, .full (.ptr b (o + i * es)) h), (15, .full (.agg E) h), (16, .call (.bool false) h3), (18, .val (.int .i64 (i + 1 : Nat)))]
    [AV.int .i64 (IntKind.i64.wrap ((i : Int) + 1)) = .int .i64 (i + 1 : Nat), ∀ Q : AV → Heap → Prop, Q (.bool false) h3 → Runs M (.call g (.agg E :: cap) Q) h, LD h (some es) b (o + i * es) (.agg E), IA h b o n es i (.ptr b (o + i * es)), AV.bool (decide ((i : Int) < (n : Int))) = .bool true] (by kernel_rfl) ?_
  simp only [List.mem_cons, List.not_mem_nil, or_false, forall_eq_or_imp, forall_eq]
  refine ⟨?_, hc, LD.of hr, IA.of hi, ?_⟩
  · rw [wrap_small (by omega) (by omega)]
    rfl
  · simp [hi]

theorem idx_yes {es b o n g i : Nat} {cap E : List AV} {h h3 : Heap} {t2 t3 t5 t9 t10 t11 t12 t13 t14 t15 t16 t17 t18 : AV} (hi : i < n) (hr : Abs.rdVar h (some es) b (o + i * es) = some (.agg E)) (hc : Does M g (.agg E :: cap) h (.bool true) h3) :
    Gets M (IdxB es) (iT b o n (.fn g cap) i t2 t3 t5 t9 t10 t11 t12 t13 t14 t15 t16 t17 t18) h .ret [.slice b o n, .fn g cap, t2, t3, .int .i64 i, .int .i64 i, .slice b o n, .int .i64 n, .int .i64 i, .bool true, .int .i64 i, .fn g cap, .slice b o n, .int .i64 i, .ptr b (o + i * es), .agg E, .bool true, .int .i64 i, t18] h3 := by
  refine gets_of_exec (n := 60) [(9, .val (.bool true)), (14, .full (.ptr b (o + i * es)) h), (15, .full (.agg E) h), (16, .call (.bool true) h3)]
    [∀ Q : AV → Heap → Prop, Q (.bool true) h3 → Runs M (.call g (.agg E :: cap) Q) h, LD h (some es) b (o + i * es) (.agg E), IA h b o n es i (.ptr b (o + i * es)), AV.bool (decide ((i : Int) < (n : Int))) = .bool true] (by kernel_rfl) ?_
  simp only [List.mem_cons, List.not_mem_nil, or_false, forall_eq_or_imp, forall_eq]
  exact ⟨hc, LD.of hr, IA.of hi, by simp [hi]⟩

theorem idx_end {es b o n g : Nat} {cap : List AV} {h : Heap} {t2 t3 t5 t9 t10 t11 t12 t13 t14 t15 t16 t17 t18 : AV} :
    Gets M (IdxB es) (iT b o n (.fn g cap) n t2 t3 t5 t9 t10 t11 t12 t13 t14 t15 t16 t17 t18) h (.exit 0) (iT b o n (.fn g cap) n t2 t3 t5 (.bool false) t10 t11 t12 t13 t14 t15 t16 t17 t18) h := by
  refine gets_of_exec (n := 60) [(9, .val (.bool false))] [AV.bool (decide ((n : Int) < (n : Int))) = .bool false] (by kernel_rfl) ?_
  simp

/-- The first place from i on where p says yes; -1: there is none. -/
def firstFrom (p : Nat → Bool) : Nat → Nat → Int
  | 0, _ => -1
  | k + 1, i => if p i then i else firstFrom p k (i + 1)

theorem idx_loop {es b o n g : Nat} {cap : List AV} {h : Heap} {E : Nat → List AV} {p : Nat → Bool} (hn : n < 9223372036854775807) (hE : ∀ i, i < n → Abs.rdVar h (some es) b (o + i * es) = some (.agg (E i)))
    (hc : ∀ i h2, i < n → Ext h h2 → ∃ h3, Ext h2 h3 ∧ Does M g (.agg (E i) :: cap) h2 (.bool (p i)) h3) :
    ∀ (k i : Nat) (h2 : Heap) (t2 t3 t5 t9 t10 t11 t12 t13 t14 t15 t16 t17 t18 : AV), i + k = n → Ext h h2 → ∃ x t' h3, Ext h2 h3 ∧ Gets M (.loop (IdxB es)) (iT b o n (.fn g cap) i t2 t3 t5 t9 t10 t11 t12 t13 t14 t15 t16 t17 t18) h2 x t' h3 ∧
      ((x = .ret ∧ t'.getD 4 .undef = .int .i64 (firstFrom p k i)) ∨ (x = .exit 0 ∧ firstFrom p k i = -1 ∧ t'.length = 19)) := by
  intro k
  induction k with
  | zero =>
    intro i h2 t2 t3 t5 t9 t10 t11 t12 t13 t14 t15 t16 t17 t18 hik hx
    obtain rfl : i = n := by omega
    exact ⟨_, _, h2, Ext.refl h2, .loopX (by simp) idx_end, .inr ⟨rfl, rfl, rfl⟩⟩
  | succ k ih =>
    intro i h2 t2 t3 t5 t9 t10 t11 t12 t13 t14 t15 t16 t17 t18 hik hx
    obtain ⟨h3, hx3, hd⟩ := hc i h2 (by omega) hx
    have hr := hx.rdVar (hE i (by omega))
    cases hp : p i with
    | true =>
      rw [hp] at hd
      exact ⟨_, _, h3, hx3, .loopX (by simp) (idx_yes (by omega) hr hd), .inl ⟨rfl, by simp [firstFrom, hp]⟩⟩
    | false =>
      rw [hp] at hd
      obtain ⟨x, t', h4, hx4, hg, hres⟩ := ih (i + 1) h3 _ _ _ _ _ _ _ _ _ _ _ _ _ (by omega) (hx.trans hx3)
      refine ⟨x, t', h4, hx3.trans hx4, .loop (idx_no hn (by omega) hr hd) hg, ?_⟩
      simpa [firstFrom, hp] using hres

theorem idx_does {es b o n g f : Nat} {cap : List AV} {h : Heap} {E : Nat → List AV} {p : Nat → Bool} (hf : M.fn f = some (IdxF es)) (hn : n < 9223372036854775807) (hE : ∀ i, i < n → Abs.rdVar h (some es) b (o + i * es) = some (.agg (E i)))
    (hc : ∀ i h2, i < n → Ext h h2 → ∃ h3, Ext h2 h3 ∧ Does M g (.agg (E i) :: cap) h2 (.bool (p i)) h3) : ∃ h3, Ext h h3 ∧ Does M f [.slice b o n, .fn g cap] h (.int .i64 (firstFrom p n 0)) h3 := by
  obtain ⟨x, t', h3, hx3, hg, hres⟩ := idx_loop hn hE hc n 0 h .undef .undef .undef .undef .undef .undef .undef .undef .undef .undef .undef .undef .undef (by omega) (Ext.refl h)
  refine ⟨h3, hx3, ?_⟩
  have h1 : Gets M (.region [(.mk (.some 4) (.mov (.const (.int .i64 0))) .none)]) ([.slice b o n, .fn g cap] ++ List.replicate 17 .undef) h .normal [.slice b o n, .fn g cap, .undef, .undef, .int .i64 0, .undef, .undef, .undef, .undef, .undef, .undef, .undef, .undef, .undef, .undef, .undef, .undef, .undef, .undef] h :=
    gets_of_exec (n := 10) [] [] (by kernel_rfl) (by simp)
  have h2 : Gets M (.region [(.mk (.some 6) (.mov (.tmp 0)) .none), (.mk (.some 7) (.lenSlc (.tmp 6)) .none), (.mk (.some 8) (.mov (.const (.int .i64 0))) .none)]) [.slice b o n, .fn g cap, .undef, .undef, .int .i64 0, .undef, .undef, .undef, .undef, .undef, .undef, .undef, .undef, .undef, .undef, .undef, .undef, .undef, .undef] h .normal
      (iT b o n (.fn g cap) 0 .undef .undef .undef .undef .undef .undef .undef .undef .undef .undef .undef .undef .undef) h := gets_of_exec (n := 10) [] [] (by kernel_rfl) (by simp)
  rcases hres with ⟨rfl, hv⟩ | ⟨rfl, hv, hl⟩
  · refine Gets.call hf (Gets.seq h1 (Gets.seqX (by simp) (Gets.seq h2 (Gets.block hg)))) (.inr rfl) ?_
    show Abs.results h3 t' [.tmp 4] = _
    simpa [Abs.results, resAll, resOf] using hv
  · refine Gets.call hf (Gets.seq h1 (Gets.seq (Gets.seq h2 (Gets.block hg)) (Gets.seq (t1 := t'.set 4 (.int .i64 (-1))) (h1 := h3) ?_ (fun Q hQ => Runs.ret hQ)))) (.inr rfl) ?_
    · exact fun Q hQ => Runs.region (Runs.cons (fun v h => v = .int .i64 (-1) ∧ h = h3) rfl (Runs.op rfl ⟨rfl, rfl⟩) (by rintro v h ⟨rfl, rfl⟩; exact Runs.nil hQ))
    · show Abs.results h3 (t'.set 4 _) [.tmp 4] = _
      simp [Abs.results, resAll, resOf, hl, hv]
end Go.Proofs.Ythedodaghjpdoaa.Kinds
