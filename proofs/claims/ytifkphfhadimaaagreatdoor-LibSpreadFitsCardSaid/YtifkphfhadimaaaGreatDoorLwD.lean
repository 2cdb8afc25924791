/- Layer 16: which scripts fit, by the program: a plain function. -/
import Derived.Test.YtifkphfhadimaaaGreatDoorLwC
import Derived.Test.YtifkphfhadimaaaGreatDoorDecU
import Derived.Test.YtifkphfhadimaaaGreatDoorAbsG7
set_option linter.unusedVariables false
set_option linter.unusedSimpArgs false
set_option maxRecDepth 100000
namespace Go.Proofs.YtifkphfhadimaaaGreatDoor.Mini
open Go.Abs

noncomputable def newC : List (Nat × MFunc) := [(9, F9), (13, F13), (39, F39), (40, F40), (95, F95), (96, F96), (97, F97), (98, F98), (101, F101), (135, F135), (136, F136), (137, F137)]
noncomputable def tblC : List (Nat × MFunc) := tblB ++ newC
theorem tblC_ok : ∀ p ∈ tblC, (modelOf Tryz.prog noPrim).fn p.1 = some p.2 := by
  intro p hp
  rcases List.mem_append.1 hp with hp | hp
  · exact tblB_ok p hp
  · have : ∀ p ∈ newC, (modelOf Tryz.prog noPrim).fn p.1 = some p.2 := by
      simp only [newC, List.mem_cons, List.not_mem_nil, or_false, forall_eq_or_imp, forall_eq]
      exact ⟨fn9, fn13, fn39, fn40, fn95, fn96, fn97, fn98, fn101, fn135, fn136, fn137⟩
    exact this p hp
noncomputable def K5 : Model := ⟨fnOf tblC, primV prims4⟩
theorem le45 : Model.le K4 K5 := show Model.le ⟨fnOf tblB, primV prims4⟩ ⟨fnOf (tblB ++ newC), primV prims4⟩ from le_app

theorem rdAgg_at {H : Heap} {b n : Nat} {c : List AV} {es : Nat} {ro : Bool} (h : H[b]? = some (.arr c es ro)) (hn : c.length = n) : rdVar H (some n) b 0 = some (.agg c) := by
  subst hn
  simp [rdVar, rdCells, h]
theorem at_add {a b : Heap} {k : Nat} : (a ++ b)[a.length + k]? = b[k]? := by simp [List.getElem?_append_right]
theorem at_addc {x : AObj} {b : Heap} {k : Nat} : (x :: b)[1 + k]? = b[k]? := by rw [Nat.add_comm]; rfl
theorem at_len {a b : Heap} : (a ++ b)[a.length]? = b[0]? := by simp [List.getElem?_append_right]
theorem put_b {P : AV → Heap → Prop} {b b' : Bool} {t : Heap} (e : b = b') (h : P (.bool b) t) : P (.bool b') t := e ▸ h

def byV (name : List UInt8) (thread : Int) (op : List UInt8) : Bool :=
  if (((name ++ [32]) ++ op) == [100, 101, 113, 117, 101, 32, 112, 117, 115, 104] || ((name ++ [32]) ++ op) == [100, 101, 113, 117, 101, 32, 112, 111, 112]) then thread == 0
  else if (((name ++ [32]) ++ op) == [115, 110, 97, 112, 32, 117, 112, 100, 97, 116, 101]) then decide (thread < 2)
  else if (((name ++ [32]) ++ op) == [117, 110, 105, 32, 97, 100, 100]) then decide (thread < 3) else true

theorem nm_short {k : Nat} (hk : k < 21) : (nm k).length ≤ 5 := by
  have : ∀ k, k < 21 → (nm k).length ≤ 5 := by decide
  exact this k hk

theorem by_ok {k : Nat} (hk : k < 21) {c : Slc} {thread : Int} {op : List UInt8} (hop : op.length ≤ 140737488355328) {h : Heap} {P : AV → Heap → Prop} (hP : ∀ t, P (.bool (byV (nm k) thread op)) t) : CallE K5 101 [rowE k c, .int .i64 thread, .str op] h P := by
  refine d101 (by kernel_rfl) ?_
  unfold D101
  have hs := nm_short hk
  refine ⟨by simp; omega, by simp; omega, fun x t => x = ((((nm k ++ [32]) ++ op) == [100, 101, 113, 117, 101, 32, 112, 117, 115, 104]) || (((nm k ++ [32]) ++ op) == [100, 101, 113, 117, 101, 32, 112, 111, 112])), ⟨fun hb => ?_, fun hb => ?_⟩, ?_⟩
  · rw [hb]; rfl
  · rw [hb]; rfl
  · rintro x t hx
    refine ⟨fun hb => put_b ?_ (hP _), fun hb => ⟨fun h3 => put_b ?_ (hP _), fun h3 => ⟨fun h4 => put_b ?_ (hP _), fun h4 => put_b ?_ (hP _)⟩⟩⟩
    · rw [hb] at hx; unfold byV; rw [← hx]; rfl
    · rw [hb] at hx; unfold byV; rw [← hx, h3]; rfl
    · rw [hb] at hx; unfold byV; rw [← hx, h3, h4]; rfl
    · rw [hb] at hx; unfold byV; rw [← hx, h3, h4]; rfl

def inR (lo hi n : Int) (is : Bool) : Bool := if is then decide (n ≥ lo) && decide (n ≤ hi) else n == 0
theorem in_ok {lo hi n : Int} {is : Bool} {a o : Nat} {h : Heap} {P : AV → Heap → Prop} (h4 : rdVar h none a (o + 4) = some (.int .i64 lo)) (h5 : rdVar h none a (o + 5) = some (.int .i64 hi)) (hP : ∀ t, P (.bool (inR lo hi n is)) t) : CallE K5 137 [.int .i64 n, .bool is, .ptr a o] h P := by
  refine d137 (by kernel_rfl) ?_
  unfold D137
  refine ⟨fun hb => put_b ?_ (hP _), fun hb => ⟨lo, h4, fun hc => ⟨hi, h5, put_b ?_ (hP _)⟩, fun hc => put_b ?_ (hP _)⟩⟩
  · cases is
    · rfl
    · simp at hb
  · cases is
    · simp at hb
    · unfold inR; rw [hc]; rfl
  · cases is
    · simp at hb
    · unfold inR; rw [hc]; rfl

/-- slices.IndexFunc over the calls, with the closure of fits. -/
theorem index2_ok {s : Slc} {l : List Form} {op : List UInt8} {h : Heap} {a : Nat} (hs : Sl h s 2 encC l) (hl : l.length ≤ 1000000) (ha : rdVar h none a 0 = some (.str op)) {P : AV → Heap → Prop}
    (hP : ∀ t, P (.int .i64 (match at16 op l with | some i => (i : Int) | none => -1)) t) : CallE K5 76 [s.av, .fn 136 [.ptr a 0]] h P := by
  refine d76 (by kernel_rfl) ?_
  unfold D76
  refine ⟨fun n x t => ∃ i : Nat, x = i ∧ n + i = l.length ∧ ∀ j c, j < i → l[j]? = some c → (c.1 == op) = false, ⟨l.length, 0, rfl, rfl, fun j c h => absurd h (Nat.not_lt_zero j)⟩, ?_⟩
  rintro n x t ⟨i, rfl, hi, hno⟩
  rw [hs.len]
  refine ⟨fun hc => ?_, fun hc => ?_⟩
  · simp only [decide_eq_true_eq] at hc
    have hi' : i < l.length := by omega
    obtain ⟨y, hy⟩ := lt_len rfl hi'
    have hg := hs.agg hy
    refine ⟨by omega, y.1, y.2.1, by simpa [encC] using hg, ?_⟩
    refine d136 (by kernel_rfl) ?_
    unfold D136
    have hx := (inferInstance : ExtC h (h ++ t)).out.rdVar ha
    refine ⟨op, hx, _, rfl, fun hb => ?_, fun hb => ⟨n - 1, by omega, i + 1, wrap_succ (by omega), by omega, fun j c hj hjc => ?_⟩⟩
    · have : at16 op l = some i := by
        unfold at16
        rw [List.findIdx?_eq_some_iff_getElem]
        refine ⟨hi', ?_, fun j hj => ?_⟩
        · have := (List.getElem?_eq_some_iff.1 hy).2
          rw [this]
          exact hb
        · have := hno j l[j] hj (List.getElem?_eq_getElem (by omega))
          simp [this]
      have h2 := hP (t ++ [AObj.arr [(.str y.1), (.int .i64 y.2.1)] 2 false])
      rw [this] at h2
      exact h2
    · rcases Nat.lt_or_ge j i with h1 | h1
      · exact hno j c h1 hjc
      · have : j = i := by omega
        subst this
        rw [hy] at hjc
        cases hjc
        exact hb
  · simp only [decide_eq_false_iff_not] at hc
    have : at16 op l = none := by
      unfold at16
      rw [List.findIdx?_eq_none_iff]
      intro c hm
      obtain ⟨j, hj⟩ := List.mem_iff_getElem?.1 hm
      exact hno j c (by have := (List.getElem?_eq_some_iff.1 hj).1; omega) hj
    have h2 := hP t
    rw [this] at h2
    exact h2

def takesOf (k i : Nat) : Int := ((lrow k).calls.getD i ([], 0, 0)).2.1
def fitsV (k : Nat) (thread : Int) (c : Form) : Bool := match at16 c.1 (lrow k).calls with
  | none => false
  | some i => byV (nm k) thread c.1 && (inR (lrow k).lo (lrow k).hi c.2.1 (decide (takesOf k i > 0)) && inR (lrow k).lo (lrow k).hi c.2.2 (decide (takesOf k i > 1)))

theorem fits_ok {k : Nat} (hk : k < 21) {s : Slc} {thread : Int} {c : Form} (hop : c.1.length ≤ 140737488355328) {h : Heap} (hs : Sl h s 2 encC (lrow k).calls) {P : AV → Heap → Prop} (hP : ∀ t, P (.bool (fitsV k thread c)) t) : CallE K5 97 [rowE k s, .int .i64 thread, .agg (encF c)] h P := by
  refine d97 (by kernel_rfl) ?_
  unfold D97
  have hfew := few hk
  refine index2_ok (l := (lrow k).calls) hs.ext (by omega) (rdVar_at (c := encF c) (es := 3) (ro := false) (by simp [encF]) rfl) fun t1 => ⟨_, rfl, fun hb => ?_, fun hb => put_b ?_ (hP _)⟩
  · cases ha : at16 c.1 (lrow k).calls with
    | none => rw [ha] at hb; simp at hb
    | some i =>
      have hi : i < (lrow k).calls.length := by
        unfold at16 at ha
        rw [List.findIdx?_eq_some_iff_getElem] at ha
        exact ha.1
      obtain ⟨y, hy⟩ := lt_len rfl hi
      have hl := hs.len
      have hcell : rdVar h none s.b ((s.o + i * 2) + 1) = some (.int .i64 (takesOf k i)) := by
        have e : takesOf k i = y.2.1 := by unfold takesOf; rw [List.getD_eq_getElem?_getD, hy]; rfl
        rw [e]
        exact hs.cell hy (c := 1) (v := .int .i64 y.2.1) rfl
      refine by_ok hk hop fun t2 => ⟨_, rfl, fun hn => put_b ?_ (hP _), fun hn => ?_⟩
      · unfold fitsV; rw [ha]; simp only [Bool.not_eq_true'] at hn; simp only [hn, Bool.false_and]
      · refine ⟨⟨by simp, by simp only; omega⟩, takesOf k i, by simpa using hcell, ?_⟩
        refine in_ok (rdVar_at (c := [(.str (nm k)), (.str (src75 k)), (.int .i64 (lrow k).rule), s.av, (.int .i64 (lrow k).lo), (.int .i64 (lrow k).hi), (.bool (lrow k).safe), (.bool (lrow k).strict), (.bool (lrow k).point)]) (es := 9) (ro := false) (by simp) rfl) (rdVar_at (c := [(.str (nm k)), (.str (src75 k)), (.int .i64 (lrow k).rule), s.av, (.int .i64 (lrow k).lo), (.int .i64 (lrow k).hi), (.bool (lrow k).safe), (.bool (lrow k).strict), (.bool (lrow k).point)]) (es := 9) (ro := false) (by simp) rfl) fun t3 => ⟨_, rfl, fun h3 => ⟨⟨by simp, by simp only; omega⟩, takesOf k i, by simpa using hcell, ?_⟩, fun h3 => put_b ?_ (hP _)⟩
        · refine in_ok (rdVar_at (c := [(.str (nm k)), (.str (src75 k)), (.int .i64 (lrow k).rule), s.av, (.int .i64 (lrow k).lo), (.int .i64 (lrow k).hi), (.bool (lrow k).safe), (.bool (lrow k).strict), (.bool (lrow k).point)]) (es := 9) (ro := false) (by simp) rfl) (rdVar_at (c := [(.str (nm k)), (.str (src75 k)), (.int .i64 (lrow k).rule), s.av, (.int .i64 (lrow k).lo), (.int .i64 (lrow k).hi), (.bool (lrow k).safe), (.bool (lrow k).strict), (.bool (lrow k).point)]) (es := 9) (ro := false) (by simp) rfl) fun t4 => ⟨_, rfl, put_b ?_ (hP _)⟩
          unfold fitsV; rw [ha]; simp only [Bool.not_eq_false'] at hn; simp only [hn, h3, Bool.true_and]
        · unfold fitsV; rw [ha]; simp only [Bool.not_eq_false'] at hn; simp only [hn, h3, Bool.true_and, Bool.false_and]
  · cases ha : at16 c.1 (lrow k).calls with
    | some i => rw [ha] at hb; simp at hb; omega
    | none => unfold fitsV; rw [ha]

/-- The closure of Fits. -/
theorem misfit_ok {k : Nat} (hk : k < 21) {s : Slc} {thread : Int} {c : Form} (hop : c.1.length ≤ 140737488355328) {h : Heap} (hs : Sl h s 2 encC (lrow k).calls) {a1 a2 : Nat} (h1 : rdVar h (some 9) a1 0 = some (rowE k s)) (h2 : rdVar h none a2 0 = some (.int .i64 thread)) {P : AV → Heap → Prop} (hP : ∀ t, P (.bool (!fitsV k thread c)) t) : CallE K5 96 [.agg (encF c), .ptr a1 0, .ptr a2 0] h P := by
  refine d96 (by kernel_rfl) ?_
  unfold D96
  refine ⟨_, _, _, s, _, _, _, _, _, h1, thread, h2, ?_⟩
  exact fits_ok hk hop hs.ext fun t1 => ⟨_, rfl, hP _⟩

theorem scan_ok {k : Nat} (hk : k < 21) {s : Slc} {thread : Int} {h : Heap} (hs : Sl h s 2 encC (lrow k).calls) {a1 a2 : Nat} (h1 : rdVar h (some 9) a1 0 = some (rowE k s)) (h2 : rdVar h none a2 0 = some (.int .i64 thread)) {q : Slc} {l : List Form} (hq : Sl h q 3 encF l) (hl : l.length ≤ 140737488355327) (hops : ∀ c ∈ l, c.1.length ≤ 140737488355328) {P : AV → Heap → Prop} (hP : ∀ t, P (.bool (!l.all (fitsV k thread))) t) : CallE K5 95 [q.av, .fn 96 [.ptr a1 0, .ptr a2 0]] h P := by
  refine d95 (by kernel_rfl) ?_
  unfold D95
  refine d135 (by kernel_rfl) ?_
  unfold D135
  refine ⟨fun n x t => ∃ i : Nat, x = i ∧ n + i = l.length ∧ ∀ j c, j < i → l[j]? = some c → fitsV k thread c = true, ⟨l.length, 0, rfl, rfl, fun j c h => absurd h (Nat.not_lt_zero j)⟩, ?_⟩
  rintro n x t ⟨i, rfl, hi, hno⟩
  rw [hq.len]
  refine ⟨fun hc => ?_, fun hc => ⟨-1, rfl, put_b ?_ (hP _)⟩⟩
  · simp only [decide_eq_true_eq] at hc
    have hi' : i < l.length := by omega
    obtain ⟨y, hy⟩ := lt_len rfl hi'
    refine ⟨by omega, y.1, y.2.1, y.2.2, by simpa [encF] using hq.agg hy, ?_⟩
    refine misfit_ok hk (c := y) (hops y (List.mem_of_getElem? hy)) hs.ext ((inferInstance : ExtC h (h ++ t)).out.rdVar h1) ((inferInstance : ExtC h (h ++ t)).out.rdVar h2) fun t2 => ⟨_, rfl, fun hb => ⟨_, rfl, put_b ?_ (hP _)⟩, fun hb => ⟨n - 1, by omega, i + 1, wrap_succ (by omega), by omega, fun j c hj hjc => ?_⟩⟩
    · have : l.all (fitsV k thread) = false := by
        rw [List.all_eq_false]
        exact ⟨y, List.mem_of_getElem? hy, by simpa using hb⟩
      rw [this]
      simp
    · rcases Nat.lt_or_ge j i with h1 | h1
      · exact hno j c h1 hjc
      · have : j = i := by omega
        subst this
        rw [hy] at hjc
        cases hjc
        simpa using hb
  · simp only [decide_eq_false_iff_not] at hc
    have : l.all (fitsV k thread) = true := by
      rw [List.all_eq_true]
      intro c hm
      obtain ⟨j, hj⟩ := List.mem_iff_getElem?.1 hm
      exact hno j c (by have := (List.getElem?_eq_some_iff.1 hj).1; omega) hj
    rw [this]
    rfl

/-! ### Scripts -/
/-- A script that lies on the heap. -/
structure Script (h : Heap) (s : Slc) (ls : List (List Form)) : Prop where
  rows : ∃ qs : List Slc, Sl h s 1 (fun q : Slc => [q.av]) qs ∧ qs.length = ls.length ∧ ∀ (i : Nat) (q : Slc) (l : List Form), qs[i]? = some q → ls[i]? = some l → Sl h q 3 encF l
theorem Script.ext {h H : Heap} {s : Slc} {ls : List (List Form)} (k : Script h s ls) [e : ExtC h H] : Script H s ls := by
  obtain ⟨qs, h1, h2, h3⟩ := k.rows
  exact ⟨qs, h1.ext, h2, fun i q l hq hl => (h3 i q l hq hl).ext⟩
structure Small (ls : List (List Form)) : Prop where
  len : ls.length ≤ 140737488355327
  row : ∀ l ∈ ls, l.length ≤ 140737488355327
  op : ∀ l ∈ ls, ∀ c ∈ l, c.1.length ≤ 140737488355328
def rowsFit (k : Nat) (ls : List (List Form)) : Bool := (List.range ls.length).all fun t => (ls.getD t []).all (fitsV k t)
def total (ls : List (List Form)) : Nat := (ls.map List.length).sum
def libFitsV (k : Nat) (ls : List (List Form)) : Bool := rowsFit k ls && (decide (1 ≤ ls.length) && (decide (ls.length ≤ 4) && decide (total ls ≤ 12)))

theorem total_take {ls : List (List Form)} {i : Nat} {l : List Form} (h : ls[i]? = some l) : total (ls.take (i + 1)) = total (ls.take i) + l.length := by
  unfold total
  rw [List.take_add_one, h]
  simp
theorem total_le {ls : List (List Form)} (hs : Small ls) : ∀ i, total (ls.take i) ≤ i * 140737488355327
  | 0 => by simp [total]
  | i + 1 => by
    have ih := total_le hs i
    cases h : ls[i]? with
    | none =>
      rw [List.take_add_one, h]
      simp only [Option.toList_none, List.append_nil]
      exact Nat.le_trans ih (Nat.mul_le_mul_right _ (Nat.le_succ i))
    | some l =>
      rw [total_take h]
      have := hs.row l (List.mem_of_getElem? h)
      omega

theorem libFits_yes {k : Nat} (hk : k < 21) {s : Slc} {ls : List (List Form)} {h : Heap} (hsc : Script h s ls) (hsm : Small ls) {P : AV → Heap → Prop} (hP : ∀ t, P (.tuple [.bool (libFitsV k ls), .int .i64 0]) t) : CallE K5 39 [.str (nm k), s.av] h P := by
  refine d39 (by kernel_rfl) ?_
  unfold D39
  refine (find_yes hk fun c t1 hc hs => ?_).lift le45
  refine ⟨nm k, src75 k, (lrow k).rule, c, (lrow k).lo, (lrow k).hi, (lrow k).safe, (lrow k).strict, (lrow k).point, true, rfl, fun hb => by simp at hb, fun _ => ?_⟩
  obtain ⟨qs, hq1, hq2, hq3⟩ := hsc.rows
  have hlen : s.len = ls.length := by rw [hq1.len, hq2]
  have put_t : ∀ {b : Bool} {t : Heap}, libFitsV k ls = b → P (.tuple [.bool b, .int .i64 0]) t := fun {b t} e => e ▸ hP t
  refine ⟨fun n n2 x t => ∃ i : Nat, x = i ∧ n + i = ls.length ∧ (ls.length ≤ 4 → n2 = (total (ls.take i) : Nat)) ∧ ∀ (j : Nat) l, j < i → ls[j]? = some l → l.all (fitsV k (j : Int)) = true, ⟨ls.length, 0, rfl, rfl, fun _ => by simp [total], fun j l h => absurd h (Nat.not_lt_zero j)⟩, ?_⟩
  rintro n n2 x t2 ⟨i, rfl, hi, hn2, hno⟩
  rw [hlen]
  refine ⟨fun hc1 => ?_, fun hc1 => ?_⟩
  · simp only [decide_eq_true_eq] at hc1
    have hi' : i < ls.length := by omega
    obtain ⟨q, hq⟩ := lt_len hq2.symm hi'
    obtain ⟨l, hl⟩ := lt_len rfl hi'
    have hsl := hq3 i q l hq hl
    have hlm := List.mem_of_getElem? hl
    refine ⟨by omega, q, by simpa using hq1.cell0 hq (v := q.av) rfl, ?_⟩
    have hs' : Sl (h ++ (t1 ++ (AObj.arr [(.str (nm k)), (.str (src75 k)), (.int .i64 (lrow k).rule), c.av, (.int .i64 (lrow k).lo), (.int .i64 (lrow k).hi), (.bool (lrow k).safe), (.bool (lrow k).strict), (.bool (lrow k).point)] 9 false :: (t2 ++ [AObj.arr [(.int .i64 (i : Int))] 1 false])))) c 2 encC (lrow k).calls := hs.ext
    refine scan_ok hk (thread := (i : Int)) hs' (rdAgg_at (es := 9) (ro := false) ?_ rfl) (rdVar_at (c := [.int .i64 (i : Int)]) (es := 1) (ro := false) ?_ rfl) hsl.ext (hsm.row l hlm) (hsm.op l hlm) fun t3 => ⟨_, rfl, fun hb => put_t ?_, fun hb => ⟨n - 1, by omega, i + 1, wrap_succ (by have := hsm.len; omega), by omega, fun h4 => ?_, fun j l' hj hjl => ?_⟩⟩
    · simp
    · rw [at_add, at_add, at_addc, at_len]
      rfl
    · have : rowsFit k ls = false := by
        unfold rowsFit
        rw [List.all_eq_false]
        refine ⟨i, List.mem_range.2 hi', ?_⟩
        rw [List.getD_eq_getElem?_getD, hl]
        simpa using hb
      unfold libFitsV
      rw [this]
      rfl
    · rw [hn2 h4, hsl.len, total_take hl]
      have h1 := total_le hsm i
      have h2 := hsm.row l hlm
      have e3 : (2 : Int) ^ 64 = 18446744073709551616 := by decide
      have e4 : (2 : Int) ^ (64 - 1) = 9223372036854775808 := by decide
      simp only [IntKind.wrap, IntKind.signed, IntKind.bits, Bool.true_and, decide_eq_true_eq, e3, e4]
      have h5 : i * 140737488355327 ≤ 4 * 140737488355327 := Nat.mul_le_mul_right _ (by omega)
      rw [if_neg (by omega)]
      omega
    · rcases Nat.lt_or_ge j i with h1 | h1
      · exact hno j l' h1 hjl
      · have : j = i := by omega
        subst this
        rw [hl] at hjl
        cases hjl
        simpa using hb
  · simp only [decide_eq_false_iff_not] at hc1
    have hin : i = ls.length := by omega
    subst hin
    have hrows : rowsFit k ls = true := by
      unfold rowsFit
      rw [List.all_eq_true]
      intro j hj
      have hj := List.mem_range.1 hj
      obtain ⟨l, hl⟩ := lt_len rfl hj
      rw [List.getD_eq_getElem?_getD, hl]
      exact hno j l hj hl
    refine ⟨fun h1 => ⟨fun h4 => put_t ?_, fun h4 => put_t ?_⟩, fun h1 => put_t ?_⟩
    · simp only [decide_eq_true_eq] at h1 h4
      have e := hn2 (by omega)
      rw [List.take_length] at e
      unfold libFitsV
      rw [hrows, e, decide_eq_true (show 1 ≤ ls.length by omega), decide_eq_true (show ls.length ≤ 4 by omega)]
      simp only [Bool.true_and]
      by_cases ht : total ls ≤ 12
      · rw [decide_eq_true ht, decide_eq_true (by omega)]
      · rw [decide_eq_false ht, decide_eq_false (by omega)]
    · simp only [decide_eq_false_iff_not] at h4
      unfold libFitsV
      rw [hrows, decide_eq_false (show ¬ ls.length ≤ 4 by omega)]
      simp
    · simp only [decide_eq_false_iff_not] at h1
      unfold libFitsV
      rw [hrows, decide_eq_false (show ¬ 1 ≤ ls.length by omega)]
      simp
end Go.Proofs.YtifkphfhadimaaaGreatDoor.Mini

