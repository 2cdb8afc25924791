import Derived.Test.YtcjhjphmlfkikaaDoorHcC
import Derived.Test.YtcjhjphmlfkikaaDoorAbsG7
set_option linter.unusedVariables false
set_option linter.unusedSimpArgs false
set_option maxRecDepth 100000
namespace Go.Proofs.YtcjhjphmlfkikaaDoor.Mini
open Go.Abs

structure BldS (h t : Heap) (b : Nat) (s : List UInt8) : Prop where
  le : h.length ≤ b
  obj : ∃ (x : AV) (s0 : List UInt8), (h ++ t)[b]? = some (.bld 192 x s0) ∧ BufIs (h ++ t) 5 x s ∧ ∀ q o n, x = .slice q o n → h.length ≤ q
theorem BldS.more {h t : Heap} {b : Nat} {s : List UInt8} (k : BldS h t b s) (u : Heap) : BldS h (t ++ u) b s := by
  obtain ⟨hl, x, s0, h1, h2, h3⟩ := k
  have app : ∀ {i : Nat} {o : AObj}, (h ++ t)[i]? = some o → (h ++ (t ++ u))[i]? = some o := fun {i o} hi => by
    rw [← List.append_assoc, List.getElem?_append_left (List.getElem?_eq_some_iff.1 hi).1]
    exact hi
  refine ⟨hl, x, s0, app h1, ?_, h3⟩
  rcases h2 with h2 | ⟨r, y, e, hr⟩
  · exact .inl h2
  · exact .inr ⟨r, y, e, app hr⟩
def KeepArr (h t t' : Heap) : Prop := ∀ (i : Nat) (c : List AV) (es : Nat) (ro : Bool), (h ++ t)[i]? = some (.arr c es ro) → (h ++ t')[i]? = some (.arr c es ro)

theorem kill_split {h t : Heap} {x : AV} (hx : ∀ q o n, x = .slice q o n → h.length ≤ q) : ∃ t1, killB (h ++ t) x = h ++ t1 ∧ t1.length = t.length := by
  cases x <;> first
    | exact ⟨t, rfl, rfl⟩
    | skip
  rename_i q o n
  refine ⟨t.set (q - h.length) .dead, ?_, by simp⟩
  simp only [killB]
  rw [List.set_append_right _ _ (hx q o n rfl)]

theorem write_ok {b : Nat} {y s : List UInt8} {h t : Heap} (hy : y ≠ []) (hb : BldS h t b s) (hlen : s.length + y.length ≤ 140737488355328) {P : AV → Heap → Prop}
    (hP : ∀ t', BldS h t' b (s ++ y) → KeepArr h t t' → P (.tuple [.int .i64 (y.length : Int), .niliface]) t') : CallP KH 69 [.ptr b 0, .str y] h t P := by
  obtain ⟨hl, x, s0, h1, h2, h3⟩ := hb
  obtain ⟨t1, e1, l1⟩ := kill_split (t := t) h3
  have hbl : b < (h ++ t).length := (List.getElem?_eq_some_iff.1 h1).1
  have hbl' : b < h.length + t.length := by simpa using hbl
  intro Q hQ
  refine .prim (.inl (.inr (.inl ⟨rfl, b, y, x, s0, s, rfl, hy, h1, h2, hlen, ?_⟩)))
  have e2 : (killB (h ++ t) x).set b (.bld (2 * bldN.T) (.slice (h ++ t).length 0 (s.length + y.length)) []) ++ [strB bldN.U (s ++ y)] = h ++ (t1.set (b - h.length) (.bld 192 (.slice (h ++ t).length 0 (s.length + y.length)) []) ++ [strB 5 (s ++ y)]) := by
    rw [e1, List.set_append_right _ _ hl, List.append_assoc]
    rfl
  rw [e2]
  refine hQ _ _ (hP _ ⟨hl, _, [], ?_, .inr ⟨(h ++ t).length, .undef, by rw [show (s ++ y).length = s.length + y.length from List.length_append], ?_⟩, fun q o n e => by cases e; simp⟩ ?_)
  · rw [List.getElem?_append_right hl, List.getElem?_append_left (by simp [l1]; omega), List.getElem?_set_self (by omega)]
  · rw [List.length_append, List.getElem?_append_right (by omega), Nat.add_sub_cancel_left, List.getElem?_append_right (by simp [l1])]
    simp [l1, strB]
  · intro i c es ro hi
    have hil := (List.getElem?_eq_some_iff.1 hi).1
    rw [List.length_append] at hil
    have hib : i ≠ b := fun e => by rw [e, h1] at hi; cases hi
    have hk : (killB (h ++ t) x)[i]? = some (.arr c es ro) := by
      cases x <;> first
        | exact hi
        | skip
      rename_i q o n
      simp only [killB]
      rw [List.getElem?_set_ne]
      · exact hi
      · intro e
        rcases h2 with ⟨e', _⟩ | ⟨r, z, e', hr⟩
        · cases e'
        · cases e'
          rw [← e] at hi
          rw [hr] at hi
          cases hi
    rw [← List.append_assoc, List.getElem?_append_left (by simp [l1]; omega)]
    have e3 : h ++ t1.set (b - h.length) (.bld 192 (.slice (h ++ t).length 0 (s.length + y.length)) []) = (h ++ t1).set b (.bld 192 (.slice (h ++ t).length 0 (s.length + y.length)) []) := by
      rw [List.set_append_right _ _ hl]
    rw [e3, List.getElem?_set_ne (Ne.symm hib), ← e1]
    exact hk

theorem string_ok {b : Nat} {s : List UInt8} {h t : Heap} (hs : s ≠ []) (hb : BldS h t b s) {P : AV → Heap → Prop} (hP : ∀ t', P (.str s) t') : CallP KH 71 [.ptr b 0] h t P := by
  obtain ⟨hl, x, s0, h1, h2, h3⟩ := hb
  obtain ⟨t1, e1, l1⟩ := kill_split (t := t) h3
  intro Q hQ
  refine .prim (.inl (.inr (.inr ⟨rfl, b, x, s0, s, rfl, hs, h1, h2, ?_⟩)))
  rw [e1]
  exact hQ _ _ (hP _)

theorem take_flat {α β : Type} {l : List α} {i : Nat} {x : α} (f : α → List β) (h : l[i]? = some x) : (l.take (i + 1)).flatMap f = (l.take i).flatMap f ++ f x := by
  rw [List.take_add_one, h, List.flatMap_append]
  simp
theorem take_len {α : Type} (f : α → List UInt8) (l : List α) (i : Nat) : ((l.take i).flatMap f).length ≤ (l.flatMap f).length := by
  conv => rhs; rw [← List.take_append_drop i l, List.flatMap_append]
  rw [List.length_append]
  omega
theorem mem_len {α : Type} (f : α → List UInt8) {l : List α} {i : Nat} {x : α} (h : l[i]? = some x) : ((l.take i).flatMap f).length + (f x).length ≤ (l.flatMap f).length := by
  have := take_len f l (i + 1)
  rw [take_flat f h, List.length_append] at this
  exact this

theorem wrapI {k : Int} (h1 : -9223372036854775808 ≤ k) (h2 : k ≤ 9223372036854775807) : IntKind.wrap .i64 k = k := by
  have e3 : (2 : Int) ^ 64 = 18446744073709551616 := by decide
  have e4 : (2 : Int) ^ (64 - 1) = 9223372036854775808 := by decide
  simp only [IntKind.wrap, IntKind.signed, IntKind.bits, Bool.true_and, decide_eq_true_eq, e3, e4]
  split <;> omega

def wS (s : Int × Int) (e : Ev) : Int × Int :=
  let o := if e.ret then s.1 - 1 else s.1 + 1
  (o, if o > s.2 then o else s.2)
def widthV (hl : List Ev) : Int := (hl.foldl wS (0, 0)).2
theorem wS_take {hl : List Ev} {n : Nat} {e : Ev} (he : hl[n]? = some e) : (hl.take (n + 1)).foldl wS (0, 0) = wS ((hl.take n).foldl wS (0, 0)) e := by
  rw [List.take_add_one, he, List.foldl_append]
  rfl
theorem width_d {hl : List Ev} {s0 : Slc} {h : Heap} (hs : Sl h s0 7 encE hl) (hlen : hl.length ≤ 140737488355327) {P : AV → Heap → Prop} (g1 : spansV hl = none → ∀ t, P (.tuple [.int .i64 0, .int .i64 1]) t)
    (g2 : ∀ l, spansV hl = some l → ∀ t, P (.tuple [.int .i64 (widthV hl), .int .i64 0]) t) : CallE KH 21 [s0.av] h P := by
  refine d21 (by kernel_rfl) ?_
  unfold D21
  refine valid_d hs hlen fun t1 => ⟨_, rfl, fun q => g1 (by simpa using q) _, fun q => ?_⟩
  obtain ⟨l, hv⟩ := Option.isSome_iff_exists.1 (show (spansV hl).isSome = true by simpa using q)
  refine ⟨fun (m : Nat) (o : Int) (w : Int) (x : Int) (t : Heap) => ∃ n : Nat, x = (n : Int) ∧ m + n = hl.length ∧ (hl.take n).foldl wS (0, 0) = (o, w) ∧ -(n : Int) ≤ o ∧ o ≤ (n : Int), ⟨hl.length, 0, rfl, rfl, rfl, by omega, by omega⟩, ?_⟩
  rintro m o w _ t2 ⟨n, rfl, hm, hf, h0, h1⟩
  rw [hs.len]
  refine ⟨fun hc => ?_, fun hc => ?_⟩
  · simp only [decide_eq_true_eq] at hc
    obtain ⟨e, he⟩ := lt_len rfl (show n < hl.length by omega)
    refine ⟨⟨by omega, by omega⟩, e.th, e.ix, e.ret, e.call.op, e.call.x, e.call.y, e.res, hs.agg he, fun o' t => o' = (if e.ret then o - 1 else o + 1), ⟨fun hr => ?_, fun hr => ?_⟩, ?_⟩
    · rw [hr, wrapI (by omega) (by omega)]
      rfl
    · rw [hr, wrapI (by omega) (by omega)]
      rfl
    · rintro _ t3 rfl
      refine ⟨m - 1, by omega, n + 1, wrap_succ (by omega), by omega, ?_, ?_, ?_⟩
      · rw [wS_take he, hf]
        rfl
      · split <;> omega
      · split <;> omega
  · simp only [decide_eq_false_iff_not] at hc
    obtain rfl : n = hl.length := by omega
    rw [List.take_length] at hf
    have : widthV hl = w := by unfold widthV; rw [hf]
    rw [← this]
    exact g2 l hv _

def wordV (e : Ev) : List UInt8 := if e.ret then [98, 97, 99, 107] else [99, 97, 108, 108]
def numsV (e : Ev) : List Int := if e.ret then [e.call.x, e.call.y, e.res] else [e.call.x, e.call.y]
def numT (n : Int) : List UInt8 := [32] ++ dd n.toNat
def headE (e : Ev) : List UInt8 := (((dd e.th.toNat ++ [32]) ++ wordV e) ++ [32]) ++ e.call.op
def lineE (e : Ev) : List UInt8 := (headE e ++ (numsV e).flatMap numT) ++ [10]
def textV (hl : List Ev) : List UInt8 := hl.flatMap lineE
def okT (e : Ev) : Bool := okSmall e.th && okSmall e.call.x && okSmall e.call.y && okSmall e.res
theorem no70 : KH.fn 70 = none := by kernel_rfl
theorem quiet70 : QuietOps KH (isQ [70]) := by
  intro o ho t h Q1 hr
  unfold isQ at ho
  split at ho
  · rename_i k args
    have hk : k = 70 := by simpa using ho
    subst hk
    cases hr with
    | op he hQ => simp [evalOp] at he
    | callOp hf hc =>
      simp only [MO.eval, AV.fn.injEq] at hf
      obtain ⟨rfl, rfl⟩ := hf
      cases hc with
      | call hF _ => rw [no70] at hF; cases hF
      | prim hp =>
        rcases hp with (⟨v, h1, h2⟩ | hp) | hp
        · have e : primsH 70 (args.map (·.eval t) ++ []) = (match itoaP 70 70 (args.map (·.eval t) ++ []) with
            | some v => some v
            | none => trimP 80 70 (args.map (·.eval t) ++ [])) := rfl
          have hfl : ∃ u, v = .flat u := by
            have h1' : primsH 70 (args.map (·.eval t) ++ []) = some v := h1
            rw [e] at h1'
            cases hi : itoaP 70 70 (args.map (·.eval t) ++ []) with
            | none => rw [hi] at h1'; cases h1'
            | some u =>
              rw [hi] at h1'
              simp only [Option.some.injEq] at h1'
              subst h1'
              unfold itoaP at hi
              simp only [Nat.beq_refl, cond_true] at hi
              split at hi
              · rename_i n _
                cases hn : okSmall n with
                | false => rw [hn] at hi; cases hi
                | true => rw [hn] at hi; injection hi with hi; exact ⟨_, hi.symm⟩
              · cases hi
          obtain ⟨u, rfl⟩ := hfl
          exact ⟨u, by simpa [PVal.put] using h2, fun h' => .callOp rfl (.prim (.inl (.inl ⟨_, h1, by simp [PVal.put]⟩)))⟩
        · rcases hp with ⟨hf, _⟩ | ⟨hf, _⟩ <;> cases hf
        · cases hp.1
  · cases ho
theorem nums_len (e : Ev) : (numsV e).length ≤ 3 := by unfold numsV; split <;> simp
theorem nums_ok {e : Ev} (h : okT e = true) : ∀ (j : Nat) (n : Int), (numsV e)[j]? = some n → okSmall n = true := by
  simp only [okT, Bool.and_eq_true] at h
  intro j n hn
  have hm := List.mem_of_getElem? hn
  unfold numsV at hm
  split at hm
  · simp only [List.mem_cons, List.not_mem_nil, or_false] at hm
    rcases hm with rfl | rfl | rfl
    · exact h.1.1.2
    · exact h.1.2
    · exact h.2
  · simp only [List.mem_cons, List.not_mem_nil, or_false] at hm
    rcases hm with rfl | rfl
    · exact h.1.1.2
    · exact h.1.2

theorem text_d {hl : List Ev} {s0 : Slc} {h : Heap} (hs : Sl h s0 7 encE hl) (hok : ∀ e ∈ hl, okT e = true) (hne : textV hl ≠ []) (hlen : (textV hl).length ≤ 1000000) (hl1 : hl.length ≤ 1000000) {P : AV → Heap → Prop} (hP : ∀ t, P (.str (textV hl)) t) : CallE KH 54 [s0.av] h P := by
  refine d54 quiet70 (by kernel_rfl) ?_
  unfold D54
  refine ⟨fun (m : Nat) (x : Int) (t : Heap) => ∃ n : Nat, x = (n : Int) ∧ m + n = hl.length ∧ BldS h t h.length (textV (hl.take n)), ⟨hl.length, 0, rfl, rfl, ⟨Nat.le_refl _, .nilslice, [], by simp, .inl ⟨rfl, rfl⟩, fun q o n e => by cases e⟩⟩, ?_⟩
  rintro m _ t1 ⟨n, rfl, hm, hb⟩
  rw [hs.len]
  refine ⟨fun hc => ?_, fun hc => ?_⟩
  · simp only [decide_eq_true_eq] at hc
    obtain ⟨e, he⟩ := lt_len rfl (show n < hl.length by omega)
    have hoke := hok e (List.mem_of_getElem? he)
    have hth : okSmall e.th = true := by
      simp only [okT, Bool.and_eq_true] at hoke
      exact hoke.1.1.1
    have hml := mem_len lineE he
    have hml : (textV (hl.take n)).length + (lineE e).length ≤ 1000000 := Nat.le_trans hml hlen
    have hle : (lineE e).length = (headE e).length + ((numsV e).flatMap numT).length + 1 := by unfold lineE; simp only [List.length_append, List.length_cons, List.length_nil]
    have hhe : (headE e).length = (dd e.th.toNat).length + 1 + (wordV e).length + 1 + e.call.op.length := by unfold headE; simp only [List.length_append, List.length_cons, List.length_nil]
    refine ⟨⟨by omega, by omega⟩, e.th, e.ix, e.ret, e.call.op, e.call.x, e.call.y, e.res, hs.agg he, fun word l t => word = wordV e ∧ ∃ i : Nat, l = ⟨i, 0, (numsV e).length, false⟩ ∧ (h ++ (t1 ++ (AObj.arr (encE e) 7 false :: t)))[i]? = some (.arr ((numsV e).map encI) 1 false), ⟨fun hr => ⟨by omega, ?_, ?_⟩, fun hr => ⟨?_, ?_⟩⟩, ?_⟩
    · unfold wordV; rw [hr]; rfl
    · refine ⟨_, by unfold numsV; rw [hr]; rfl, ?_⟩
      unfold numsV
      rw [hr, List.getElem?_append_right (by omega), List.getElem?_append_right (by omega), show h.length + (t1.length + (1 + (1 + 1))) - h.length - t1.length = ((0 + 1) + 1) + 1 by omega]
      rfl
    · unfold wordV; rw [hr]; rfl
    · refine ⟨_, by unfold numsV; rw [hr]; rfl, ?_⟩
      unfold numsV
      rw [hr, List.getElem?_append_right (by omega), List.getElem?_append_right (by omega), show h.length + (t1.length + 1) - h.length - t1.length = 0 + 1 by omega]
      rfl
    · rintro _ _ t2 ⟨rfl, i, rfl, hrow⟩
      refine itoa_ok hth fun t3 => ⟨_, rfl, by simp only [List.length_cons, List.length_nil]; omega, by simp only [List.length_append, List.length_cons, List.length_nil]; omega, by simp only [List.length_append, List.length_cons, List.length_nil]; omega, by simp only [List.length_append, List.length_cons, List.length_nil]; omega, ?_⟩
      have hbm : BldS h (t1 ++ (AObj.arr (encE e) 7 false :: (t2 ++ t3))) h.length (textV (hl.take n)) := hb.more _
      refine write_ok (by simp) hbm (by
        show (textV (hl.take n)).length + (headE e).length ≤ 140737488355328
        omega) fun t4 b4 k4 => ⟨_, true, 0, .undef, rfl, ?_⟩
      have hrow4 : (h ++ t4)[i]? = some (.arr ((numsV e).map encI) 1 false) := k4 i _ _ _ (by
        have : (h ++ (t1 ++ (AObj.arr (encE e) 7 false :: (t2 ++ t3)))) = (h ++ (t1 ++ (AObj.arr (encE e) 7 false :: t2))) ++ t3 := by simp
        rw [this]
        exact at_more hrow)
      have hnl := nums_len e
      refine ⟨fun (m2 : Nat) (x : Int) (t : Heap) => ∃ j : Nat, x = (j : Int) ∧ m2 + j = (numsV e).length ∧ BldS h t h.length ((textV (hl.take n) ++ headE e) ++ ((numsV e).take j).flatMap numT) ∧ (h ++ t)[i]? = some (.arr ((numsV e).map encI) 1 false), ⟨(numsV e).length, 0, rfl, rfl, by simpa [headE] using b4, hrow4⟩, ?_⟩
      rintro m2 _ t5 ⟨j, rfl, hm2, b5, hrow5⟩
      refine ⟨fun hc2 => ?_, fun hc2 => ?_⟩
      · replace hc2 : decide ((j : Int) < (((numsV e).length : Nat) : Int)) = true := hc2
        simp only [decide_eq_true_eq] at hc2
        obtain ⟨v, hv⟩ := lt_len rfl (show j < (numsV e).length by omega)
        have hvo := nums_ok hoke j v hv
        have hmv := mem_len numT hv
        refine ⟨⟨by omega, by show (j : Int) < (((numsV e).length : Nat) : Int); omega⟩, v, rd_keep hrow5 (by rw [Nat.zero_add, Nat.mul_one, Int.toNat_natCast, List.getElem?_map, hv]; rfl), itoa_ok hvo fun t6 => ⟨_, rfl, ?_, ?_⟩⟩
        · have := dd_len v.toNat
          simp only [List.length_cons, List.length_nil]
          omega
        · have hnt : (numT v).length = ([32] ++ dd v.toNat : List UInt8).length := rfl
          refine write_ok (by simp) (b5.more _) (by rw [List.length_append, List.length_append, ← hnt]; omega) fun t7 b7 k7 => ⟨_, true, 0, .undef, rfl, m2 - 1, by omega, j + 1, wrap_succ (by omega), by omega, ?_, ?_⟩
          · rw [take_flat numT hv, ← List.append_assoc]
            exact b7
          · exact k7 i _ _ _ (by rw [← List.append_assoc]; exact at_more hrow5)
      · replace hc2 : decide ((j : Int) < (((numsV e).length : Nat) : Int)) = false := hc2
        simp only [decide_eq_false_iff_not] at hc2
        rw [show (numsV e).take j = numsV e from List.take_of_length_le (by omega)] at b5
        refine write_ok (by simp) b5 (by simp only [List.length_append, List.length_cons, List.length_nil]; omega) fun t8 b8 k8 => ⟨_, true, 0, .undef, rfl, m - 1, by omega, n + 1, wrap_succ (by omega), by omega, ?_⟩
        have : textV (hl.take (n + 1)) = ((textV (hl.take n) ++ headE e) ++ (numsV e).flatMap numT) ++ [10] := by
          unfold textV
          rw [take_flat lineE he]
          unfold lineE
          simp
        rw [this]
        exact b8
  · simp only [decide_eq_false_iff_not] at hc
    rw [List.take_of_length_le (by omega)] at hb
    exact string_ok hne hb fun t' => ⟨_, rfl, hP _⟩

def oneL : List Ev := [⟨0, 0, false, ⟨[112, 117, 115, 104], 7, 0⟩, 0⟩, ⟨0, 0, true, ⟨[112, 117, 115, 104], 7, 0⟩, 0⟩]
theorem exT : src12 0 = textV oneL := by kernel_rfl
theorem one_ok {h : Heap} {P : AV → Heap → Prop} (hP : ∀ (z : Slc) t, Sl (h ++ t) z 7 encE oneL → P z.av t) : CallE KH 41 [] h P := by
  refine d41 (by kernel_rfl) ?_
  unfold D41
  refine hP ⟨h.length + 1, 0, 2, false⟩ _ ⟨rfl, fun i x hx => ?_⟩
  have hi : i < 2 := (List.getElem?_eq_some_iff.1 hx).1
  simp only [rdCells]
  rw [List.getElem?_append_right (by omega), Nat.add_sub_cancel_left]
  rcases (by omega : i = 0 ∨ i = 1) with rfl | rfl <;> (cases hx; rfl)
theorem one_spans : ∃ l, spansV oneL = some l := Option.isSome_iff_exists.1 (by decide)
theorem sane_d {h : Heap} {P : AV → Heap → Prop} (hP : ∀ t, P (.bool true) t) : CallE KH 12 [] h P := by
  refine d12 (s := src12) (by kernel_rfl) ?_
  unfold D12
  obtain ⟨l, hl⟩ := one_spans
  refine one_ok fun z1 t1 s1 => ⟨z1, rfl, width_d s1 (by decide) (fun e => by rw [hl] at e; cases e) fun _ _ t2 => ⟨_, _, rfl, one_ok fun z2 t3 s2 => ⟨z2, rfl, ?_⟩⟩⟩
  refine d37 (by kernel_rfl) ?_
  unfold D37
  refine valid_d (by simpa [List.append_assoc] using s2) (by decide) fun t4 => ⟨_, rfl, (fun e => by rw [hl] at e; cases e), fun _ => ?_⟩
  refine text_d (hl := oneL) (by have : Sl (((h ++ (t1 ++ t2)) ++ t3) ++ t4) z2 7 encE oneL := s2.ext; simpa [List.append_assoc] using this) (by decide) (by decide) (by decide) (by decide) fun t5 => ⟨_, rfl, _, _, rfl, one_ok fun z3 t6 s3 => ⟨z3, rfl, valid_d (by simpa [List.append_assoc] using s3) (by decide) fun t7 => ⟨_, rfl, fun _ => ⟨fun _ => ⟨fun _ => ⟨fun _ => ?_, fun e => by cases e⟩, fun e => by cases e⟩, fun e => ?_⟩, fun e => ?_⟩⟩⟩
  · rw [exT, beq_self_eq_true]
    exact hP _
  · have : widthV oneL = 1 := by decide
    rw [this] at e
    cases e
  · rw [hl] at e
    cases e
end Go.Proofs.YtcjhjphmlfkikaaDoor.Mini

