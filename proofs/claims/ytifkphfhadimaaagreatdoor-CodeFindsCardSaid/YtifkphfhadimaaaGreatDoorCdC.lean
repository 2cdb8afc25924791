import Derived.Test.YtifkphfhadimaaaGreatDoorCdB
set_option linter.unusedVariables false
set_option linter.unusedSimpArgs false
set_option maxRecDepth 100000
namespace Go.Proofs.YtifkphfhadimaaaGreatDoor.Mini
open Go.Abs

structure BldS (h t : Heap) (b : Nat) (s : List UInt8) : Prop where
  le : h.length ≤ b
  obj : ∃ (x : AV) (s0 : List UInt8), (h ++ t)[b]? = some (.bld 294 x s0) ∧ BufIs (h ++ t) 5 x s ∧ ∀ q o n, x = .slice q o n → h.length ≤ q
theorem BldS.more {h t : Heap} {b : Nat} {s : List UInt8} (k : BldS h t b s) (u : Heap) : BldS h (t ++ u) b s := by
  obtain ⟨hl, x, s0, h1, h2, h3⟩ := k
  have app : ∀ {i : Nat} {o : AObj}, (h ++ t)[i]? = some o → (h ++ (t ++ u))[i]? = some o := fun {i o} hi => by
    rw [← List.append_assoc, List.getElem?_append_left (List.getElem?_eq_some_iff.1 hi).1]
    exact hi
  refine ⟨hl, x, s0, app h1, ?_, h3⟩
  rcases h2 with h2 | ⟨r, y, e, hr⟩
  · exact .inl h2
  · exact .inr ⟨r, y, e, app hr⟩
def KeepArr (h t t' : Heap) : Prop := ∀ (i : Nat) (c : List AV) (es : Nat) (ro : Bool), (h ++ t)[i]? = some (.arr c es ro) → (h ++ t')[i]? = some (.arr c es ro)

theorem kill_split {h t : Heap} {x : AV} (hx : ∀ q o n, x = .slice q o n → h.length ≤ q) : ∃ t1, killB (h ++ t) x = h ++ t1 ∧ t1.length = t.length := by
  cases x <;> first
    | exact ⟨t, rfl, rfl⟩
    | skip
  rename_i q o n
  refine ⟨t.set (q - h.length) .dead, ?_, by simp⟩
  simp only [killB]
  rw [List.set_append_right _ _ (hx q o n rfl)]

theorem write_ok {b : Nat} {y s : List UInt8} {h t : Heap} (hy : y ≠ []) (hb : BldS h t b s) (hlen : s.length + y.length ≤ 140737488355328) {P : AV → Heap → Prop}
    (hP : ∀ t', BldS h t' b (s ++ y) → KeepArr h t t' → P (.tuple [.int .i64 (y.length : Int), .niliface]) t') : CallP KC 104 [.ptr b 0, .str y] h t P := by
  obtain ⟨hl, x, s0, h1, h2, h3⟩ := hb
  obtain ⟨t1, e1, l1⟩ := kill_split (t := t) h3
  have hbl : b < (h ++ t).length := (List.getElem?_eq_some_iff.1 h1).1
  have hbl' : b < h.length + t.length := by simpa using hbl
  intro Q hQ
  refine .prim (.inr (.inl ⟨rfl, b, y, x, s0, s, rfl, hy, h1, h2, hlen, ?_⟩))
  have e2 : (killB (h ++ t) x).set b (.bld (2 * bldN.T) (.slice (h ++ t).length 0 (s.length + y.length)) []) ++ [strB bldN.U (s ++ y)] = h ++ (t1.set (b - h.length) (.bld 294 (.slice (h ++ t).length 0 (s.length + y.length)) []) ++ [strB 5 (s ++ y)]) := by
    rw [e1, List.set_append_right _ _ hl, List.append_assoc]
    rfl
  rw [e2]
  refine hQ _ _ (hP _ ⟨hl, _, [], ?_, .inr ⟨(h ++ t).length, .undef, by rw [show (s ++ y).length = s.length + y.length from List.length_append], ?_⟩, fun q o n e => by cases e; simp⟩ ?_)
  · rw [List.getElem?_append_right hl, List.getElem?_append_left (by simp [l1]; omega), List.getElem?_set_self (by omega)]
  · rw [List.length_append, List.getElem?_append_right (by omega), Nat.add_sub_cancel_left, List.getElem?_append_right (by simp [l1])]
    simp [l1, strB]
  · intro i c es ro hi
    have hil := (List.getElem?_eq_some_iff.1 hi).1
    rw [List.length_append] at hil
    have hib : i ≠ b := fun e => by rw [e, h1] at hi; cases hi
    have hk : (killB (h ++ t) x)[i]? = some (.arr c es ro) := by
      cases x <;> first
        | exact hi
        | skip
      rename_i q o n
      simp only [killB]
      rw [List.getElem?_set_ne]
      · exact hi
      · intro e
        rcases h2 with ⟨e', _⟩ | ⟨r, z, e', hr⟩
        · cases e'
        · cases e'
          rw [← e] at hi
          rw [hr] at hi
          cases hi
    rw [← List.append_assoc, List.getElem?_append_left (by simp [l1]; omega)]
    have e3 : h ++ t1.set (b - h.length) (.bld 294 (.slice (h ++ t).length 0 (s.length + y.length)) []) = (h ++ t1).set b (.bld 294 (.slice (h ++ t).length 0 (s.length + y.length)) []) := by
      rw [List.set_append_right _ _ hl]
    rw [e3, List.getElem?_set_ne (Ne.symm hib), ← e1]
    exact hk

theorem string_ok {b : Nat} {s : List UInt8} {h t : Heap} (hs : s ≠ []) (hb : BldS h t b s) {P : AV → Heap → Prop} (hP : ∀ t', P (.str s) t') : CallP KC 107 [.ptr b 0] h t P := by
  obtain ⟨hl, x, s0, h1, h2, h3⟩ := hb
  obtain ⟨t1, e1, l1⟩ := kill_split (t := t) h3
  intro Q hQ
  refine .prim (.inr (.inr ⟨rfl, b, x, s0, s, rfl, hs, h1, h2, ?_⟩))
  rw [e1]
  exact hQ _ _ (hP _)

def insW (l : List Int) : List AV := [.int .i64 (l.getD 0 0), .bool (l.getD 1 0 == 1), .int .i64 (l.getD 2 0), .int .i64 (l.getD 3 0), .int .i64 (l.getD 4 0), .int .i64 (l.getD 5 0), .int .i64 (l.getD 6 0), .int .i64 (l.getD 7 0), .int .i64 (l.getD 8 0), .int .i64 (l.getD 9 0), .int .i64 (l.getD 10 0)]
def encR (q : List UInt8 × Slc) : List AV := [.str q.1, q.2.av]
structure ProgOn (H : Heap) (s : Slc) (p : List Rout) : Prop where
  rows : ∃ qs : List (List UInt8 × Slc), Sl H s 2 encR qs ∧ qs.length = p.length ∧ ∀ (i : Nat) (q : List UInt8 × Slc) (r : Rout), qs[i]? = some q → p[i]? = some r → q.1 = r.1 ∧ Sl H q.2 11 insW r.2
theorem ProgOn.ext {h H : Heap} {s : Slc} {p : List Rout} (k : ProgOn h s p) [e : ExtC h H] : ProgOn H s p := by
  obtain ⟨qs, h1, h2, h3⟩ := k.rows
  exact ⟨qs, h1.ext, h2, fun i q r hq hr => ⟨(h3 i q r hq hr).1, (h3 i q r hq hr).2.ext⟩⟩

def lineL (l : List Int) : List UInt8 := match l with
  | [op, st, r, sr, sn, vr, vn, wr, wn, n, to] => lineV op (st == 1) r sr sn vr vn wr wn n to
  | _ => []
def okL (l : List Int) : Bool := match l with
  | [op, st, r, sr, sn, vr, vn, wr, wn, n, to] => okIns op r sr sn vr vn wr wn n to
  | _ => false
theorem okL_spec {l : List Int} (h : okL l = true) : ∃ op st r sr sn vr vn wr wn n to, l = [op, st, r, sr, sn, vr, vn, wr, wn, n, to] ∧ okIns op r sr sn vr vn wr wn n to = true := by
  unfold okL at h
  split at h
  · exact ⟨_, _, _, _, _, _, _, _, _, _, _, rfl, h⟩
  · cases h
theorem lineV_len {op r sr sn vr vn wr wn n to : Int} {star : Bool} (hok : okIns op r sr sn vr vn wr wn n to = true) : (lineV op star r sr sn vr vn wr wn n to).length ≤ 40 := by
  simp only [okIns, Bool.and_eq_true, decide_eq_true_eq] at hok
  obtain ⟨⟨h0, h1⟩, _⟩ := hok
  obtain ⟨f1, f2, f3⟩ := shps_facts h0 h1
  have a1 := headV_len h0 h1 star
  have a2 := flat_len (partV_len r sr sn vr vn wr wn n to) (opP op)
  unfold lineV
  rw [List.length_append]
  omega
def codeT (c : List (List Int)) : List UInt8 := c.flatMap fun l => lineL l ++ [10]
def routT (r : Rout) : List UInt8 := ((([111, 112, 32] : List UInt8) ++ r.1) ++ [10]) ++ codeT r.2
def headT (name : List UInt8) (cells : Int) : List UInt8 := (((([115, 116, 114, 117, 99, 116, 32] : List UInt8) ++ name) ++ [10, 99, 101, 108, 108, 115, 32]) ++ dd cells.toNat) ++ [10]
def textV (name : List UInt8) (cells : Int) (p : List Rout) : List UInt8 := headT name cells ++ p.flatMap routT
structure OkT (name : List UInt8) (cells : Int) (p : List Rout) : Prop where
  small : okSmall cells = true
  ins : ∀ r ∈ p, ∀ l ∈ r.2, okL l = true
  len : (textV name cells p).length ≤ 1000000000
theorem take_len {α : Type} (f : α → List UInt8) (l : List α) (i : Nat) : ((l.take i).flatMap f).length ≤ (l.flatMap f).length := by
  conv => rhs; rw [← List.take_append_drop i l, List.flatMap_append]
  rw [List.length_append]
  omega
theorem mem_len {α : Type} (f : α → List UInt8) {l : List α} {i : Nat} {x : α} (h : l[i]? = some x) : ((l.take i).flatMap f).length + (f x).length ≤ (l.flatMap f).length := by
  have := take_len f l (i + 1)
  rw [take_flat f h, List.length_append] at this
  exact this

theorem count_le {α : Type} {f : α → List UInt8} (hf : ∀ x, 1 ≤ (f x).length) : ∀ l : List α, l.length ≤ (l.flatMap f).length
  | [] => by simp
  | x :: l => by
    rw [List.flatMap_cons, List.length_append, List.length_cons]
    have := hf x
    have := count_le hf l
    omega
theorem rd_keep {H : Heap} {i o : Nat} {c : List AV} {es : Nat} {ro : Bool} {v : AV} (h : H[i]? = some (.arr c es ro)) (hv : c[o]? = some v) : rdVar H none i o = some v := by
  obtain ⟨hlt, e⟩ := List.getElem?_eq_some_iff.1 hv
  simp only [rdVar, rdCells, h]
  rw [if_pos (by omega), List.drop_eq_getElem_cons hlt, e]
  rfl
theorem len3 (a b c : List UInt8) : ((a ++ b) ++ c).length = a.length + b.length + c.length := by simp only [List.length_append]

theorem text_ok {name : List UInt8} {cells : Int} {s : Slc} {p : List Rout} {h : Heap} (hp : ProgOn h s p) (hok : OkT name cells p) (hcheck : ∀ P : AV → Heap → Prop, (∀ t, P (.int .i64 0) t) → CallE KC 38 [.agg [.str name, .int .i64 cells, s.av]] (h ++ [AObj.arr [.str name, .int .i64 cells, s.av] 3 false]) P) {P : AV → Heap → Prop} (hP : ∀ t, P (.tuple [.str (textV name cells p), .int .i64 0]) t) : CallE KC 49 [.agg [.str name, .int .i64 cells, s.av]] h P := by
  refine d49 quiet105 (by kernel_rfl) ?_
  unfold D49
  refine hcheck _ fun t1 => ⟨0, rfl, fun hb => by simp at hb, fun _ => ?_⟩
  obtain ⟨qs, hs, hql, hrow⟩ := hp.rows
  have htl := hok.len
  have hh : (headT name cells).length ≤ 1000000000 := by
    unfold textV at htl
    rw [List.length_append] at htl
    omega
  have hn : name.length ≤ 1000000000 := by
    unfold headT at hh
    simp only [List.length_append] at hh
    omega
  have hd := dd_len cells.toNat
  refine ⟨by simp only [List.length_cons, List.length_nil]; omega, by simp only [List.length_append, List.length_cons, List.length_nil]; omega, itoa_ok hok.small fun t2 => ⟨_, rfl, by simp only [List.length_append, List.length_cons, List.length_nil]; omega, by simp only [List.length_append, List.length_cons, List.length_nil]; omega, ?_⟩⟩
  have b0 : BldS h (AObj.arr [.str name, .int .i64 cells, s.av] 3 false :: (t1 ++ (AObj.bld 294 .nilslice [] :: t2))) (h.length + (1 + t1.length)) [] := by
    refine ⟨by omega, .nilslice, [], ?_, .inl ⟨rfl, rfl⟩, fun q o n e => by cases e⟩
    rw [List.getElem?_append_right (by omega), Nat.add_sub_cancel_left, Nat.add_comm 1]
    simp
  refine write_ok (by simp) b0 (by simp only [List.length_append, List.length_cons, List.length_nil]; omega) fun t3 b3 k3 => ⟨_, true, 0, .undef, rfl, s, ?_, ?_⟩
  · exact rd_keep (k3 h.length [.str name, .int .i64 cells, s.av] 3 false (by simp)) rfl
  rw [List.nil_append] at b3
  have hpl : p.length ≤ 1000000000 := by
    have := count_le (f := routT) (fun r => by unfold routT; simp only [List.length_append, List.length_cons, List.length_nil]; omega) p
    unfold textV at htl
    rw [List.length_append] at htl
    omega
  have hlen1 : ∀ i r, p[i]? = some r → (headT name cells ++ (p.take i).flatMap routT).length + (routT r).length ≤ 1000000000 := by
    intro i r hr
    have := mem_len routT hr
    unfold textV at htl
    rw [List.length_append] at htl ⊢
    omega
  refine ⟨fun m x t => ∃ i : Nat, x = i ∧ m + i = p.length ∧ BldS h t (h.length + (1 + t1.length)) (headT name cells ++ (p.take i).flatMap routT), ⟨p.length, 0, rfl, rfl, by simpa [headT] using b3⟩, ?_⟩
  rintro m _ t4 ⟨i, rfl, hi, b4⟩
  rw [hs.len, hql]
  refine ⟨fun hc => ?_, fun hc => ?_⟩
  · simp only [decide_eq_true_eq] at hc
    have hi' : i < p.length := by omega
    obtain ⟨r, hr⟩ := lt_len rfl hi'
    obtain ⟨q, hq⟩ := lt_len hql.symm hi'
    obtain ⟨hq1, hq2⟩ := hrow i q r hq hr
    have hl1 := hlen1 i r hr
    have hrt : (routT r).length = ((([111, 112, 32] : List UInt8) ++ r.1) ++ [10]).length + (codeT r.2).length := by unfold routT; rw [List.length_append]
    have hcn : r.2.length ≤ (codeT r.2).length := count_le (fun l => by simp only [List.length_append, List.length_cons, List.length_nil]; omega) r.2
    have hx : ((([111, 112, 32] : List UInt8) ++ r.1) ++ [10]).length = 4 + r.1.length := by rw [len3]; simp only [List.length_cons, List.length_nil]; omega
    have hrl : r.1.length ≤ 1000000000 := by omega
    refine ⟨by omega, r.1, q.2, ?_, by simp only [List.length_cons, List.length_nil]; omega, by simp only [List.length_append, List.length_cons, List.length_nil]; omega, ?_⟩
    · have := (hs.ext : Sl (h ++ t4) s 2 encR qs).agg hq
      simpa [encR, hq1] using this
    have hwl : (headT name cells ++ (p.take i).flatMap routT).length + ((([111, 112, 32] : List UInt8) ++ r.1) ++ [10]).length ≤ 1000000000 := by omega
    refine write_ok (by simp) (b4.more _) (by omega) fun t5 b5 k5 => ⟨_, true, 0, .undef, rfl, q.2, ?_, ?_⟩
    · exact rd_keep (k5 (h.length + t4.length) [.str r.1, q.2.av] 2 false (by simp)) rfl
    refine ⟨fun m2 x t => ∃ j : Nat, x = j ∧ m2 + j = r.2.length ∧ BldS h t (h.length + (1 + t1.length)) ((headT name cells ++ (p.take i).flatMap routT ++ ((([111, 112, 32] : List UInt8) ++ r.1) ++ [10])) ++ codeT (r.2.take j)), ⟨r.2.length, 0, rfl, rfl, by simpa [codeT] using b5⟩, ?_⟩
    rintro m2 _ t6 ⟨j, rfl, hj, b6⟩
    rw [hq2.len]
    refine ⟨fun hc2 => ?_, fun hc2 => ?_⟩
    · simp only [decide_eq_true_eq] at hc2
      have hj' : j < r.2.length := by omega
      obtain ⟨l, hl⟩ := lt_len rfl hj'
      have hins := hok.ins r (List.mem_of_getElem? hr) l (List.mem_of_getElem? hl)
      obtain ⟨op, st, rr, sr, sn, vr, vn, wr, wn, n, to, rfl, hi1⟩ := okL_spec hins
      have hll := lineV_len (star := (st == 1)) hi1
      refine ⟨by omega, op, (st == 1), rr, sr, sn, vr, vn, wr, wn, n, to, ?_, ?_⟩
      · have := (hq2.ext : Sl (h ++ t6) q.2 11 insW r.2).agg hl
        simpa [insW] using this
      refine line_ok hi1 fun t7 => ⟨_, rfl, by simp only [List.length_cons, List.length_nil]; omega, ?_⟩
      have hcl : (codeT (r.2.take j)).length + (lineV op (st == 1) rr sr sn vr vn wr wn n to ++ [10]).length ≤ (codeT r.2).length := mem_len (fun l => lineL l ++ [10]) hl
      refine write_ok (by simp) (b6.more _) (by rw [len3]; omega) fun t8 b8 k8 => ⟨_, true, 0, .undef, rfl, m2 - 1, by omega, j + 1, wrap_succ (by omega), by omega, ?_⟩
      have e : codeT (r.2.take (j + 1)) = codeT (r.2.take j) ++ (lineV op (st == 1) rr sr sn vr vn wr wn n to ++ [10]) := take_flat (fun l => lineL l ++ [10]) hl
      rw [e, ← List.append_assoc]
      exact b8
    · simp only [decide_eq_false_iff_not] at hc2
      have hjl : j = r.2.length := by omega
      subst hjl
      rw [List.take_length] at b6
      refine ⟨m - 1, by omega, i + 1, wrap_succ (by omega), by omega, ?_⟩
      rw [take_flat routT hr]
      have e : headT name cells ++ ((p.take i).flatMap routT ++ routT r) = (headT name cells ++ (p.take i).flatMap routT ++ ((([111, 112, 32] : List UInt8) ++ r.1) ++ [10])) ++ codeT r.2 := by
        unfold routT
        simp only [List.append_assoc]
      rw [e]
      exact b6
  · simp only [decide_eq_false_iff_not] at hc
    have hil : i = p.length := by omega
    subst hil
    rw [List.take_length] at b4
    refine string_ok ?_ b4 fun t5 => ⟨_, rfl, hP _⟩
    unfold headT
    simp
end Go.Proofs.YtifkphfhadimaaaGreatDoor.Mini

