import Derived.Test.YtifkphfhadimaaaGreatDoorCeE
import Derived.Test.YtifkphfhadimaaaGreatDoorDecR
set_option linter.unusedVariables false
set_option linter.unusedSimpArgs false
set_option maxRecDepth 100000
namespace Go.Proofs.YtifkphfhadimaaaGreatDoor.Mini
open Go.Abs

noncomputable def newZ : List (Nat × MFunc) := [(67, F67)]
noncomputable def tblZ : List (Nat × MFunc) := tblY ++ newZ
theorem tblZ_ok : ∀ p ∈ tblZ, (modelOf Tryz.prog noPrim).fn p.1 = some p.2 := by
  intro p hp
  rcases List.mem_append.1 hp with hp | hp
  · exact tblY_ok p hp
  · have : ∀ p ∈ newZ, (modelOf Tryz.prog noPrim).fn p.1 = some p.2 := by
      simp only [newZ, List.mem_cons, List.not_mem_nil, or_false, forall_eq_or_imp, forall_eq]
      exact fn67
    exact this p hp
noncomputable def KZ : Model := ⟨fnOf tblZ, primV primsX⟩
noncomputable def KE : Model := withB KZ bldN
theorem fitsE {base : Nat} {w0 : World} {out : Prop} : Fits Tryz.prog base w0 out KE := fits_bld (fits_ways mixed tblZ tblZ_ok _ waysX) bldOK
theorem le_de : Model.le KD KE := ⟨fun _ _ h => fnOf_app h, fun _ _ _ _ h => h⟩

theorem check_zero {p : ProgT} (h : checkV p = 0) : (p.2.2.any fun r => wrongV r.2) = false := by
  unfold checkV at h
  repeat' split at h
  all_goals first | (exact absurd h (by decide)) | skip
  rename_i h9
  simpa using h9
structure GoodC (c : List (List Int)) : Prop where
  pos : 0 < c.length
  jump : ∀ (i : Nat) l, c[i]? = some l → 7 ≤ l.getD 0 0 → l.getD 0 0 ≤ 11 → 0 ≤ l.getD 10 0 ∧ l.getD 10 0 < (c.length : Int)
  last : ∀ l, c[c.length - 1]? = some l → l.getD 0 0 = 10 ∨ l.getD 0 0 = 12 ∨ l.getD 0 0 = 25
theorem hasL {op : Int} (h1 : 7 ≤ op) (h2 : op ≤ 11) : hasV op 76 = true := by
  rcases (by omega : op = 7 ∨ op = 8 ∨ op = 9 ∨ op = 10 ∨ op = 11) with rfl | rfl | rfl | rfl | rfl <;> decide
theorem goodC_of {c : List (List Int)} (h : wrongV c = false) : GoodC c := by
  unfold wrongV at h
  simp only [Bool.or_eq_false_iff] at h
  obtain ⟨h1, h2, h3⟩ := h
  have hpos : c.length ≠ 0 := by simp at h1; simpa using h1
  refine ⟨by omega, fun i l hl a b => ?_, fun l hl => ?_⟩
  · have := List.any_eq_false.1 h2 l (List.mem_of_getElem? hl)
    have hv : validL l c.length = true := by simpa using this
    unfold validL validV at hv
    simp only [Bool.and_eq_true] at hv
    have ht := hv.2.2.2.2
    unfold toB at ht
    rw [if_pos (hasL a b)] at ht
    simpa using ht
  · rw [last_at h1] at hl
    cases hl
    unfold endB lastOp at h3
    by_cases a : (c.getD (c.length - 1) []).getD 0 0 = 10
    · exact .inl a
    by_cases b : (c.getD (c.length - 1) []).getD 0 0 = 12
    · exact .inr (.inl b)
    · refine .inr (.inr ?_)
      simp only [Bool.and_eq_false_iff, bne_eq_false_iff_eq] at h3
      rcases h3 with h3 | h3 | h3
      · exact absurd h3 a
      · exact absurd h3 b
      · exact h3
structure Closed (c : List (List Int)) (B : List Bool) (T : List Nat) : Prop where
  len : B.length = c.length
  start : B[0]? = some true ∨ 0 ∈ T
  jump : ∀ (i : Nat) l, B[i]? = some true → c[i]? = some l → 7 ≤ l.getD 0 0 → l.getD 0 0 ≤ 11 → B[(l.getD 10 0).toNat]? = some true ∨ (l.getD 10 0).toNat ∈ T
  next : ∀ (i : Nat) l, B[i]? = some true → c[i]? = some l → l.getD 0 0 ≠ 10 → l.getD 0 0 ≠ 12 → l.getD 0 0 ≠ 25 → B[i + 1]? = some true ∨ i + 1 ∈ T
section
variable {c : List (List Int)} {B : List Bool} {T U : List Nat} {a : Nat}
theorem Closed.drop (k : Closed c B (T ++ [a])) (h0 : 0 = a → B[0]? = some true) (h1 : ∀ (i : Nat) l, c[i]? = some l → 7 ≤ l.getD 0 0 → l.getD 0 0 ≤ 11 → (l.getD 10 0).toNat = a → B[(l.getD 10 0).toNat]? = some true)
    (h2 : ∀ (i : Nat) l, c[i]? = some l → l.getD 0 0 ≠ 10 → l.getD 0 0 ≠ 12 → l.getD 0 0 ≠ 25 → i + 1 = a → B[i + 1]? = some true) : Closed c B T := by
  refine ⟨k.len, ?_, fun i l hb hl e1 e2 => ?_, fun i l hb hl e1 e2 e3 => ?_⟩
  · rcases k.start with h | h
    · exact .inl h
    · rcases List.mem_append.1 h with h | h
      · exact .inr h
      · exact .inl (h0 (by simpa using h))
  · rcases k.jump i l hb hl e1 e2 with h | h
    · exact .inl h
    · rcases List.mem_append.1 h with h | h
      · exact .inr h
      · exact .inl (h1 i l hl e1 e2 (by simpa using h))
  · rcases k.next i l hb hl e1 e2 e3 with h | h
    · exact .inl h
    · rcases List.mem_append.1 h with h | h
      · exact .inr h
      · exact .inl (h2 i l hl e1 e2 e3 (by simpa using h))
theorem Closed.beyond (k : Closed c B (T ++ [a])) (g : GoodC c) (ha : c.length ≤ a) : Closed c B T := by
  refine k.drop (fun h => ?_) (fun i l hl e1 e2 h => ?_) fun i l hl e1 e2 e3 h => ?_
  · have := g.pos
    omega
  · have := g.jump i l hl e1 e2
    omega
  · have hi := (List.getElem?_eq_some_iff.1 hl).1
    have : i = c.length - 1 := by omega
    rw [this] at hl
    have := g.last l hl
    omega
theorem Closed.known (k : Closed c B (T ++ [a])) (ha : B[a]? = some true) : Closed c B T :=
  k.drop (fun h => h ▸ ha) (fun i l hl e1 e2 h => by rw [h]; exact ha) fun i l hl e1 e2 e3 h => by rw [h]; exact ha
theorem set_true {i : Nat} (h : B[i]? = some true) : (B.set a true)[i]? = some true := by
  rw [List.getElem?_set]
  split
  · rename_i e
    subst e
    rw [if_pos (List.getElem?_eq_some_iff.1 h).1]
  · exact h
theorem Closed.mark (k : Closed c B (T ++ [a])) {l : List Int} (hl : c[a]? = some l) (hj : 7 ≤ l.getD 0 0 → l.getD 0 0 ≤ 11 → (l.getD 10 0).toNat ∈ U) (hn : l.getD 0 0 ≠ 10 → l.getD 0 0 ≠ 12 → l.getD 0 0 ≠ 25 → a + 1 ∈ U) : Closed c (B.set a true) (T ++ U) := by
  have ha : a < B.length := by
    have := (List.getElem?_eq_some_iff.1 hl).1
    rw [k.len]
    exact this
  have haa : (B.set a true)[a]? = some true := by rw [List.getElem?_set_self ha]
  have conv : ∀ {x : Nat}, B[x]? = some true ∨ x ∈ T ++ [a] → (B.set a true)[x]? = some true ∨ x ∈ T ++ U := by
    rintro x (h | h)
    · exact .inl (set_true h)
    · rcases List.mem_append.1 h with h | h
      · exact .inr (List.mem_append.2 (.inl h))
      · have : x = a := by simpa using h
        subst this
        exact .inl haa
  have back : ∀ {i : Nat}, (B.set a true)[i]? = some true → i = a ∨ B[i]? = some true := by
    intro i h
    by_cases e : a = i
    · exact .inl e.symm
    · rw [List.getElem?_set_ne e] at h
      exact .inr h
  refine ⟨by rw [List.length_set]; exact k.len, conv k.start, fun i l' hb hl' e1 e2 => ?_, fun i l' hb hl' e1 e2 e3 => ?_⟩
  · rcases back hb with rfl | hb'
    · rw [hl] at hl'
      cases hl'
      exact .inr (List.mem_append.2 (.inr (hj e1 e2)))
    · exact conv (k.jump i l' hb' hl' e1 e2)
  · rcases back hb with rfl | hb'
    · rw [hl] at hl'
      cases hl'
      exact .inr (List.mem_append.2 (.inr (hn e1 e2 e3)))
    · exact conv (k.next i l' hb' hl' e1 e2 e3)
end

def encN (n : Nat) : AV := .int .i64 ((n : Nat) : Int)
def TD (base : Nat) (t : Heap) (s : Slc) (T : List Nat) : Prop := s.nil = false ∧ s.o = 0 ∧ s.n = T.length ∧ ∃ k c, s.b = base + k ∧ t[k]? = some (.arr c 1 false) ∧ T.length ≤ c.length ∧ c.take T.length = T.map encN
theorem TD.len {base : Nat} {t : Heap} {s : Slc} {T : List Nat} (k : TD base t s T) : s.len = T.length := by
  unfold Slc.len
  rw [k.1]
  exact k.2.2.1
theorem TD.pop {base : Nat} {t : Heap} {s : Slc} {T : List Nat} {a : Nat} (k : TD base t s (T ++ [a])) {o n : Nat} (ho : o = 0) (hn : n = T.length) : TD base t ⟨s.b, o, n, s.nil⟩ T := by
  obtain ⟨h1, h2, h3, i, c, h4, h5, h6, h7⟩ := k
  refine ⟨h1, ho, hn, i, c, h4, h5, by simp at h6; omega, ?_⟩
  have := congrArg (List.take T.length) h7
  rw [List.take_take, List.map_append, List.take_append_of_le_length (by simp), Nat.min_eq_left (by simp)] at this
  rw [this, List.take_of_length_le (by simp)]
theorem TD.take {base : Nat} {t : Heap} {s : Slc} {T : List Nat} (k : TD base t s T) : ∃ g, ((s.nil = true ∧ T.map encN = [] ∧ g = t) ∨ (s.nil = false ∧ ∃ k0 c0, s.b = base + k0 ∧ t[k0]? = some (.arr c0 1 false) ∧ s.o + s.n * 1 ≤ c0.length ∧ T.map encN = (c0.drop s.o).take (s.n * 1) ∧ g = t.set k0 .dead)) := by
  obtain ⟨h1, h2, h3, i, c, h4, h5, h6, h7⟩ := k
  exact ⟨_, .inr ⟨h1, i, c, h4, h5, by omega, by rw [h2, h3, List.drop_zero, Nat.mul_one, h7], rfl⟩⟩
theorem TD.mk' {base b n : Nat} {t : Heap} {T : List Nat} {x : Nat} (k : Nat) (hb : b = base + k) (hn : n = T.length + 1) (ht : t[k]? = some (.arr (T.map encN ++ [encN x]) 1 false)) : TD base t ⟨b, 0, n, false⟩ (T ++ [x]) :=
  ⟨rfl, rfl, by simp [hn], k, _, hb, ht, by simp, by rw [List.take_of_length_le (by simp), List.map_append]; rfl⟩
theorem TD.more {base : Nat} {t u : Heap} {s : Slc} {T : List Nat} (k : TD base t s T) : TD base (t ++ u) s T := by
  obtain ⟨h1, h2, h3, i, c, h4, h5, h6, h7⟩ := k
  exact ⟨h1, h2, h3, i, c, h4, at_app h5, h6, h7⟩
theorem TD.last {base : Nat} {t H : Heap} {s : Slc} {T : List Nat} {a : Nat} (k : TD base t s (T ++ [a])) (hH : ∀ (k : Nat) o, t[k]? = some o → H[base + k]? = some o) : rdVar H none s.b (s.o + T.length * 1) = some (.int .i64 ((a : Nat) : Int)) ∧ ∃ (c2 : List AV) (r : Bool), H[s.b]? = some (.arr c2 1 r) := by
  obtain ⟨h1, h2, h3, i, c, h4, h5, h6, h7⟩ := k
  have hb := hH i _ h5
  rw [← h4] at hb
  refine ⟨rd_keep hb ?_, c, false, hb⟩
  have hlt : T.length < c.length := by simp at h6; omega
  have : (c.take (T ++ [a]).length)[T.length]? = some (encN a) := by
    rw [h7, List.map_append, List.getElem?_append_right (by simp)]
    simp
  rw [List.getElem?_take_of_lt (by simp)] at this
  rw [h2, Nat.zero_add, Nat.mul_one]
  exact this

theorem jumps_ok {op : Int} {h : Heap} {P : AV → Heap → Prop} (hP : ∀ t, P (.bool (decide (op ≥ 7) && decide (op ≤ 11))) t) : CallE KE 121 [.int .i64 op] h P := by
  refine d121 (by kernel_rfl) ?_
  unfold D121
  refine ⟨fun a => ?_, fun a => ?_⟩
  · rw [a, Bool.true_and] at hP
    exact hP _
  · rw [a, Bool.false_and] at hP
    exact hP _
def encB (b : Bool) : List AV := [.bool b]
theorem setCells_one {α : Type} (l : List α) (i : Nat) (v : α) : setCells l i [v] = l.set i v := rfl
theorem mk_false (n : Nat) : List.flatten (List.replicate n [AV.bool false]) = (List.replicate n false).map AV.bool := by
  induction n with
  | zero => rfl
  | succ n ih => rw [List.replicate_succ, List.flatten_cons, ih, List.replicate_succ]; rfl

theorem reached_ok {p : ProgT} {routine : Int} {s : Slc} {h : Heap} (hs : ProgOn h s p.2.2) (hk : Few p.2.2) {P : AV → Heap → Prop}
    (g1 : checkV p ≠ 0 → ∀ t, P (.tuple [.nilslice, .int .i64 (checkV p)]) t) (g2 : checkV p = 0 → (routine < 0 ∨ routine ≥ ((p.2.2.length : Nat) : Int)) → ∀ t, P (.tuple [.nilslice, .int .i64 1]) t)
    (g3 : ∀ (i : Nat) r, checkV p = 0 → routine = (i : Int) → p.2.2[i]? = some r → ∀ (z : Slc) (B : List Bool) t, Closed r.2 B [] → Sl (h ++ t) z 1 encB B → P (.tuple [z.av, .int .i64 0]) t) : CallE KE 67 [pAV p s, .int .i64 routine] h P := by
  refine d67 (by kernel_rfl) ?_
  unfold D67
  refine CallE.lift le_de (check_d hs.ext hk.bnd fun t1 => ⟨_, rfl, fun q => g1 (by simpa using q) _, fun q => ?_⟩)
  have hz : checkV p = 0 := by simpa using q
  obtain ⟨qs, h1, h2, h3⟩ := hs.rows
  rw [h1.len, h2]
  refine ⟨fun q1 => ⟨fun q2 => g2 hz (.inr (by simpa using q2)) _, fun q2 => ?_⟩, fun q1 => g2 hz (.inl (by simpa using q1)) _⟩
  simp only [decide_eq_false_iff_not] at q1 q2
  obtain ⟨i, rfl⟩ : ∃ i : Nat, routine = (i : Int) := ⟨routine.toNat, by omega⟩
  have hi : i < p.2.2.length := by omega
  obtain ⟨r, hr⟩ := lt_len rfl hi
  obtain ⟨q, hq⟩ := lt_len h2.symm hi
  obtain ⟨k1, k2⟩ := h3 i q r hq hr
  have hcl := hk.code r (List.mem_of_getElem? hr)
  have hg : GoodC r.2 := goodC_of (by have := List.any_eq_false.1 (check_zero hz) r (List.mem_of_getElem? hr); simpa using this)
  refine ⟨⟨by omega, by omega⟩, q.2, h1.cell hq rfl, ?_⟩
  rw [k2.len]
  refine ⟨⟨by omega, rfl, by omega⟩, ?_⟩
  refine ⟨fun (m : Nat) (todo : Slc) (c1 : List AV) (t : Heap) => ∃ (B : List Bool) (T : List Nat), c1 = B.map AV.bool ∧ Closed r.2 B T ∧ TD (h.length + (1 + (t1.length + 1))) t todo T ∧ m = 3 * B.count false + T.length ∧ m ≤ 3 * r.2.length + 1, ⟨_, List.replicate r.2.length false, [0], mk_false _, ⟨by simp, .inr (by simp), fun i l hb => by simp [List.getElem?_replicate] at hb, fun i l hb => by simp [List.getElem?_replicate] at hb⟩, TD.mk' (T := []) 0 rfl rfl rfl, rfl, by simp⟩, ?_⟩
  rintro m todo _ t2 ⟨B, T, rfl, hC, hT, rfl, hm⟩
  rw [hT.len]
  have hBl := hC.len
  refine ⟨fun hc => ?_, fun hc => ?_⟩
  · simp only [decide_eq_true_eq] at hc
    rcases List.eq_nil_or_concat T with rfl | ⟨T', a, rfl⟩
    · simp at hc
    rw [List.concat_eq_append] at hC hT hm hc ⊢
    rw [show IntKind.wrap .i64 ((((T' ++ [a]).length : Nat) : Int) - 1) = ((T'.length : Nat) : Int) by rw [wrapI (by simp) (by simp at hm ⊢; omega)]; simp]
    have hH : ∀ (k : Nat) o, t2[k]? = some o → (h ++ (AObj.arr [(.str p.1), (.int .i64 p.2.1), s.av] 3 false :: (t1 ++ (AObj.arr (B.map AV.bool) 1 false :: t2))))[h.length + (1 + (t1.length + 1)) + k]? = some o := by
      intro k o hko
      rw [List.getElem?_append_right (by omega), show h.length + (1 + (t1.length + 1)) + k - h.length = (t1.length + (k + 1)) + 1 by omega, List.getElem?_cons_succ, List.getElem?_append_right (by omega), show t1.length + (k + 1) - t1.length = k + 1 by omega, List.getElem?_cons_succ]
      exact hko
    obtain ⟨e1, e2⟩ := hT.last hH
    have hpop : TD (h.length + (1 + (t1.length + 1))) t2 ⟨todo.b, todo.o + Int.toNat (0 : Int) * 1, Int.toNat ((T'.length : Nat) : Int) - Int.toNat (0 : Int), todo.nil⟩ T' := hT.pop (by have := hT.2.1; simp [this]) (by simp)
    have hTl : (T' ++ [a]).length = T'.length + 1 := by simp
    rw [hTl] at hm hc ⊢
    refine ⟨⟨by omega, by omega⟩, (a : Int), by simpa using e1, fun _ => e2, ⟨by omega, by omega, by omega⟩, fun z => ?_, fun z => ⟨3 * B.count false + T'.length, by omega, B, T', rfl, hC.beyond hg (by simpa using z), hpop, rfl, by omega⟩⟩
    simp only [decide_eq_false_iff_not] at z
    have haL : a < r.2.length := by omega
    obtain ⟨l, hl⟩ := lt_len rfl haL
    obtain ⟨b, hb⟩ := lt_len (show B.length = B.length from rfl) (show a < B.length by omega)
    refine ⟨⟨by omega, by simp; omega⟩, b, ?_, fun hbt => ⟨3 * B.count false + T'.length, by omega, B, T', rfl, hC.known (by rw [hb, hbt]), hpop, rfl, by omega⟩, fun hbf => ?_⟩
    · simp only [partOf, Int.toNat_natCast, Nat.mul_one, Nat.zero_add, List.getElem?_map, hb, Option.map_some]
    subst hbf
    have hcnt : (B.set a true).count false + 1 = B.count false := count_set_lt B a (by simp [List.getD_eq_getElem?_getD, hb])
    refine ⟨⟨by omega, by simp; omega⟩, by simp; omega, ?_⟩
    rw [setCells_one, Nat.zero_add, Nat.mul_one, Int.toNat_natCast, ← List.map_set]
    refine ⟨fun todo' t => ∃ U : List Nat, TD (h.length + (1 + (t1.length + 1))) t todo' (T' ++ U) ∧ U.length ≤ 1 ∧ (7 ≤ l.getD 0 0 → l.getD 0 0 ≤ 11 → (l.getD 10 0).toNat ∈ U), ?_, ?_⟩
    · refine ⟨⟨by omega, by omega⟩, l.getD 0 0, k2.cell0 hl rfl, jumps_ok fun t3 => ⟨_, rfl, fun hj => ?_, fun hj => ⟨[], by simpa using hpop.more, by simp, fun e1 e2 => ?_⟩⟩⟩
      · simp only [Bool.and_eq_true, decide_eq_true_eq] at hj
        have hto := hg.jump a l hl hj.1 hj.2
        obtain ⟨g, hg'⟩ := hpop.take
        refine ⟨⟨by omega, by omega⟩, l.getD 10 0, k2.cell (c := 10) hl rfl, T'.map encN, g, hg', ?_, [(l.getD 10 0).toNat], ?_, by simp, fun _ _ => by simp⟩
        · rw [hpop.len]; omega
        · refine TD.mk' (g.length + t3.length + 1) (by omega) (by rw [hpop.len]) ?_
          rw [List.getElem?_append_right (by omega), List.getElem?_append_right (by omega), show g.length + t3.length + 1 - g.length - t3.length = 1 by omega]
          simp only [List.getElem?_cons_succ, List.getElem?_cons_zero, encN]
          rw [Int.toNat_of_nonneg hto.1]
      · have hj' : ¬ (7 ≤ l.getD 0 0 ∧ l.getD 0 0 ≤ 11) := by
          simp only [Bool.and_eq_false_iff, decide_eq_false_iff_not] at hj
          omega
        exact absurd ⟨e1, e2⟩ hj'
    · rintro todo' t4 ⟨U, hU, hUl, hUj⟩
      have hTU : (T' ++ U).length ≤ T'.length + 1 := by simp; omega
      have stop : (l.getD 0 0 = 10 ∨ l.getD 0 0 = 12 ∨ l.getD 0 0 = 25) → ∃ n4, n4 < 3 * B.count false + (T'.length + 1) ∧ ∃ (B' : List Bool) (T : List Nat), (B.set a true).map AV.bool = B'.map AV.bool ∧ Closed r.2 B' T ∧ TD (h.length + (1 + (t1.length + 1))) t4 todo' T ∧ n4 = 3 * B'.count false + T.length ∧ n4 ≤ 3 * r.2.length + 1 := fun e =>
        ⟨3 * (B.set a true).count false + (T' ++ U).length, by omega, B.set a true, T' ++ U, rfl, hC.mark hl hUj (fun a b c => by omega), hU, rfl, by omega⟩
      refine ⟨⟨by omega, by omega⟩, l.getD 0 0, k2.cell0 hl rfl, fun x1 => ⟨fun x2 => ⟨fun x3 => ?_, fun x3 => stop (.inr (.inr (by simpa using x3)))⟩, fun x2 => stop (.inr (.inl (by simpa using x2)))⟩, fun x1 => stop (.inl (by simpa using x1))⟩
      obtain ⟨g, hg'⟩ := hU.take
      refine ⟨(T' ++ U).map encN, g, hg', by rw [hU.len]; omega, 3 * (B.set a true).count false + ((T' ++ U) ++ [a + 1]).length, by simp at hTU ⊢; omega, B.set a true, (T' ++ U) ++ [a + 1], rfl, ?_, ?_, rfl, by simp at hTU ⊢; omega⟩
      · rw [List.append_assoc]
        exact hC.mark hl (fun a b => List.mem_append.2 (.inl (hUj a b))) fun _ _ _ => by simp
      · refine TD.mk' (g.length + 1) (by omega) (by rw [hU.len]) ?_
        rw [List.getElem?_append_right (by omega), show g.length + 1 - g.length = 1 by omega, wrap_succ (by omega)]
        rfl
  · simp only [decide_eq_false_iff_not] at hc
    obtain rfl : T = [] := List.eq_nil_of_length_eq_zero (by omega)
    refine g3 i r hz rfl hr ⟨h.length + (1 + t1.length), 0, r.2.length, false⟩ B _ hC ⟨by simp [Slc.len, hBl], fun j x hj => ?_⟩
    have hjl := (List.getElem?_eq_some_iff.1 hj).1
    have hb : (h ++ (AObj.arr [(.str p.1), (.int .i64 p.2.1), s.av] 3 false :: (t1 ++ (AObj.arr (B.map AV.bool) 1 false :: t2))))[h.length + (1 + t1.length)]? = some (.arr (B.map AV.bool) 1 false) := by
      rw [List.getElem?_append_right (by omega), show h.length + (1 + t1.length) - h.length = t1.length + 1 by omega, List.getElem?_cons_succ, List.getElem?_append_right (Nat.le_refl _), Nat.sub_self]
      rfl
    simp only [rdCells, hb]
    rw [if_pos (by simp; omega)]
    congr 1
    rw [Nat.zero_add, Nat.mul_one]
    apply List.ext_getElem?
    intro n
    rw [List.getElem?_take]
    split
    · rename_i hn
      obtain rfl : n = 0 := by omega
      rw [List.getElem?_drop, Nat.add_zero, List.getElem?_map, hj]
      rfl
    · rw [List.getElem?_eq_none (by simp [encB]; omega)]
end Go.Proofs.YtifkphfhadimaaaGreatDoor.Mini

