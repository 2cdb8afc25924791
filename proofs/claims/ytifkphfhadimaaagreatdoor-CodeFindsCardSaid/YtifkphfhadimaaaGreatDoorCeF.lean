import Derived.Test.YtifkphfhadimaaaGreatDoorCeE
import Derived.Test.YtifkphfhadimaaaGreatDoorDecR
set_option linter.unusedVariables false
set_option linter.unusedSimpArgs false
set_option maxRecDepth 100000
namespace Go.Proofs.YtifkphfhadimaaaGreatDoor.Mini
open Go.Abs

noncomputable def newZ : List (Nat × MFunc) := [(67, F67)]
noncomputable def tblZ : List (Nat × MFunc) := tblY ++ newZ
theorem tblZ_ok : ∀ p ∈ tblZ, (modelOf Tryz.prog noPrim).fn p.1 = some p.2 := by
  intro p hp
  rcases List.mem_append.1 hp with hp | hp
  · exact tblY_ok p hp
  · have : ∀ p ∈ newZ, (modelOf Tryz.prog noPrim).fn p.1 = some p.2 := by
      simp only [newZ, List.mem_cons, List.not_mem_nil, or_false, forall_eq_or_imp, forall_eq]
      exact fn67
    exact this p hp
noncomputable def KZ : Model := ⟨fnOf tblZ, primV primsX⟩
noncomputable def KE : Model := withB KZ bldN
theorem le_de : Model.le KD KE := ⟨fun _ _ h => fnOf_app h, fun _ _ _ _ h => h⟩

theorem check_zero {p : ProgT} (h : checkV p = 0) : (p.2.2.any fun r => wrongV r.2) = false := by
  unfold checkV at h
  repeat' split at h
  all_goals first | (exact absurd h (by decide)) | skip
  rename_i h9
  simpa using h9
structure GoodC (c : List (List Int)) : Prop where
  pos : 0 < c.length
  jump : ∀ (i : Nat) l, c[i]? = some l → 7 ≤ l.getD 0 0 → l.getD 0 0 ≤ 11 → 0 ≤ l.getD 10 0 ∧ l.getD 10 0 < (c.length : Int)
  last : ∀ l, c[c.length - 1]? = some l → l.getD 0 0 = 10 ∨ l.getD 0 0 = 12 ∨ l.getD 0 0 = 25
theorem hasL {op : Int} (h1 : 7 ≤ op) (h2 : op ≤ 11) : hasV op 76 = true := by
  rcases (by omega : op = 7 ∨ op = 8 ∨ op = 9 ∨ op = 10 ∨ op = 11) with rfl | rfl | rfl | rfl | rfl <;> decide
theorem goodC_of {c : List (List Int)} (h : wrongV c = false) : GoodC c := by
  unfold wrongV at h
  simp only [Bool.or_eq_false_iff] at h
  obtain ⟨h1, h2, h3⟩ := h
  have hpos : c.length ≠ 0 := by simp at h1; simpa using h1
  refine ⟨by omega, fun i l hl a b => ?_, fun l hl => ?_⟩
  · have := List.any_eq_false.1 h2 l (List.mem_of_getElem? hl)
    have hv : validL l c.length = true := by simpa using this
    unfold validL validV at hv
    simp only [Bool.and_eq_true] at hv
    have ht := hv.2.2.2.2
    unfold toB at ht
    rw [if_pos (hasL a b)] at ht
    simpa using ht
  · rw [last_at h1] at hl
    cases hl
    unfold endB lastOp at h3
    by_cases a : (c.getD (c.length - 1) []).getD 0 0 = 10
    · exact .inl a
    by_cases b : (c.getD (c.length - 1) []).getD 0 0 = 12
    · exact .inr (.inl b)
    · refine .inr (.inr ?_)
      simp only [Bool.and_eq_false_iff, bne_eq_false_iff_eq] at h3
      rcases h3 with h3 | h3 | h3
      · exact absurd h3 a
      · exact absurd h3 b
      · exact h3
structure Closed (c : List (List Int)) (B : List Bool) (T : List Nat) : Prop where
  len : B.length = c.length
  start : B[0]? = some true ∨ 0 ∈ T
  jump : ∀ (i : Nat) l, B[i]? = some true → c[i]? = some l → 7 ≤ l.getD 0 0 → l.getD 0 0 ≤ 11 → B[(l.getD 10 0).toNat]? = some true ∨ (l.getD 10 0).toNat ∈ T
  next : ∀ (i : Nat) l, B[i]? = some true → c[i]? = some l → l.getD 0 0 ≠ 10 → l.getD 0 0 ≠ 12 → l.getD 0 0 ≠ 25 → B[i + 1]? = some true ∨ i + 1 ∈ T
section
variable {c : List (List Int)} {B : List Bool} {T U : List Nat} {a : Nat}
theorem Closed.drop (k : Closed c B (T ++ [a])) (h0 : 0 = a → B[0]? = some true) (h1 : ∀ (i : Nat) l, c[i]? = some l → 7 ≤ l.getD 0 0 → l.getD 0 0 ≤ 11 → (l.getD 10 0).toNat = a → B[(l.getD 10 0).toNat]? = some true)
    (h2 : ∀ (i : Nat) l, c[i]? = some l → l.getD 0 0 ≠ 10 → l.getD 0 0 ≠ 12 → l.getD 0 0 ≠ 25 → i + 1 = a → B[i + 1]? = some true) : Closed c B T := by
  refine ⟨k.len, ?_, fun i l hb hl e1 e2 => ?_, fun i l hb hl e1 e2 e3 => ?_⟩
  · rcases k.start with h | h
    · exact .inl h
    · rcases List.mem_append.1 h with h | h
      · exact .inr h
      · exact .inl (h0 (by simpa using h))
  · rcases k.jump i l hb hl e1 e2 with h | h
    · exact .inl h
    · rcases List.mem_append.1 h with h | h
      · exact .inr h
      · exact .inl (h1 i l hl e1 e2 (by simpa using h))
  · rcases k.next i l hb hl e1 e2 e3 with h | h
    · exact .inl h
    · rcases List.mem_append.1 h with h | h
      · exact .inr h
      · exact .inl (h2 i l hl e1 e2 e3 (by simpa using h))
theorem Closed.beyond (k : Closed c B (T ++ [a])) (g : GoodC c) (ha : c.length ≤ a) : Closed c B T := by
  refine k.drop (fun h => ?_) (fun i l hl e1 e2 h => ?_) fun i l hl e1 e2 e3 h => ?_
  · have := g.pos
    omega
  · have := g.jump i l hl e1 e2
    omega
  · have hi := (List.getElem?_eq_some_iff.1 hl).1
    have : i = c.length - 1 := by omega
    rw [this] at hl
    have := g.last l hl
    omega
theorem Closed.known (k : Closed c B (T ++ [a])) (ha : B[a]? = some true) : Closed c B T :=
  k.drop (fun h => h ▸ ha) (fun i l hl e1 e2 h => by rw [h]; exact ha) fun i l hl e1 e2 e3 h => by rw [h]; exact ha
theorem set_true {i : Nat} (h : B[i]? = some true) : (B.set a true)[i]? = some true := by
  rw [List.getElem?_set]
  split
  · rename_i e
    subst e
    rw [if_pos (List.getElem?_eq_some_iff.1 h).1]
  · exact h
theorem Closed.mark (k : Closed c B (T ++ [a])) {l : List Int} (hl : c[a]? = some l) (hj : 7 ≤ l.getD 0 0 → l.getD 0 0 ≤ 11 → (l.getD 10 0).toNat ∈ U) (hn : l.getD 0 0 ≠ 10 → l.getD 0 0 ≠ 12 → l.getD 0 0 ≠ 25 → a + 1 ∈ U) : Closed c (B.set a true) (T ++ U) := by
  have ha : a < B.length := by
    have := (List.getElem?_eq_some_iff.1 hl).1
    rw [k.len]
    exact this
  have haa : (B.set a true)[a]? = some true := by rw [List.getElem?_set_self ha]
  have conv : ∀ {x : Nat}, B[x]? = some true ∨ x ∈ T ++ [a] → (B.set a true)[x]? = some true ∨ x ∈ T ++ U := by
    rintro x (h | h)
    · exact .inl (set_true h)
    · rcases List.mem_append.1 h with h | h
      · exact .inr (List.mem_append.2 (.inl h))
      · have : x = a := by simpa using h
        subst this
        exact .inl haa
  have back : ∀ {i : Nat}, (B.set a true)[i]? = some true → i = a ∨ B[i]? = some true := by
    intro i h
    by_cases e : a = i
    · exact .inl e.symm
    · rw [List.getElem?_set_ne e] at h
      exact .inr h
  refine ⟨by rw [List.length_set]; exact k.len, conv k.start, fun i l' hb hl' e1 e2 => ?_, fun i l' hb hl' e1 e2 e3 => ?_⟩
  · rcases back hb with rfl | hb'
    · rw [hl] at hl'
      cases hl'
      exact .inr (List.mem_append.2 (.inr (hj e1 e2)))
    · exact conv (k.jump i l' hb' hl' e1 e2)
  · rcases back hb with rfl | hb'
    · rw [hl] at hl'
      cases hl'
      exact .inr (List.mem_append.2 (.inr (hn e1 e2 e3)))
    · exact conv (k.next i l' hb' hl' e1 e2 e3)
end

def encN (n : Nat) : AV := .int .i64 ((n : Nat) : Int)
def TD (base : Nat) (t : Heap) (s : Slc) (T : List Nat) : Prop := s.nil = false ∧ s.o = 0 ∧ s.n = T.length ∧ ∃ k c, s.b = base + k ∧ t[k]? = some (.arr c 1 false) ∧ T.length ≤ c.length ∧ c.take T.length = T.map encN
theorem TD.len {base : Nat} {t : Heap} {s : Slc} {T : List Nat} (k : TD base t s T) : s.len = T.length := by
  unfold Slc.len
  rw [k.1]
  exact k.2.2.1
theorem TD.pop {base : Nat} {t : Heap} {s : Slc} {T : List Nat} {a : Nat} (k : TD base t s (T ++ [a])) {o n : Nat} (ho : o = 0) (hn : n = T.length) : TD base t ⟨s.b, o, n, s.nil⟩ T := by
  obtain ⟨h1, h2, h3, i, c, h4, h5, h6, h7⟩ := k
  refine ⟨h1, ho, hn, i, c, h4, h5, by simp at h6; omega, ?_⟩
  have := congrArg (List.take T.length) h7
  rw [List.take_take, List.map_append, List.take_append_of_le_length (by simp), Nat.min_eq_left (by simp)] at this
  rw [this, List.take_of_length_le (by simp)]
theorem TD.take {base : Nat} {t : Heap} {s : Slc} {T : List Nat} (k : TD base t s T) : ∃ g, ((s.nil = true ∧ T.map encN = [] ∧ g = t) ∨ (s.nil = false ∧ ∃ k0 c0, s.b = base + k0 ∧ t[k0]? = some (.arr c0 1 false) ∧ s.o + s.n * 1 ≤ c0.length ∧ T.map encN = (c0.drop s.o).take (s.n * 1) ∧ g = t.set k0 .dead)) := by
  obtain ⟨h1, h2, h3, i, c, h4, h5, h6, h7⟩ := k
  exact ⟨_, .inr ⟨h1, i, c, h4, h5, by omega, by rw [h2, h3, List.drop_zero, Nat.mul_one, h7], rfl⟩⟩
theorem TD.mk' {base b n : Nat} {t : Heap} {T : List Nat} {x : Nat} (k : Nat) (hb : b = base + k) (hn : n = T.length + 1) (ht : t[k]? = some (.arr (T.map encN ++ [encN x]) 1 false)) : TD base t ⟨b, 0, n, false⟩ (T ++ [x]) :=
  ⟨rfl, rfl, by simp [hn], k, _, hb, ht, by simp, by rw [List.take_of_length_le (by simp), List.map_append]; rfl⟩
theorem TD.more {base : Nat} {t u : Heap} {s : Slc} {T : List Nat} (k : TD base t s T) : TD base (t ++ u) s T := by
  obtain ⟨h1, h2, h3, i, c, h4, h5, h6, h7⟩ := k
  exact ⟨h1, h2, h3, i, c, h4, at_app h5, h6, h7⟩
theorem TD.last {base : Nat} {t H : Heap} {s : Slc} {T : List Nat} {a : Nat} (k : TD base t s (T ++ [a])) (hH : ∀ (k : Nat) o, t[k]? = some o → H[base + k]? = some o) : rdVar H none s.b (s.o + T.length * 1) = some (.int .i64 ((a : Nat) : Int)) ∧ ∃ (c2 : List AV) (r : Bool), H[s.b]? = some (.arr c2 1 r) := by
  obtain ⟨h1, h2, h3, i, c, h4, h5, h6, h7⟩ := k
  have hb := hH i _ h5
  rw [← h4] at hb
  refine ⟨rd_keep hb ?_, c, false, hb⟩
  have hlt : T.length < c.length := by simp at h6; omega
  have : (c.take (T ++ [a]).length)[T.length]? = some (encN a) := by
    rw [h7, List.map_append, List.getElem?_append_right (by simp)]
    simp
  rw [List.getElem?_take_of_lt (by simp)] at this
  rw [h2, Nat.zero_add, Nat.mul_one]
  exact this

theorem jumps_ok {op : Int} {h : Heap} {P : AV → Heap → Prop} (hP : ∀ t, P (.bool (decide (op ≥ 7) && decide (op ≤ 11))) t) : CallE KE 121 [.int .i64 op] h P := by
  refine d121 (by kernel_rfl) ?_
  unfold D121
  refine ⟨fun a => ?_, fun a => ?_⟩
  · rw [a, Bool.true_and] at hP
    exact hP _
  · rw [a, Bool.false_and] at hP
    exact hP _
def encB (b : Bool) : List AV := [.bool b]
theorem setCells_one {α : Type} (l : List α) (i : Nat) (v : α) : setCells l i [v] = l.set i v := rfl
theorem mk_false (n : Nat) : List.flatten (List.replicate n [AV.bool false]) = (List.replicate n false).map AV.bool := by
  induction n with
  | zero => rfl
  | succ n ih => rw [List.replicate_succ, List.flatten_cons, ih, List.replicate_succ]; rfl

end Go.Proofs.YtifkphfhadimaaaGreatDoor.Mini

