import Derived.Test.YtifkphfhadimaaaGreatDoorCeB
import Derived.Test.YtifkphfhadimaaaGreatDoorCdF
set_option linter.unusedVariables false
set_option linter.unusedSimpArgs false
set_option maxRecDepth 100000
namespace Go.Proofs.YtifkphfhadimaaaGreatDoor.Mini
open Go.Abs

section
variable {α : Type} {g : α → Bool} {l : List α}
theorem any_of {i : Nat} {x : α} (hx : l[i]? = some x) (hg : g x = true) : l.any g = true := List.any_eq_true.2 ⟨x, List.mem_of_getElem? hx, hg⟩
theorem any_none (h : ∀ (i : Nat) x, l[i]? = some x → g x = false) : l.any g = false := List.any_eq_false.2 fun x hx => by
  obtain ⟨i, hi⟩ := List.mem_iff_getElem?.1 hx
  simp [h i x hi]
theorem all_of (h : ∀ (i : Nat) x, l[i]? = some x → g x = true) : l.all g = true := List.all_eq_true.2 fun x hx => by
  obtain ⟨i, hi⟩ := List.mem_iff_getElem?.1 hx
  exact h i x hi
theorem all_no {i : Nat} {x : α} (hx : l[i]? = some x) (hg : g x = false) : l.all g = false := List.all_eq_false.2 ⟨x, List.mem_of_getElem? hx, by simp [hg]⟩
end
theorem lower {α : Type} {l : List α} {i : Nat} {Q : α → Prop} {x : α} (hx : l[i]? = some x) (h : ∀ (j : Nat) y, j < i → l[j]? = some y → Q y) (hq : Q x) : ∀ (j : Nat) y, j < i + 1 → l[j]? = some y → Q y := fun j y hj hy => by
  rcases Nat.lt_or_ge j i with h' | h'
  · exact h j y h' hy
  · obtain rfl : j = i := by omega
    rw [hx] at hy
    cases hy
    exact hq
theorem upto {α : Type} {l : List α} {i : Nat} {Q : α → Prop} (hi : ¬ (i < l.length)) (h : ∀ (j : Nat) y, j < i → l[j]? = some y → Q y) : ∀ (j : Nat) y, l[j]? = some y → Q y := fun j y hy => h j y (by have := (List.getElem?_eq_some_iff.1 hy).1; omega) hy

def letB (c : UInt8) : Bool := (!(decide (((c.toNat : Nat) : Int) < 97))) && (!(decide (((c.toNat : Nat) : Int) > 122)))
def nmV (w : List UInt8) : Bool := (!(decide (((w.length : Nat) : Int) < 1))) && ((!(decide (((w.length : Nat) : Int) > 8))) && w.all letB)
theorem named_ok {w : List UInt8} {h : Heap} {P : AV → Heap → Prop} (hP : ∀ t, P (.bool (nmV w)) t) : CallE KD 92 [.str w] h P := by
  refine d92 (by kernel_rfl) ?_
  unfold D92
  have no : nmV w = false → ∀ t, P (.bool false) t := fun e t => by
    have := hP t
    rwa [e] at this
  refine ⟨fun a => ⟨fun b => no (by unfold nmV; rw [b]; simp) _, fun b => ?_⟩, fun a => no (by unfold nmV; rw [a]; simp) _⟩
  have hb : w.length ≤ 8 := by simp at b; omega
  refine ⟨fun (m : Nat) (x : Int) (t : Heap) => ∃ i : Nat, x = (i : Int) ∧ m + i = w.length ∧ ∀ (j : Nat) c, j < i → w[j]? = some c → letB c = true, ⟨w.length, 0, rfl, rfl, fun j c hj => absurd hj (Nat.not_lt_zero j)⟩, ?_⟩
  rintro m _ t ⟨i, rfl, hm, hall⟩
  refine ⟨fun hc => ?_, fun hc => ?_⟩
  · simp only [decide_eq_true_eq] at hc
    obtain ⟨c, hcw⟩ := lt_len rfl (show i < w.length by omega)
    have bad : letB c = false → ∀ t, P (.bool false) t := fun e => no (by unfold nmV; rw [all_no hcw e]; simp)
    refine ⟨c, ⟨by omega, by simpa using hcw⟩, fun q1 => ⟨c, ⟨by omega, by simpa using hcw⟩, fun q2 => bad (by unfold letB; rw [q2]; simp) _, fun q2 => ?_⟩, fun q1 => bad (by unfold letB; rw [q1]; simp) _⟩
    exact ⟨m - 1, by omega, i + 1, wrap_succ (by omega), by omega, lower hcw hall (by unfold letB; rw [q1, q2]; rfl)⟩
  · simp only [decide_eq_false_iff_not] at hc
    have e : nmV w = true := by unfold nmV; rw [a, b, all_of (upto (by omega) hall)]; rfl
    rw [e] at hP
    exact hP _
theorem rnamed_ok {w : List UInt8} {h : Heap} {P : AV → Heap → Prop} (hP : ∀ t, P (.bool (nmV w)) t) : CallE KD 120 [.str w] h P := by
  refine d120 (by kernel_rfl) ?_
  unfold D120
  have no : nmV w = false → ∀ t, P (.bool false) t := fun e t => by
    have := hP t
    rwa [e] at this
  refine ⟨fun a => ⟨fun b => no (by unfold nmV; rw [b]; simp) _, fun b => ?_⟩, fun a => no (by unfold nmV; rw [a]; simp) _⟩
  have hb : w.length ≤ 8 := by simp at b; omega
  refine ⟨fun (m : Nat) (x : Int) (t : Heap) => ∃ i : Nat, x = (i : Int) ∧ m + i = w.length ∧ ∀ (j : Nat) c, j < i → w[j]? = some c → letB c = true, ⟨w.length, 0, rfl, rfl, fun j c hj => absurd hj (Nat.not_lt_zero j)⟩, ?_⟩
  rintro m _ t ⟨i, rfl, hm, hall⟩
  refine ⟨fun hc => ?_, fun hc => ?_⟩
  · simp only [decide_eq_true_eq] at hc
    obtain ⟨c, hcw⟩ := lt_len rfl (show i < w.length by omega)
    have bad : letB c = false → ∀ t, P (.bool false) t := fun e => no (by unfold nmV; rw [all_no hcw e]; simp)
    refine ⟨c, ⟨by omega, by simpa using hcw⟩, fun q1 => ⟨c, ⟨by omega, by simpa using hcw⟩, fun q2 => bad (by unfold letB; rw [q2]; simp) _, fun q2 => ?_⟩, fun q1 => bad (by unfold letB; rw [q1]; simp) _⟩
    exact ⟨m - 1, by omega, i + 1, wrap_succ (by omega), by omega, lower hcw hall (by unfold letB; rw [q1, q2]; rfl)⟩
  · simp only [decide_eq_false_iff_not] at hc
    have e : nmV w = true := by unfold nmV; rw [a, b, all_of (upto (by omega) hall)]; rfl
    rw [e] at hP
    exact hP _

theorem anyR_ok {s : Slc} {p : List Rout} {h : Heap} {f : Nat} {cap : List AV} (g : Rout → Bool) (hs : ProgOn h s p) (hb : Bnd p)
    (hf : ∀ (r : Rout) (q : Slc) (t : Heap) (P : AV → Heap → Prop), r ∈ p → Sl (h ++ t) q 11 insW r.2 → (∀ t', P (.bool (g r)) t') → CallE KD f ([.agg [.str r.1, q.av]] ++ cap) (h ++ t) P) {P : AV → Heap → Prop} (hP : ∀ t, P (.bool (p.any g)) t) : CallE KD 90 [s.av, .fn f cap] h P := by
  refine d90 (by kernel_rfl) ?_
  unfold D90
  refine d78 (by kernel_rfl) ?_
  unfold D78
  obtain ⟨qs, h1, h2, h3⟩ := hs.rows
  rw [h1.len, h2]
  have hlen := hb.len
  refine ⟨fun (m : Nat) (x : Int) (t : Heap) => ∃ i : Nat, x = (i : Int) ∧ m + i = p.length ∧ ∀ (j : Nat) r, j < i → p[j]? = some r → g r = false, ⟨p.length, 0, rfl, rfl, fun j c hj => absurd hj (Nat.not_lt_zero j)⟩, ?_⟩
  rintro m _ t ⟨i, rfl, hm, hall⟩
  refine ⟨fun hc => ?_, fun hc => ?_⟩
  · simp only [decide_eq_true_eq] at hc
    have hi : i < p.length := by omega
    obtain ⟨r, hr⟩ := lt_len rfl hi
    obtain ⟨q, hq⟩ := lt_len h2.symm hi
    obtain ⟨k1, k2⟩ := h3 i q r hq hr
    refine ⟨⟨by omega, by omega⟩, q.1, q.2, by have := h1.agg hq; simpa [encR] using this, ?_⟩
    rw [k1]
    refine hf r q.2 t _ (List.mem_of_getElem? hr) k2.ext fun t' => ⟨_, rfl, fun hz => ⟨_, rfl, ?_⟩, fun hz => ⟨m - 1, by omega, i + 1, wrap_succ (by omega), by omega, lower hr hall hz⟩⟩
    rw [any_of hr hz] at hP
    rw [decide_eq_true (show (i : Int) ≥ 0 by omega)]
    exact hP _
  · simp only [decide_eq_false_iff_not] at hc
    refine ⟨_, rfl, ?_⟩
    rw [any_none (upto (by omega) hall)] at hP
    exact hP _

theorem anyI_ok {s : Slc} {c : List (List Int)} {h : Heap} {f : Nat} {cap : List AV} (g : List Int → Bool) (hs : Sl h s 11 insW c) (hb : c.length ≤ 140737488355327)
    (hf : ∀ (l : List Int) (t : Heap) (P : AV → Heap → Prop), l ∈ c → (∀ t', P (.bool (g l)) t') → CallE KD f ([.agg (insW l)] ++ cap) (h ++ t) P) {P : AV → Heap → Prop} (hP : ∀ t, P (.bool (c.any g)) t) : CallE KD 133 [s.av, .fn f cap] h P := by
  refine d133 (by kernel_rfl) ?_
  unfold D133
  refine d159 (by kernel_rfl) ?_
  unfold D159
  rw [hs.len]
  refine ⟨fun (m : Nat) (x : Int) (t : Heap) => ∃ i : Nat, x = (i : Int) ∧ m + i = c.length ∧ ∀ (j : Nat) r, j < i → c[j]? = some r → g r = false, ⟨c.length, 0, rfl, rfl, fun j c hj => absurd hj (Nat.not_lt_zero j)⟩, ?_⟩
  rintro m _ t ⟨i, rfl, hm, hall⟩
  refine ⟨fun hc => ?_, fun hc => ?_⟩
  · simp only [decide_eq_true_eq] at hc
    have hi : i < c.length := by omega
    obtain ⟨l, hl⟩ := lt_len rfl hi
    refine ⟨⟨by omega, by omega⟩, _, _, _, _, _, _, _, _, _, _, _, hs.agg hl, ?_⟩
    refine hf l t _ (List.mem_of_getElem? hl) fun t' => ⟨_, rfl, fun hz => ⟨_, rfl, ?_⟩, fun hz => ⟨m - 1, by omega, i + 1, wrap_succ (by omega), by omega, lower hl hall hz⟩⟩
    rw [any_of hl hz] at hP
    rw [decide_eq_true (show (i : Int) ≥ 0 by omega)]
    exact hP _
  · simp only [decide_eq_false_iff_not] at hc
    refine ⟨_, rfl, ?_⟩
    rw [any_none (upto (by omega) hall)] at hP
    exact hP _

def validL (l : List Int) (n : Nat) : Bool := validV (l.getD 0 0) (l.getD 2 0) (l.getD 3 0) (l.getD 4 0) (l.getD 5 0) (l.getD 6 0) (l.getD 7 0) (l.getD 8 0) (l.getD 9 0) (l.getD 10 0) ((n : Nat) : Int)
def lastOp (c : List (List Int)) : Int := (c.getD (c.length - 1) []).getD 0 0
def endB (n : Int) : Bool := (n != 10) && ((n != 12) && (n != 25))
def wrongV (c : List (List Int)) : Bool := (((c.length : Nat) : Int) == 0) || ((c.any fun l => !validL l c.length) || endB (lastOp c))
def bigV (r : Rout) : Bool := decide (((r.2.length : Nat) : Int) > 120)
theorem last_at {c : List (List Int)} (h : (((c.length : Nat) : Int) == 0) = false) : c[c.length - 1]? = some (c.getD (c.length - 1) []) := by
  have : c.length ≠ 0 := by simp at h; simpa using h
  rw [List.getD_eq_getElem?_getD, List.getElem?_eq_getElem (by omega)]
  rfl
theorem last_idx {n : Nat} (h : (((n : Nat) : Int) == 0) = false) (hb : n ≤ 140737488355327) : IntKind.wrap .i64 (((n : Nat) : Int) - 1) = ((n - 1 : Nat) : Int) := by
  have : n ≠ 0 := by simp at h; simpa using h
  rw [wrapI (by omega) (by omega)]
  omega

theorem wrong1_ok {r : Rout} {l : List Int} {s : Slc} {h : Heap} {a : Nat} (hr : rdVar h none a 1 = some s.av) (hs : Sl h s 11 insW r.2) {P : AV → Heap → Prop} (hP : ∀ t, P (.bool (!validL l r.2.length)) t) : CallE KD 134 [.agg (insW l), .ptr a 0] h P := by
  refine d134 (by kernel_rfl) ?_
  unfold D134
  refine ⟨s, hr, ?_⟩
  rw [hs.len]
  exact CallE.lift le_cd (valid_ok fun t => ⟨_, rfl, hP _⟩)

theorem wrong_ok {r : Rout} {s : Slc} {h : Heap} (hs : Sl h s 11 insW r.2) (hb : r.2.length ≤ 140737488355327) {P : AV → Heap → Prop} (hP : ∀ t, P (.bool (wrongV r.2)) t) : CallE KD 94 [.agg [.str r.1, s.av]] h P := by
  refine d94 (by kernel_rfl) ?_
  unfold D94
  rw [hs.len]
  unfold wrongV at hP
  refine ⟨fun q0 => ?_, fun q0 => ?_⟩
  · rw [q0, Bool.false_or] at hP
    refine anyI_ok (fun l => !validL l r.2.length) hs.ext hb (fun l t P hl hP => wrong1_ok (r := r) (s := s) ?_ (Sl.ext (H := h ++ [AObj.arr [.str r.1, s.av] 2 false]) hs.ext) hP) fun t1 => ⟨_, rfl, fun q1 => ?_, fun q1 => ?_⟩
    · rw [List.append_assoc]
      simp [rdVar, rdCells]
    · rw [q1, Bool.true_or] at hP
      exact hP _
    · rw [q1, Bool.false_or] at hP
      rw [last_idx q0 hb]
      have h0 : r.2.length ≠ 0 := by simp at q0; simpa using q0
      refine ⟨⟨by omega, by omega⟩, lastOp r.2, ?_, ?_⟩
      · have := hs.cell0 (last_at q0) (v := .int .i64 (lastOp r.2)) rfl
        simpa using this
      unfold endB at hP
      refine ⟨fun q2 => ⟨fun q3 => ?_, fun q3 => ?_⟩, fun q2 => ?_⟩
      · rw [q2, q3, Bool.true_and, Bool.true_and] at hP
        exact hP _
      · rw [q2, q3, Bool.true_and, Bool.false_and] at hP
        exact hP _
      · rw [q2, Bool.false_and] at hP
        exact hP _
  · rw [q0, Bool.true_or] at hP
    exact hP _

def kvL (l : List (List UInt8)) : List (AV × AV) := l.map fun w => (AV.str w, AV.bool true)
theorem find_kv (w : List UInt8) : ∀ l : List (List UInt8), findKey (.str w) (kvL l) = some (if w ∈ l then some (.bool true) else none)
  | [] => by simp [kvL, findKey]
  | x :: l => by
    have ih := find_kv w l
    unfold kvL at ih ⊢
    simp only [List.map_cons, findKey, cellEq]
    by_cases h : w = x
    · subst h
      simp
    · rw [show (w == x) = false by simpa using h]
      simp only [ih]
      congr 1
      by_cases h2 : w ∈ l
      · simp [h2]
      · simp [h2, h]
theorem set_kv {w : List UInt8} : ∀ {l : List (List UInt8)}, w ∉ l → setKey (.str w) (.bool true) (kvL l) = some (kvL (l ++ [w]))
  | [], _ => by simp [kvL, setKey]
  | x :: l, h => by
    have hx : (w == x) = false := by simpa using fun e : w = x => h (e ▸ List.mem_cons_self)
    have ih := set_kv (l := l) fun hm => h (List.mem_cons_of_mem _ hm)
    unfold kvL at ih ⊢
    simp only [List.map_cons, setKey, cellEq, hx, ih, Option.map_some, List.cons_append]
theorem del_kv {w : List UInt8} : ∀ l : List (List UInt8), delKey (.str w) (kvL l) = some (kvL (l.erase w))
  | [] => by simp [kvL, delKey]
  | x :: l => by
    have ih := del_kv (w := w) l
    unfold kvL at ih ⊢
    simp only [List.map_cons, delKey, cellEq]
    by_cases h : w = x
    · subst h
      simp
    · rw [show (w == x) = false by simpa using h]
      rw [List.erase_cons_tail (by simpa using fun e => h e.symm)]
      simp [ih]

open Classical in
noncomputable def dupV (p : List Rout) : Bool := decide (∃ (j k : Nat) (a b : Rout), j < k ∧ p[j]? = some a ∧ p[k]? = some b ∧ a.1 = b.1)
theorem dup_yes {p : List Rout} {j k : Nat} {a b : Rout} (hjk : j < k) (ha : p[j]? = some a) (hb : p[k]? = some b) (e : a.1 = b.1) : dupV p = true := by
  unfold dupV
  simp only [decide_eq_true_eq]
  exact ⟨j, k, a, b, hjk, ha, hb, e⟩
theorem dup_no {p : List Rout} (h : ∀ (k : Nat) (b : Rout), p[k]? = some b → ∀ (j : Nat) (a : Rout), j < k → p[j]? = some a → a.1 ≠ b.1) : dupV p = false := by
  unfold dupV
  simp only [decide_eq_false_iff_not]
  rintro ⟨j, k, a, b, h1, h2, h3, h4⟩
  exact h k b h3 j a h1 h2 h4
def startW : List UInt8 := [115, 116, 97, 114, 116]
noncomputable def checkV (p : ProgT) : Int :=
  if decide (p.2.1 > 16) = true then 2 else if decide (((p.2.2.length : Nat) : Int) > 6) = true then 2 else if p.2.2.any bigV = true then 2
  else if nmV p.1 = false then 5 else if (p.2.2.any fun r => !nmV r.1) = true then 5 else if dupV p.2.2 = true then 6
  else if decide (p.2.1 < 0) = true then 1 else if (p.2.2.all fun r => r.1 == startW) = true then 1 else if (p.2.2.any fun r => wrongV r.2) = true then 1 else 0

theorem names_nodup {p : List Rout} {i : Nat} (h : ∀ (k : Nat) (b : Rout), k < i → p[k]? = some b → ∀ (j : Nat) (a : Rout), j < k → p[j]? = some a → a.1 ≠ b.1) : ((p.take i).map (·.1)).Nodup := by
  rw [List.Nodup, List.pairwise_iff_getElem]
  intro j k hj hk hjk
  simp only [List.length_map, List.length_take] at hj hk
  simp only [List.getElem_map, List.getElem_take]
  exact h k p[k] (by omega) (List.getElem?_eq_getElem (by omega)) j p[j] hjk (List.getElem?_eq_getElem (by omega))
theorem not_in {p : List Rout} {i : Nat} {r : Rout} (hr : p[i]? = some r) (h : r.1 ∉ (p.take i).map (·.1)) : ∀ (j : Nat) (a : Rout), j < i → p[j]? = some a → a.1 ≠ r.1 := by
  intro j a hj ha e
  refine h (List.mem_map.2 ⟨a, List.mem_iff_getElem?.2 ⟨j, ?_⟩, e⟩)
  rw [List.getElem?_take_of_lt hj]
  exact ha
theorem take_all {α : Type} {l : List α} {i : Nat} (h : ¬ i < l.length) : l.take i = l := List.take_of_length_le (by omega)

theorem check_d {p : ProgT} {s : Slc} {h : Heap} (hs : ProgOn h s p.2.2) (hb : Bnd p.2.2) {P : AV → Heap → Prop} (hP : ∀ t, P (.int .i64 (checkV p)) t) : CallE KD 38 [pAV p s] h P := by
  refine d38 (by kernel_rfl) ?_
  unfold D38
  obtain ⟨qs, h1, h2, h3⟩ := hs.rows
  unfold checkV at hP
  refine ⟨fun q1 => ⟨fun q2 => ?_, fun q2 => ?_⟩, fun q1 => ?_⟩
  · rw [h1.len, h2] at q2
    rw [q1, q2] at hP
    simp only [Bool.false_eq_true, if_false] at hP
    refine anyR_ok bigV hs.ext hb (fun r q t P hr hq hP => ?_) fun t1 => ⟨_, rfl, fun q3 => ?_, fun q3 => ?_⟩
    · refine d91 (by kernel_rfl) ?_
      unfold D91
      rw [hq.len]
      exact hP _
    · rw [if_pos q3] at hP
      exact hP _
    rw [if_neg (by rw [q3]; simp)] at hP
    refine named_ok fun t2 => ⟨_, rfl, fun q4 => ?_, fun q4 => ?_⟩
    · rw [if_neg (by rw [ntF q4]; simp)] at hP
      refine anyR_ok (fun r => !nmV r.1) hs.ext hb (fun r q t P hr hq hP => ?_) fun t3 => ⟨_, rfl, fun q5 => ?_, fun q5 => ?_⟩
      · refine d93 (by kernel_rfl) ?_
        unfold D93
        exact named_ok fun t' => ⟨_, rfl, hP _⟩
      · rw [if_pos q5] at hP
        exact hP _
      rw [if_neg (by rw [q5]; simp)] at hP
      rw [h1.len, h2]
      have hlen := hb.len
      refine ⟨fun (m : Nat) (x : Int) (c : List (AV × AV)) (t : Heap) => ∃ i : Nat, x = (i : Int) ∧ m + i = p.2.2.length ∧ c = kvL ((p.2.2.take i).map (·.1)) ∧ ∀ (k : Nat) (b : Rout), k < i → p.2.2[k]? = some b → ∀ (j : Nat) (a : Rout), j < k → p.2.2[j]? = some a → a.1 ≠ b.1, ⟨p.2.2.length, 0, rfl, rfl, rfl, fun j c hj => absurd hj (Nat.not_lt_zero j)⟩, ?_⟩
      rintro m _ _ t4 ⟨i, rfl, hm, rfl, hall⟩
      refine ⟨fun hc => ?_, fun hc => ?_⟩
      · simp only [decide_eq_true_eq] at hc
        have hi : i < p.2.2.length := by omega
        obtain ⟨r, hr⟩ := lt_len rfl hi
        obtain ⟨q, hq⟩ := lt_len h2.symm hi
        obtain ⟨k1, k2⟩ := h3 i q r hq hr
        refine ⟨⟨by omega, by omega⟩, q.1, q.2, by have := h1.agg hq; simpa [encR] using this, ?_⟩
        rw [k1]
        refine ⟨decide (r.1 ∈ (p.2.2.take i).map (·.1)), ⟨_, rfl, find_kv _ _, ?_⟩, fun q6 => ?_, fun q6 => ?_⟩
        · by_cases hmem : r.1 ∈ (p.2.2.take i).map (·.1)
          · simp only [hmem, decide_true, if_true, Bool.false_eq_true, if_false, Option.getD_some]
          · simp only [hmem, decide_false, if_false, Bool.false_eq_true, Option.getD_none]
        · simp only [decide_eq_true_eq] at q6
          obtain ⟨a, ha, e⟩ := List.mem_map.1 q6
          obtain ⟨j, hj⟩ := List.mem_iff_getElem?.1 ha
          have hjl := (List.getElem?_eq_some_iff.1 hj).1
          rw [List.length_take] at hjl
          rw [List.getElem?_take_of_lt (by omega)] at hj
          rw [if_pos (dup_yes (show j < i by omega) hj hr e)] at hP
          exact hP _
        · simp only [decide_eq_false_iff_not] at q6
          refine ⟨_, ⟨rfl, set_kv q6⟩, m - 1, by omega, i + 1, wrap_succ (by omega), by omega, ?_, fun k b hk hb' => ?_⟩
          · rw [List.take_add_one, hr]
            simp
          · rcases Nat.lt_or_ge k i with h' | h'
            · exact hall k b h' hb'
            · obtain rfl : k = i := by omega
              rw [hr] at hb'
              cases hb'
              exact not_in hr q6
      · simp only [decide_eq_false_iff_not] at hc
        have hnd := names_nodup hall
        rw [take_all (by omega)] at hnd ⊢
        rw [if_neg (by rw [dup_no fun k b hb' => hall k b (by have := (List.getElem?_eq_some_iff.1 hb').1; omega) hb']; simp)] at hP
        refine ⟨_, ⟨rfl, del_kv (w := startW) _⟩, fun q7 => ⟨fun q8 => ?_, fun q8 => ?_⟩, fun q7 => ?_⟩
        · rw [if_neg (by rw [q7]; simp)] at hP
          have e : (p.2.2.all fun r => r.1 == startW) = false := by
            cases ha : p.2.2.all fun r => r.1 == startW with
            | false => rfl
            | true =>
              exfalso
              rw [List.all_eq_true] at ha
              have : (p.2.2.map (·.1)).erase startW = [] := by
                rw [hnd.erase_eq_filter, List.filter_eq_nil_iff]
                intro x hx
                obtain ⟨r, hr, rfl⟩ := List.mem_map.1 hx
                have := ha r hr
                simp only [beq_iff_eq] at this
                simp [this]
              rw [this] at q8
              simp [kvL] at q8
          rw [if_neg (by rw [e]; simp)] at hP
          refine anyR_ok (fun r => wrongV r.2) hs.ext hb (fun r q t P hr hq hP => wrong_ok (r := r) hq (hb.code r hr) hP) fun t5 => ⟨_, rfl, fun q9 => ?_, fun q9 => ?_⟩
          · rw [if_pos q9] at hP
            exact hP _
          · rw [if_neg (by rw [q9]; simp)] at hP
            exact hP _
        · rw [if_neg (by rw [q7]; simp)] at hP
          have e : (p.2.2.all fun r => r.1 == startW) = true := by
            rw [List.all_eq_true]
            intro r hr
            have h0 : (p.2.2.map (·.1)).erase startW = [] := by
              refine List.eq_nil_of_length_eq_zero ?_
              simp only [kvL, List.length_map, beq_iff_eq] at q8
              omega
            rw [hnd.erase_eq_filter, List.filter_eq_nil_iff] at h0
            have := h0 r.1 (List.mem_map.2 ⟨r, hr, rfl⟩)
            simpa using this
          rw [if_pos e] at hP
          exact hP _
        · rw [if_pos q7] at hP
          exact hP _
    · rw [if_pos (ntT q4)] at hP
      exact hP _
  · rw [h1.len, h2] at q2
    rw [q1, q2] at hP
    exact hP _
  · rw [q1] at hP
    exact hP _
end Go.Proofs.YtifkphfhadimaaaGreatDoor.Mini

