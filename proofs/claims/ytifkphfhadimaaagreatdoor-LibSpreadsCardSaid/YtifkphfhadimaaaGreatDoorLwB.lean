/- Layer 16: names that are no structure's; the laws LibTable and LibSources. -/
import Derived.Test.YtifkphfhadimaaaGreatDoorLwA
set_option linter.unusedVariables false
set_option linter.unusedSimpArgs false
set_option maxRecDepth 100000
namespace Go.Proofs.YtifkphfhadimaaaGreatDoor.Mini
open Go.Abs

/-! ### A name that is no structure's -/
/-- A row of the program's table, as far as its shape goes. -/
noncomputable def rowShape (s : List UInt8) (c : List AV) : Bool := match c with
  | x :: .str _ :: .int .i64 _ :: .slice _ _ _ :: .int .i64 _ :: .int .i64 _ :: .bool _ :: .bool _ :: .bool _ :: _ => AV.same (.str s) x
  | _ => false
noncomputable def rowsShape (l : List (List UInt8)) : List AV → Bool := @List.rec (List UInt8) (fun _ => List AV → Bool) (fun _ => true) (fun s _ ih c => rowShape s c && ih (dropN c 9)) l
noncomputable def chk75 (v : AV) (n : Nat) (r : List AObj) : Bool := match v with
  | .slice b o m => match ratF n r b with
    | some (.arr c es ro) => Nat.beq o 0 && Nat.beq m 21 && rowsShape nm21 c
    | _ => false
  | _ => false
theorem table75_run : (match evF E4 100000 (.call 75 []) 0 0 [] with
    | some (.val v n r) => chk75 v n r
    | _ => false) = true := by kernel_rfl

theorem rowsShape_get : ∀ {l : List (List UInt8)} {c : List AV}, rowsShape l c = true → ∀ (k : Nat) (s : List UInt8), l[k]? = some s → ∃ x3 x4 b o n x6 x7 x8 x9 x10, (c.drop (k * 9)).take 9 = [.str s, .str x3, .int .i64 x4, .slice b o n, .int .i64 x6, .int .i64 x7, .bool x8, .bool x9, .bool x10] ∧ k * 9 + 9 ≤ c.length
  | [], c, h, k, s, hk => by simp at hk
  | x :: l, c, h, k, s, hk => by
    have e : rowsShape (x :: l) c = (rowShape x c && rowsShape l (dropN c 9)) := rfl
    rw [e, Bool.and_eq_true, dropN_eq] at h
    cases k with
    | zero =>
      simp only [List.getElem?_cons_zero, Option.some.injEq] at hk
      subst hk
      have h1 := h.1
      unfold rowShape at h1
      split at h1
      · have := (same_eq _ _ h1).1
        subst this
        exact ⟨_, _, _, _, _, _, _, _, _, _, by simp; exact ⟨rfl, rfl, ⟨rfl, rfl, rfl⟩, rfl, rfl, rfl, rfl, rfl⟩, by simp⟩
      · cases h1
    | succ k =>
      obtain ⟨x3, x4, b, o, n, x6, x7, x8, x9, x10, h1, h2⟩ := rowsShape_get h.2 k s (by simpa using hk)
      refine ⟨x3, x4, b, o, n, x6, x7, x8, x9, x10, ?_, ?_⟩
      · rw [← h1, List.drop_drop]
        congr 2
        omega
      · simp at h2
        omega

theorem table75_ok {h : Heap} {P : AV → Heap → Prop} (hP : ∀ (s : Slc) t, s.nil = false → s.len = 21 → (∀ k, k < 21 → ∃ (x3 : List UInt8) (x4 : Int) (x5 : Slc) (x6 x7 : Int) (x8 x9 x10 : Bool), rdVar (h ++ t) (some 9) s.b (s.o + k * 9) = some (.agg [(.str (nm k)), (.str x3), (.int .i64 x4), x5.av, (.int .i64 x6), (.int .i64 x7), (.bool x8), (.bool x9), (.bool x10)])) → P s.av t) : CallE K4 75 [] h P := by
  refine callE_ev (f := 75) (args := []) (chk := chk75) eok4 100000 (by kernel_rfl) table75_run fun v n r hc hn => ?_
  unfold chk75 at hc
  split at hc
  · rename_i b o m
    rw [ratF_eq] at hc
    split at hc
    · rename_i c es ro hx
      simp only [Bool.and_eq_true] at hc
      obtain ⟨⟨h1, h2⟩, h3⟩ := hc
      have h1 := Nat.eq_of_beq_eq_true h1
      have h2 := Nat.eq_of_beq_eq_true h2
      subst h1 h2
      refine hP ⟨b + h.length, 0, 21, false⟩ _ rfl rfl fun k hk => ?_
      obtain ⟨x3, x4, b', o', n', x6, x7, x8, x9, x10, e1, e2⟩ := rowsShape_get h3 k _ (nm_get hk)
      refine ⟨x3, x4, ⟨b' + h.length, o', n', false⟩, x6, x7, x8, x9, x10, ?_⟩
      have hrow := rowEv_at (g := h) hn hx
      simp only [rdVar, rdCells, hrow, Nat.zero_add, List.length_map]
      rw [if_pos e2, ← List.map_drop, ← List.map_take, e1]
      simp [AV.sh, Slc.av]
    · cases hc
  · cases hc

abbrev zeroE : AV := .agg [(.str []), (.str []), (.int .i64 0), .nilslice, (.int .i64 0), (.int .i64 0), (.bool false), (.bool false), (.bool false)]
theorem find_no {name : List UInt8} (hn : ∀ k, k < 21 → nm k ≠ name) {h : Heap} {P : AV → Heap → Prop} (hP : ∀ t, P (.tuple [zeroE, .bool false]) t) : CallE K4 74 [.str name] h P := by
  refine d74 (by kernel_rfl) ?_
  unfold D74
  refine table75_ok fun s t1 hs hl hg => ⟨s, rfl, ?_⟩
  refine d124 (by kernel_rfl) ?_
  unfold D124
  refine ⟨fun n x t => ∃ i : Nat, x = i ∧ n + i = 21, ⟨21, 0, rfl, rfl⟩, ?_⟩
  rintro n x t ⟨i, rfl, hi⟩
  rw [hl]
  refine ⟨fun hc => ?_, fun hc => ⟨-1, rfl, fun _ => hP _, fun h0 => by simp at h0⟩⟩
  simp only [decide_eq_true_eq] at hc
  have hi' : i < 21 := by omega
  obtain ⟨x3, x4, x5, x6, x7, x8, x9, x10, hr⟩ := hg i hi'
  refine ⟨⟨by omega, by omega⟩, nm i, x3, x4, x5, x6, x7, x8, x9, x10, by simpa using hr, ?_⟩
  refine d125 (by kernel_rfl) ?_
  unfold D125
  refine ⟨name, ?_, _, rfl, fun hb => ?_, fun _ => ⟨n - 1, by omega, i + 1, wrap_succ (by omega), by omega⟩⟩
  · refine rdVar_at (c := [.str name]) (es := 1) (ro := false) ?_ rfl
    simp
  · exact absurd (by simpa using hb) (hn i hi')

abbrev nilS : Slc := ⟨0, 0, 0, true⟩
section
variable {name : List UInt8} (hn : ∀ k, k < 21 → nm k ≠ name) {h : Heap} {P : AV → Heap → Prop}
include hn
abbrev zeroR : AV := .agg [(.str []), (.int .i64 0), .nilslice, (.int .i64 0), (.int .i64 0), (.bool false), (.bool false)]
theorem refFind_no (hP : ∀ t, P (.tuple [zeroR, .bool false]) t) : CallE K4 31 [.str name] h P := by
  refine d31 (by kernel_rfl) ?_
  unfold D31
  refine table_ok fun s t1 hs hl hg => ⟨s, rfl, ?_⟩
  refine ⟨fun n x c1 c2 c3 c4 c5 c6 c7 t => ∃ i : Nat, x = i ∧ n + i = 21 ∧ c1 = [] ∧ c2 = 0 ∧ c3 = nilS ∧ c4 = 0 ∧ c5 = 0 ∧ c6 = false ∧ c7 = false, ⟨21, 0, rfl, rfl, rfl, rfl, rfl, rfl, rfl, rfl, rfl⟩, ?_⟩
  rintro n x c1 c2 c3 c4 c5 c6 c7 t ⟨i, rfl, hi, rfl, rfl, rfl, rfl, rfl, rfl, rfl⟩
  rw [hl]
  refine ⟨fun hc => ?_, fun hc => hP _⟩
  simp only [decide_eq_true_eq] at hc
  have hi' : i < 21 := by omega
  refine ⟨⟨by omega, by omega⟩, nm i, ?_, fun hb => absurd (by simpa using hb) (hn i hi'), fun _ => ⟨n - 1, by omega, i + 1, wrap_succ (by omega), by omega, rfl, rfl, rfl, rfl, rfl, rfl, rfl⟩⟩
  exact (show Ext ((h ++ [AObj.arr [(.str []), (.int .i64 0), .nilslice, (.int .i64 0), (.int .i64 0), (.bool false), (.bool false)] 7 false]) ++ t1) (h ++ (AObj.arr [(.str []), (.int .i64 0), .nilslice, (.int .i64 0), (.int .i64 0), (.bool false), (.bool false)] 7 false :: (t1 ++ t))) from ⟨t, by simp⟩).rdVar (by simpa using hg i hi')
end

theorem known_or (name : List UInt8) : (∃ k, k < 21 ∧ nm k = name) ∨ ∀ k, k < 21 → nm k ≠ name := by
  by_cases h : ∃ k, k < 21 ∧ nm k = name
  · exact .inl h
  · exact .inr fun k hk e => h ⟨k, hk, e⟩

/-! ### The sources -/
end Go.Proofs.YtifkphfhadimaaaGreatDoor.Mini

