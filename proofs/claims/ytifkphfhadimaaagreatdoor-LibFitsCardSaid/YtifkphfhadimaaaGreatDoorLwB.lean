/- Layer 16: names that are no structure's; the laws LibTable and LibSources. -/
import Derived.Test.YtifkphfhadimaaaGreatDoorLwA
set_option linter.unusedVariables false
set_option linter.unusedSimpArgs false
set_option maxRecDepth 100000
namespace Go.Proofs.YtifkphfhadimaaaGreatDoor.Mini
open Go.Abs

theorem callE_gives {M : Model} {E : EMod} (hE : EOK M E) (k : Nat) {f : Nat} {args : List AV} {v : AV} (ha : AV.flats args = true) (h : gives (evF E k (.call f args) 0 0 []) (.flat v) = true) {g : Heap} {P : AV → Heap → Prop} (hP : ∀ t, P v t) : CallE M f args g P := by
  unfold gives at h
  split at h
  · rename_i v' n r hev
    obtain ⟨rfl, hf⟩ := same_eq _ _ h
    intro Q hQ
    have run := evF_does hE hev g Q (by rw [flat_sh _ _ hf]; exact hQ _ _ (hP _))
    rwa [flats_shs ha] at run
  · cases h

/-- The structure's number of a raw number. -/
def ix (w : Int) : Nat := ((w % 18446744073709551616) % 21).toNat
theorem ix_lt (w : Int) : ix w < 21 := by unfold ix; omega
theorem idx_ix (w : Int) : IntKind.wrap .i64 (Int.tmod (IntKind.wrap .u64 w) (IntKind.wrap .u64 ((21 : Nat) : Int))) = (ix w : Int) := by
  have e1 : IntKind.wrap .u64 ((21 : Nat) : Int) = 21 := by decide
  have e2 : IntKind.wrap .u64 w = w % 18446744073709551616 := by
    have : (2 : Int) ^ 64 = 18446744073709551616 := by decide
    simp only [IntKind.wrap, IntKind.signed, IntKind.bits, Bool.false_and, Bool.false_eq_true, if_false, this]
  rw [e1, e2, Int.tmod_eq_emod_of_nonneg (by omega)]
  have e3 : (2 : Int) ^ 64 = 18446744073709551616 := by decide
  have e4 : (2 : Int) ^ (64 - 1) = 9223372036854775808 := by decide
  simp only [IntKind.wrap, IntKind.signed, IntKind.bits, Bool.true_and, decide_eq_true_eq, e3, e4]
  rw [if_neg (by omega)]
  unfold ix
  omega
theorem nameIx_ok {w : Int} {h : Heap} {P : AV → Heap → Prop} (hP : ∀ t, P (.str (nm (ix w))) t) : CallE K4 26 [.int .i64 w] h P := by
  refine d26 (by kernel_rfl) ?_
  unfold D26
  refine table_ok fun s t hs hl hg => ?_
  have hk := ix_lt w
  refine ⟨s, rfl, ?_⟩
  rw [hl, idx_ix]
  exact ⟨by decide, ⟨by omega, by omega⟩, nm (ix w), by simpa using hg (ix w) hk, hP t⟩

/-! ### A name that is no structure's -/
/-- A row of the program's table, as far as its shape goes. -/
noncomputable def rowShape (s : List UInt8) (c : List AV) : Bool := match c with
  | x :: .str _ :: .int .i64 _ :: .slice _ _ _ :: .int .i64 _ :: .int .i64 _ :: .bool _ :: .bool _ :: .bool _ :: _ => AV.same (.str s) x
  | _ => false
noncomputable def rowsShape (l : List (List UInt8)) : List AV → Bool := @List.rec (List UInt8) (fun _ => List AV → Bool) (fun _ => true) (fun s _ ih c => rowShape s c && ih (dropN c 9)) l
noncomputable def chk75 (v : AV) (n : Nat) (r : List AObj) : Bool := match v with
  | .slice b o m => match ratF n r b with
    | some (.arr c es ro) => Nat.beq o 0 && Nat.beq m 21 && rowsShape nm21 c
    | _ => false
  | _ => false
theorem table75_run : (match evF E4 100000 (.call 75 []) 0 0 [] with
    | some (.val v n r) => chk75 v n r
    | _ => false) = true := by kernel_rfl

theorem rowsShape_get : ∀ {l : List (List UInt8)} {c : List AV}, rowsShape l c = true → ∀ (k : Nat) (s : List UInt8), l[k]? = some s → ∃ x3 x4 b o n x6 x7 x8 x9 x10, (c.drop (k * 9)).take 9 = [.str s, .str x3, .int .i64 x4, .slice b o n, .int .i64 x6, .int .i64 x7, .bool x8, .bool x9, .bool x10] ∧ k * 9 + 9 ≤ c.length
  | [], c, h, k, s, hk => by simp at hk
  | x :: l, c, h, k, s, hk => by
    have e : rowsShape (x :: l) c = (rowShape x c && rowsShape l (dropN c 9)) := rfl
    rw [e, Bool.and_eq_true, dropN_eq] at h
    cases k with
    | zero =>
      simp only [List.getElem?_cons_zero, Option.some.injEq] at hk
      subst hk
      have h1 := h.1
      unfold rowShape at h1
      split at h1
      · have := (same_eq _ _ h1).1
        subst this
        exact ⟨_, _, _, _, _, _, _, _, _, _, by simp; exact ⟨rfl, rfl, ⟨rfl, rfl, rfl⟩, rfl, rfl, rfl, rfl, rfl⟩, by simp⟩
      · cases h1
    | succ k =>
      obtain ⟨x3, x4, b, o, n, x6, x7, x8, x9, x10, h1, h2⟩ := rowsShape_get h.2 k s (by simpa using hk)
      refine ⟨x3, x4, b, o, n, x6, x7, x8, x9, x10, ?_, ?_⟩
      · rw [← h1, List.drop_drop]
        congr 2
        omega
      · simp at h2
        omega

theorem table75_ok {h : Heap} {P : AV → Heap → Prop} (hP : ∀ (s : Slc) t, s.nil = false → s.len = 21 → (∀ k, k < 21 → ∃ (x3 : List UInt8) (x4 : Int) (x5 : Slc) (x6 x7 : Int) (x8 x9 x10 : Bool), rdVar (h ++ t) (some 9) s.b (s.o + k * 9) = some (.agg [(.str (nm k)), (.str x3), (.int .i64 x4), x5.av, (.int .i64 x6), (.int .i64 x7), (.bool x8), (.bool x9), (.bool x10)])) → P s.av t) : CallE K4 75 [] h P := by
  refine callE_ev (f := 75) (args := []) (chk := chk75) eok4 100000 (by kernel_rfl) table75_run fun v n r hc hn => ?_
  unfold chk75 at hc
  split at hc
  · rename_i b o m
    rw [ratF_eq] at hc
    split at hc
    · rename_i c es ro hx
      simp only [Bool.and_eq_true] at hc
      obtain ⟨⟨h1, h2⟩, h3⟩ := hc
      have h1 := Nat.eq_of_beq_eq_true h1
      have h2 := Nat.eq_of_beq_eq_true h2
      subst h1 h2
      refine hP ⟨b + h.length, 0, 21, false⟩ _ rfl rfl fun k hk => ?_
      obtain ⟨x3, x4, b', o', n', x6, x7, x8, x9, x10, e1, e2⟩ := rowsShape_get h3 k _ (nm_get hk)
      refine ⟨x3, x4, ⟨b' + h.length, o', n', false⟩, x6, x7, x8, x9, x10, ?_⟩
      have hrow := rowEv_at (g := h) hn hx
      simp only [rdVar, rdCells, hrow, Nat.zero_add, List.length_map]
      rw [if_pos e2, ← List.map_drop, ← List.map_take, e1]
      simp [AV.sh, Slc.av]
    · cases hc
  · cases hc

abbrev zeroE : AV := .agg [(.str []), (.str []), (.int .i64 0), .nilslice, (.int .i64 0), (.int .i64 0), (.bool false), (.bool false), (.bool false)]
theorem find_no {name : List UInt8} (hn : ∀ k, k < 21 → nm k ≠ name) {h : Heap} {P : AV → Heap → Prop} (hP : ∀ t, P (.tuple [zeroE, .bool false]) t) : CallE K4 74 [.str name] h P := by
  refine d74 (by kernel_rfl) ?_
  unfold D74
  refine table75_ok fun s t1 hs hl hg => ⟨s, rfl, ?_⟩
  refine d124 (by kernel_rfl) ?_
  unfold D124
  refine ⟨fun n x t => ∃ i : Nat, x = i ∧ n + i = 21, ⟨21, 0, rfl, rfl⟩, ?_⟩
  rintro n x t ⟨i, rfl, hi⟩
  rw [hl]
  refine ⟨fun hc => ?_, fun hc => ⟨-1, rfl, fun _ => hP _, fun h0 => by simp at h0⟩⟩
  simp only [decide_eq_true_eq] at hc
  have hi' : i < 21 := by omega
  obtain ⟨x3, x4, x5, x6, x7, x8, x9, x10, hr⟩ := hg i hi'
  refine ⟨⟨by omega, by omega⟩, nm i, x3, x4, x5, x6, x7, x8, x9, x10, by simpa using hr, ?_⟩
  refine d125 (by kernel_rfl) ?_
  unfold D125
  refine ⟨name, ?_, _, rfl, fun hb => ?_, fun _ => ⟨n - 1, by omega, i + 1, wrap_succ (by omega), by omega⟩⟩
  · refine rdVar_at (c := [.str name]) (es := 1) (ro := false) ?_ rfl
    simp
  · exact absurd (by simpa using hb) (hn i hi')

abbrev nilS : Slc := ⟨0, 0, 0, true⟩
section
variable {name : List UInt8} (hn : ∀ k, k < 21 → nm k ≠ name) {h : Heap} {P : AV → Heap → Prop}
include hn
theorem source_no (hP : ∀ t, P (.tuple [.str [], .int .i64 5]) t) : CallE K4 29 [.str name] h P := by
  refine d29 (by kernel_rfl) ?_
  unfold D29
  exact find_no hn fun t => ⟨[], [], 0, nilS, 0, 0, false, false, false, false, rfl, fun _ => hP _, fun hb => by simp at hb⟩
theorem rule_no (hP : ∀ t, P (.tuple [.int .i64 0, .int .i64 5]) t) : CallE K4 41 [.str name] h P := by
  refine d41 (by kernel_rfl) ?_
  unfold D41
  exact find_no hn fun t => ⟨[], [], 0, nilS, 0, 0, false, false, false, false, rfl, fun _ => hP _, fun hb => by simp at hb⟩
theorem range_no (hP : ∀ t, P (.tuple [.int .i64 0, .int .i64 0, .int .i64 5]) t) : CallE K4 42 [.str name] h P := by
  refine d42 (by kernel_rfl) ?_
  unfold D42
  exact find_no hn fun t => ⟨[], [], 0, nilS, 0, 0, false, false, false, false, rfl, fun _ => hP _, fun hb => by simp at hb⟩
theorem safe_no (hP : ∀ t, P (.tuple [.bool false, .int .i64 5]) t) : CallE K4 43 [.str name] h P := by
  refine d43 (by kernel_rfl) ?_
  unfold D43
  exact find_no hn fun t => ⟨[], [], 0, nilS, 0, 0, false, false, false, false, rfl, fun _ => hP _, fun hb => by simp at hb⟩
theorem strict_no (hP : ∀ t, P (.tuple [.bool false, .int .i64 5]) t) : CallE K4 44 [.str name] h P := by
  refine d44 (by kernel_rfl) ?_
  unfold D44
  exact find_no hn fun t => ⟨[], [], 0, nilS, 0, 0, false, false, false, false, rfl, fun _ => hP _, fun hb => by simp at hb⟩
theorem points_no (hP : ∀ t, P (.tuple [.bool false, .int .i64 5]) t) : CallE K4 45 [.str name] h P := by
  refine d45 (by kernel_rfl) ?_
  unfold D45
  exact find_no hn fun t => ⟨[], [], 0, nilS, 0, 0, false, false, false, false, rfl, fun _ => hP _, fun hb => by simp at hb⟩
theorem calls_no (hP : ∀ t, P (.tuple [.nilslice, .int .i64 5]) t) : CallE K4 34 [.str name] h P := by
  refine d34 (by kernel_rfl) ?_
  unfold D34
  exact find_no hn fun t => ⟨[], [], 0, nilS, 0, 0, false, false, false, false, rfl, fun _ => hP _, fun hb => by simp at hb⟩
abbrev zeroR : AV := .agg [(.str []), (.int .i64 0), .nilslice, (.int .i64 0), (.int .i64 0), (.bool false), (.bool false)]
theorem refFind_no (hP : ∀ t, P (.tuple [zeroR, .bool false]) t) : CallE K4 31 [.str name] h P := by
  refine d31 (by kernel_rfl) ?_
  unfold D31
  refine table_ok fun s t1 hs hl hg => ⟨s, rfl, ?_⟩
  refine ⟨fun n x c1 c2 c3 c4 c5 c6 c7 t => ∃ i : Nat, x = i ∧ n + i = 21 ∧ c1 = [] ∧ c2 = 0 ∧ c3 = nilS ∧ c4 = 0 ∧ c5 = 0 ∧ c6 = false ∧ c7 = false, ⟨21, 0, rfl, rfl, rfl, rfl, rfl, rfl, rfl, rfl, rfl⟩, ?_⟩
  rintro n x c1 c2 c3 c4 c5 c6 c7 t ⟨i, rfl, hi, rfl, rfl, rfl, rfl, rfl, rfl, rfl⟩
  rw [hl]
  refine ⟨fun hc => ?_, fun hc => hP _⟩
  simp only [decide_eq_true_eq] at hc
  have hi' : i < 21 := by omega
  refine ⟨⟨by omega, by omega⟩, nm i, ?_, fun hb => absurd (by simpa using hb) (hn i hi'), fun _ => ⟨n - 1, by omega, i + 1, wrap_succ (by omega), by omega, rfl, rfl, rfl, rfl, rfl, rfl, rfl⟩⟩
  exact (show Ext ((h ++ [AObj.arr [(.str []), (.int .i64 0), .nilslice, (.int .i64 0), (.int .i64 0), (.bool false), (.bool false)] 7 false]) ++ t1) (h ++ (AObj.arr [(.str []), (.int .i64 0), .nilslice, (.int .i64 0), (.int .i64 0), (.bool false), (.bool false)] 7 false :: (t1 ++ t))) from ⟨t, by simp⟩).rdVar (by simpa using hg i hi')
theorem refSource_no (hP : ∀ t, P (.str []) t) : CallE K4 30 [.str name] h P := by
  refine d30 (s := src30) (by kernel_rfl) ?_
  have hne : ∀ k, k < 21 → (name == nm k) = false := fun k hk => beq_eq_false_iff_ne.2 fun e => hn k hk e.symm
  unfold D30
  refine ⟨fun hb => absurd hb (by rw [show (name == [115, 116, 97, 99, 107]) = false from hne 0 (by decide)]; decide), fun _ => ⟨fun hb => absurd hb (by rw [show (name == [101, 108, 105, 109]) = false from hne 1 (by decide)]; decide), fun _ => ⟨fun hb => absurd hb (by rw [show (name == [113, 117, 101, 117, 101]) = false from hne 2 (by decide)]; decide), fun _ => ⟨fun hb => absurd hb (by rw [show (name == [114, 105, 110, 103]) = false from hne 3 (by decide)]; decide), fun _ => ⟨fun hb => absurd hb (by rw [show (name == [100, 101, 113, 117, 101]) = false from hne 4 (by decide)]; decide), fun _ => ⟨fun hb => absurd hb (by rw [show (name == [112, 113]) = false from hne 5 (by decide)]; decide), fun _ => ⟨fun hb => absurd hb (by rw [show (name == [108, 97, 110, 101, 115]) = false from hne 6 (by decide)]; decide), fun _ => ⟨fun hb => absurd hb (by rw [show (name == [108, 105, 115, 116]) = false from hne 7 (by decide)]; decide), fun _ => ⟨fun hb => absurd hb (by rw [show (name == [115, 107, 105, 112]) = false from hne 8 (by decide)]; decide), fun _ => ⟨fun hb => absurd hb (by rw [show (name == [116, 114, 101, 101]) = false from hne 9 (by decide)]; decide), fun _ => ⟨fun hb => absurd hb (by rw [show (name == [116, 114, 105, 101]) = false from hne 10 (by decide)]; decide), fun _ => ⟨fun hb => absurd hb (by rw [show (name == [104, 97, 115, 104]) = false from hne 11 (by decide)]; decide), fun _ => ⟨fun hb => absurd hb (by rw [show (name == [110, 101, 116]) = false from hne 12 (by decide)]; decide), fun _ => ⟨fun hb => absurd hb (by rw [show (name == [119, 105, 100, 101]) = false from hne 13 (by decide)]; decide), fun _ => ⟨fun hb => absurd hb (by rw [show (name == [115, 110, 97, 112]) = false from hne 14 (by decide)]; decide), fun _ => ⟨fun hb => absurd hb (by rw [show (name == [117, 110, 105, 111, 110]) = false from hne 15 (by decide)]; decide), fun _ => ⟨fun hb => absurd hb (by rw [show (name == [112, 97, 105, 114]) = false from hne 16 (by decide)]; decide), fun _ => ⟨fun hb => absurd hb (by rw [show (name == [117, 110, 105]) = false from hne 17 (by decide)]; decide), fun _ => ⟨fun hb => absurd hb (by rw [show (name == [116, 119, 105, 110]) = false from hne 18 (by decide)]; decide), fun _ => ⟨fun hb => absurd hb (by rw [show (name == [116, 97, 108, 108, 121]) = false from hne 19 (by decide)]; decide), fun _ => ⟨fun hb => absurd hb (by rw [show (name == [98, 97, 114, 101]) = false from hne 20 (by decide)]; decide), fun _ => hP _⟩⟩⟩⟩⟩⟩⟩⟩⟩⟩⟩⟩⟩⟩⟩⟩⟩⟩⟩⟩⟩

theorem libTable_no (hP : ∀ t, P (.bool true) t) : CallE K4 10 [.str name] h P := by
  refine d10 (by kernel_rfl) ?_
  unfold D10
  refine awake4 ⟨true, rfl, fun hb => by simp at hb, fun _ => ?_⟩
  refine refFind_no hn fun t2 => ⟨[], 0, nilS, 0, 0, false, false, false, rfl, ?_⟩
  refine rule_no hn fun t3 => ⟨0, 5, rfl, ?_⟩
  refine range_no hn fun t4 => ⟨0, 0, 5, rfl, ?_⟩
  refine safe_no hn fun t5 => ⟨false, 5, rfl, ?_⟩
  refine strict_no hn fun t6 => ⟨false, 5, rfl, ?_⟩
  refine points_no hn fun t7 => ⟨false, 5, rfl, ?_⟩
  refine calls_no hn fun t8 => ⟨nilS, 5, rfl, ?_⟩
  refine ⟨fun w t => w = 5, ⟨fun _ => rfl, fun hb => by simp at hb⟩, ?_⟩
  rintro w t9 rfl
  refine ⟨fun _ => ⟨fun _ => ⟨fun _ => ⟨fun _ => ⟨fun _ => ⟨fun _ => ⟨fun hb => by simp [Slc.len] at hb, fun _ => ?_⟩, fun hb => by simp at hb⟩, fun hb => by simp at hb⟩, fun hb => by simp at hb⟩, fun hb => by simp at hb⟩, fun hb => by simp at hb⟩, fun hb => by simp at hb⟩
  refine ⟨fun n k t => k = 0, ⟨0, rfl⟩, ?_⟩
  rintro n k t10 rfl
  refine ⟨fun hb => by simp [Slc.len] at hb, fun _ => ?_⟩
  refine ⟨fun _ => ⟨fun _ => ⟨fun _ => ⟨fun hb => (by cases hb), fun _ => ⟨fun _ => ⟨fun _ => hP _, fun hb => by simp at hb⟩, fun hb => by simp at hb⟩⟩, fun hb => by simp at hb⟩, fun hb => by simp at hb⟩, fun hb => by simp at hb⟩
end

theorem known_or (name : List UInt8) : (∃ k, k < 21 ∧ nm k = name) ∨ ∀ k, k < 21 → nm k ≠ name := by
  by_cases h : ∃ k, k < 21 ∧ nm k = name
  · exact .inl h
  · exact .inr fun k hk e => h ⟨k, hk, e⟩

theorem libTable_ok {name : List UInt8} {h : Heap} {P : AV → Heap → Prop} (hP : ∀ t, P (.bool true) t) : CallE K4 10 [.str name] h P := by
  rcases known_or name with ⟨k, hk, rfl⟩ | hn
  · exact callE_flat (libTable_known k hk) (hP _)
  · exact libTable_no hn hP

/-! ### The sources -/
theorem src_all : ((List.range 21).all fun k => gives (evF E4 100000 (.call 29 [.str (nm k)]) 0 0 []) (.flat (.tuple [.str (src75 k), .int .i64 0]))) = true := by kernel_rfl
theorem refsrc_all : ((List.range 21).all fun k => gives (evF E4 100000 (.call 30 [.str (nm k)]) 0 0 []) (.flat (.str (src75 k)))) = true := by kernel_rfl
theorem src_full : ((List.range 21).all fun k => match src75 k with
    | [] => false
    | _ => true) = true := by kernel_rfl
theorem src_ne {k : Nat} (hk : k < 21) : src75 k ≠ [] := by
  have := List.all_eq_true.1 src_full k (List.mem_range.2 hk)
  intro e
  rw [e] at this
  cases this
theorem source_known {k : Nat} (hk : k < 21) {h : Heap} {P : AV → Heap → Prop} (hP : ∀ t, P (.tuple [.str (src75 k), .int .i64 0]) t) : CallE K4 29 [.str (nm k)] h P :=
  callE_gives eok4 100000 rfl (List.all_eq_true.1 src_all k (List.mem_range.2 hk)) hP
theorem refSource_known {k : Nat} (hk : k < 21) {h : Heap} {P : AV → Heap → Prop} (hP : ∀ t, P (.str (src75 k)) t) : CallE K4 30 [.str (nm k)] h P :=
  callE_gives eok4 100000 rfl (List.all_eq_true.1 refsrc_all k (List.mem_range.2 hk)) hP

theorem libSources_ok {w : Int} {name : List UInt8} {h : Heap} {P : AV → Heap → Prop} (hP : ∀ t, P (.bool true) t) : CallE K4 5 [.int .i64 w, .str name] h P := by
  refine d5 (by kernel_rfl) ?_
  unfold D5
  refine awake4 ⟨true, rfl, fun hb => by simp at hb, fun _ => ?_⟩
  refine nameIx_ok fun t2 => ⟨_, rfl, ?_⟩
  refine source_known (ix_lt w) fun t3 => ⟨_, _, rfl, ?_⟩
  rcases known_or name with ⟨k, hk, rfl⟩ | hn
  · refine source_known hk fun t4 => ⟨_, _, rfl, ?_⟩
    refine refSource_known hk fun t5 => ⟨_, rfl, fun hb => absurd (by simpa using hb) (src_ne hk), fun _ => ?_⟩
    refine nameIx_ok fun t8 => ⟨_, rfl, ?_⟩
    refine refSource_known (ix_lt w) fun t9 => ⟨_, rfl, fun _ => ⟨fun _ => ⟨fun _ => hP _, fun hb => by simp at hb⟩, fun hb => by simp at hb⟩, fun hb => by simp at hb⟩
  · refine source_no hn fun t4 => ⟨_, _, rfl, ?_⟩
    refine refSource_no hn fun t5 => ⟨_, rfl, fun _ => ?_, fun hb => by simp at hb⟩
    refine nameIx_ok fun t6 => ⟨_, rfl, ?_⟩
    refine refSource_known (ix_lt w) fun t7 => ⟨_, rfl, fun _ => ⟨fun _ => ⟨fun _ => hP _, fun hb => by simp at hb⟩, fun hb => by simp at hb⟩, fun hb => by simp at hb⟩
end Go.Proofs.YtifkphfhadimaaaGreatDoor.Mini
