import Derived.Test.YtcjhjphmlfkikaaDoorAbsG11
import Derived.Test.YtcjhjphmlfkikaaDoorProg
import Derived.KernelRfl
set_option linter.unusedVariables false
set_option linter.unusedSimpArgs false
namespace Go.Proofs.YtcjhjphmlfkikaaDoor.Mini
open Go.Abs Go.RowKit Go.Lib

theorem sizeB : (Tryd.prog.info? 96).map (·.size) = some 2 := by kernel_rfl
theorem liesB : liesAt Tryd.prog Tryd.prog.depth 96 (2 / Tryd.prog.cellsOf 96) 0 96 1 = true := by kernel_rfl
theorem infoU : (Tryd.prog.info? 5).map (fun i => (i.zero, i.size, i.bytes)) = some (some (.int .u8 0), 1, 1) := by kernel_rfl
theorem cellsU : Tryd.prog.cellsOf 5 = 1 := by kernel_rfl
theorem infoU' : ∃ i, Tryd.prog.info? 5 = some i ∧ i.zero = some (.int .u8 0) ∧ i.size = 1 ∧ i.bytes = 1 := by
  obtain ⟨i, h1, h2⟩ := Option.map_eq_some_iff.1 infoU
  simp only [Prod.mk.injEq] at h2
  exact ⟨i, h1, h2⟩

set_option maxHeartbeats 1000000 in
set_option maxRecDepth 100000 in
theorem copyUsed (b : Nat) (w : World) (h0 : w.cell? ⟨b, 0, none⟩ = some (.pointer (some ⟨b, 0, none⟩))) :
    Calls Tryd.prog 82 #[.pointer (some ⟨b, 0, none⟩)] w fun e w' => e = .returned (.tuple #[]) ∧ w' = w := by
  obtain ⟨j, hj, _⟩ := Option.map_eq_some_iff.1 sizeB
  have mixed : Tryd.prog.follows .mixedOrders = true := by kernel_rfl
  have t96 := Tryd.underlying96; have a96 := Tryd.isAgg96; have z96 := Tryd.sizeOf96; have v96 := Tryd.zeroValue96; have u96 := run_underlying Tryd.underlying96
  have t93 := Tryd.underlying93; have a93 := Tryd.isAgg93; have z93 := Tryd.sizeOf93; have v93 := Tryd.zeroValue93; have u93 := run_underlying Tryd.underlying93
  have t4 := Tryd.underlying4; have a4 := Tryd.isAgg4; have z4 := Tryd.sizeOf4; have v4 := Tryd.zeroValue4; have u4 := run_underlying Tryd.underlying4
  have t129 := Tryd.underlying129; have a129 := Tryd.isAgg129; have z129 := Tryd.sizeOf129; have v129 := Tryd.zeroValue129; have u129 := run_underlying Tryd.underlying129
  go_enter Tryd.func82, Tryd.ntmps82
  go_wp2
  rw [Lib.run_neq_ptr_same w _ Tryd.underlying93 hj]
  go_wp2
  go_end0
  exact ⟨rfl, rfl⟩

set_option maxHeartbeats 1000000 in
set_option maxRecDepth 100000 in
theorem copyFresh (b : Nat) (w : World) (h0 : w.cell? ⟨b, 0, none⟩ = some (.pointer none)) (hsh : w.shape? b = some (96, 2)) (hfz : w.frozen? ⟨b, 0, none⟩ = false) :
    Calls Tryd.prog 82 #[.pointer (some ⟨b, 0, none⟩)] w fun e w' => e = .returned (.tuple #[]) ∧ w' = w.setCell ⟨b, 0, none⟩ (.pointer (some ⟨b, 0, none⟩)) := by
  obtain ⟨j, hj, hjs⟩ := Option.map_eq_some_iff.1 sizeB
  have mixed : Tryd.prog.follows .mixedOrders = true := by kernel_rfl
  have t96 := Tryd.underlying96; have a96 := Tryd.isAgg96; have z96 := Tryd.sizeOf96; have v96 := Tryd.zeroValue96; have u96 := run_underlying Tryd.underlying96
  have t93 := Tryd.underlying93; have a93 := Tryd.isAgg93; have z93 := Tryd.sizeOf93; have v93 := Tryd.zeroValue93; have u93 := run_underlying Tryd.underlying93
  have t4 := Tryd.underlying4; have a4 := Tryd.isAgg4; have z4 := Tryd.sizeOf4; have v4 := Tryd.zeroValue4; have u4 := run_underlying Tryd.underlying4
  have t129 := Tryd.underlying129; have a129 := Tryd.isAgg129; have z129 := Tryd.sizeOf129; have v129 := Tryd.zeroValue129; have u129 := run_underlying Tryd.underlying129
  go_enter Tryd.func82, Tryd.ntmps82
  go_wp2
  rw [Lib.run_to_unsafe w ⟨b, 0, none⟩ Tryd.underlying93 Tryd.underlying129 hj (by rw [hjs]; decide) hsh (Nat.zero_lt_succ 1)]
  simp only [Result.andThen]
  rw [Oper.upon_value]
  go_wp2
  rw [run_callFunc_extern Tryd.func103 (by kernel_rfl) (by kernel_rfl) (by kernel_rfl) (e := Extern.AbiNoEscape.same) (by kernel_rfl)]
  rw [Lib.run_noEscape]
  simp only [Result.andThen]
  rw [Oper.upon_value]
  go_wp2
  rw [Lib.run_from_unsafe w ⟨b, 0, none⟩ Tryd.underlying129 Tryd.underlying93 hj hsh liesB]
  simp only [Result.andThen]
  rw [Oper.upon_value]
  go_wp2
  go_end0
  exact ⟨rfl, rfl⟩

theorem copyCheck3 (b : Nat) (p v : Value) (w : World) (hb : w.heap[b]? = some (.cells #[p, v] 96 (0, 0))) (hp : p = .pointer none ∨ p = .pointer (some ⟨b, 0, none⟩)) :
    Calls Tryd.prog 82 #[.pointer (some ⟨b, 0, none⟩)] w fun e w' => e = .returned (.tuple #[]) ∧ w'.heap[b]? = some (.cells #[.pointer (some ⟨b, 0, none⟩), v] 96 (0, 0)) ∧ w'.heap.size = w.heap.size ∧ Turns w w' (· = b) := by
  have c0 : w.cell? ⟨b, 0, none⟩ = some p := by rw [Lib.cell_of_heap hb]; rfl
  rcases hp with rfl | rfl
  · refine (copyFresh b w c0 (by simp [World.shape?, hb]) (Lib.frozen_of_heap hb 0)).mono ?_
    rintro e w' ⟨rfl, rfl⟩
    refine ⟨rfl, ?_, by simp [World.setCell], Turns.setCell _ _ _ _⟩
    simp [World.setCell, Array.getElem?_modify, hb]
  · refine (copyUsed b w c0).mono ?_
    rintro e w' ⟨rfl, rfl⟩
    exact ⟨rfl, hb, rfl, Turns.refl _ _⟩

set_option maxHeartbeats 2000000 in
set_option maxRecDepth 100000 in
theorem write3 (b : Nat) (p v : Value) (xs : List Value) (s : ByteArray) (w : World) (hs0 : s.size ≠ 0) (hb : w.heap[b]? = some (.cells #[p, v] 96 (0, 0))) (hp : p = .pointer none ∨ p = .pointer (some ⟨b, 0, none⟩))
    (hown : w.ownsRow 0 5 1 v xs.length xs) (hlen : xs.length + s.size ≤ 140737488355328) :
    Calls Tryd.prog 69 #[.pointer (some ⟨b, 0, none⟩), .string s] w fun e w' => e = .returned (.tuple #[.int .i64 s.size, .nilIface]) ∧ ∃ v', w'.heap[b]? = some (.cells #[.pointer (some ⟨b, 0, none⟩), v'] 96 (0, 0)) ∧
      w'.ownsRow 0 5 1 v' (xs.length + s.size) (xs ++ Lib.strCells s) ∧ ((v'.ownBlock = v.ownBlock ∧ w'.heap.size = w.heap.size) ∨ v'.ownBlock = some w.heap.size) ∧ Turns w w' fun k => k = b ∨ v.ownBlock = some k := by
  obtain ⟨i0, hi, hz0, hz1, hz2⟩ := infoU'
  have neTU : (96 : Nat) ≠ 5 := by decide
  have mixed : Tryd.prog.follows .mixedOrders = true := by kernel_rfl
  have t96 := Tryd.underlying96; have a96 := Tryd.isAgg96; have z96 := Tryd.sizeOf96; have v96 := Tryd.zeroValue96; have u96 := run_underlying Tryd.underlying96
  have t93 := Tryd.underlying93; have a93 := Tryd.isAgg93; have z93 := Tryd.sizeOf93; have v93 := Tryd.zeroValue93; have u93 := run_underlying Tryd.underlying93
  have t94 := Tryd.underlying94; have a94 := Tryd.isAgg94; have z94 := Tryd.sizeOf94; have v94 := Tryd.zeroValue94; have u94 := run_underlying Tryd.underlying94
  have t3 := Tryd.underlying3; have a3 := Tryd.isAgg3; have z3 := Tryd.sizeOf3; have v3 := Tryd.zeroValue3; have u3 := run_underlying Tryd.underlying3
  have t9 := Tryd.underlying9; have a9 := Tryd.isAgg9; have z9 := Tryd.sizeOf9; have v9 := Tryd.zeroValue9; have u9 := run_underlying Tryd.underlying9
  have t5 := Tryd.underlying5; have a5 := Tryd.isAgg5; have z5 := Tryd.sizeOf5; have v5 := Tryd.zeroValue5; have u5 := run_underlying Tryd.underlying5
  have e82 : ∀ args w, (callFunc 82 args).run Tryd.prog w = .ok (.enter 82 args) w := enters_of Tryd.func82 (by kernel_rfl) rfl
  go_enter Tryd.func69, Tryd.ntmps69
  go_wp2_with (go_at_fn 82; refine (copyCheck3 b p v _ hb hp).mono ?_)
  rintro e w1 ⟨rfl, hbk, hsz1, ht1⟩
  have hne : v.ownBlock ≠ some b := Lib.ownBlock_ne hown hb neTU
  have hown1 : w1.ownsRow 0 5 1 v xs.length xs := hown.kept (row := some b) ⟨ht1.os, ht1.tape, ht1.output, ht1.size, fun k hk hkb => ht1.block k hk (fun e => hkb (by rw [e]))⟩ (.inr hne)
  have c0 : w1.cell? ⟨b, 0, none⟩ = some (.pointer (some ⟨b, 0, none⟩)) := by rw [Lib.cell_of_heap hbk]; rfl
  have c1 : w1.cell? ⟨b, 1, none⟩ = some v := by rw [Lib.cell_of_heap hbk]; rfl
  go_wp2_with (at_builtin; refine wpList_append_own2 _ rfl _ _ 94 9 rfl 0 5 i0 Tryd.underlying94 Tryd.underlying9 hi hz0 hz1 hz2 _ _ _ rfl hown1 s rfl hs0 ?c3 ?c4 ?c5 ?_)
  case c3 => unfold maxLen; omega
  case c4 => omega
  case c5 => omega
  intro v' w2 hown' hgrow hob
  have hlt : b < w1.heap.size := by
    rcases Nat.lt_or_ge b w1.heap.size with h' | h'
    · exact h'
    · simp [Array.getElem?_eq_none h'] at hbk
  have hb2 : w2.heap[b]? = some (.cells #[.pointer (some ⟨b, 0, none⟩), v] 96 (0, 0)) := by
    rw [hgrow.block b hlt (fun e => hne e.symm)]
    exact hbk
  have d0 : w2.cell? ⟨b, 0, none⟩ = some (.pointer (some ⟨b, 0, none⟩)) := by rw [Lib.cell_of_heap hb2]; rfl
  have d1 : w2.cell? ⟨b, 1, none⟩ = some v := by rw [Lib.cell_of_heap hb2]; rfl
  have f1 : w2.frozen? ⟨b, 1, none⟩ = false := Lib.frozen_of_heap hb2 1
  obtain ⟨ao, n', cap, rfl⟩ : ∃ ao n' cap, v' = .slice ao n' cap := by
    rcases hown'.2 with ⟨hv, _⟩ | ⟨g, cap, cur, hv, _⟩
    · exact ⟨_, _, _, hv⟩
    · exact ⟨_, _, _, hv⟩
  go_wp2
  go_ret2
  have hne2 := Lib.ownBlock_ne hown' hb2 neTU
  refine ⟨rfl, _, ?_, hown'.kept (row := some b) ⟨rfl, rfl, rfl, by simp [World.setCell], fun k _ hk => Below.heap_setCell _ _ _ _ (fun e => hk (by simp [e]))⟩ (.inr hne2), ?_, ?_⟩
  · simp [World.setCell, Array.getElem?_modify, hb2]
  · rcases hob with ⟨h1, h2⟩ | h1
    · exact .inl ⟨h1, by simpa [World.setCell] using h2⟩
    · exact .inr h1
  · exact ((ht1.mono fun k hk => .inl hk).trans ((Turns.grown hgrow).mono fun k hk => .inr hk)).trans ((Turns.setCell _ _ _ _).mono fun k hk => .inl hk)

set_option maxHeartbeats 2000000 in
set_option maxRecDepth 100000 in
theorem string3 (b : Nat) (p v : Value) (l : List UInt8) (w : World) (h0 : l ≠ []) (hbk : w.heap[b]? = some (.cells #[p, v] 96 (0, 0))) (hown : w.ownsRow 0 5 1 v l.length (Lib.byteCells l)) :
    Calls Tryd.prog 71 #[.pointer (some ⟨b, 0, none⟩)] w fun e w' => e = .returned (.string ⟨l.toArray⟩) ∧ Turns w w' (fun k => v.ownBlock = some k) := by
  have hl0 : l.length ≠ 0 := by simpa using h0
  obtain ⟨g, cap, cur, rfl, hbg, hg, hnc, hcm, hcs, htake⟩ : ∃ g cap cur, v = .slice (some ⟨g, 0, none⟩) l.length cap ∧ 0 ≤ g ∧ w.heap[g]? = some (.cells cur 5 (0, 0)) ∧ l.length ≤ cap ∧ cap ≤ maxLen ∧ cur.size = cap * 1 ∧ cur.toList.take (l.length * 1) = Lib.byteCells l := by
    rcases hown.2 with ⟨_, hz⟩ | ⟨g, cap, cur, hv, r⟩
    · exact absurd hz hl0
    · exact ⟨g, cap, cur, hv, r⟩
  have c1 : w.drew.cell? ⟨b, 1, none⟩ = some (.slice (some ⟨g, 0, none⟩) l.length cap) := by
    have : w.drew.heap[b]? = some (.cells #[p, .slice (some ⟨g, 0, none⟩) l.length cap] 96 (0, 0)) := hbk
    rw [Lib.cell_of_heap this]; rfl
  have hSD : (Builtin.unsafeSliceData_ #[94] 106 #[.slice (some ⟨g, 0, none⟩) l.length cap]).run Tryd.prog w.drew = .ok (.pointer (some ⟨g, 0, none⟩)) w.drew :=
    Lib.run_unsafeSliceData_row _ _ _ _ _ _ (by omega)
  have hUS : (Builtin.unsafeString_ #[106, 3] 9 #[.pointer (some ⟨g, 0, none⟩), .int .i64 l.length]).run Tryd.prog w.drew = .ok (.string ⟨l.toArray⟩) (w.drew.freeze ⟨g, 0, none⟩ l.length) := by
    refine Lib.run_unsafeString_row w.drew 106 3 9 5 Tryd.underlying106 cellsU g cur.size (by have hg' : w.drew.heap[g]? = some (.cells cur 5 (0, 0)) := hg; simp [World.shape?, hg']) l h0 (by omega) (by unfold maxLen at hcm; omega) ?_
    intro j x hx
    have := hown.cells (g := g) rfl j (.int .u8 x.toNat) (by simp [Lib.byteCells, hx])
    exact this
  have mixed : Tryd.prog.follows .mixedOrders = true := by kernel_rfl
  have t96 := Tryd.underlying96; have a96 := Tryd.isAgg96; have z96 := Tryd.sizeOf96; have v96 := Tryd.zeroValue96; have u96 := run_underlying Tryd.underlying96
  have t93 := Tryd.underlying93; have a93 := Tryd.isAgg93; have z93 := Tryd.sizeOf93; have v93 := Tryd.zeroValue93; have u93 := run_underlying Tryd.underlying93
  have t94 := Tryd.underlying94; have a94 := Tryd.isAgg94; have z94 := Tryd.sizeOf94; have v94 := Tryd.zeroValue94; have u94 := run_underlying Tryd.underlying94
  have t106 := Tryd.underlying106; have a106 := Tryd.isAgg106; have z106 := Tryd.sizeOf106; have v106 := Tryd.zeroValue106; have u106 := run_underlying Tryd.underlying106
  have t3 := Tryd.underlying3; have a3 := Tryd.isAgg3; have z3 := Tryd.sizeOf3; have v3 := Tryd.zeroValue3; have u3 := run_underlying Tryd.underlying3
  have t9 := Tryd.underlying9; have a9 := Tryd.isAgg9; have z9 := Tryd.sizeOf9; have v9 := Tryd.zeroValue9; have u9 := run_underlying Tryd.underlying9
  have t5 := Tryd.underlying5; have a5 := Tryd.isAgg5; have z5 := Tryd.sizeOf5; have v5 := Tryd.zeroValue5; have u5 := run_underlying Tryd.underlying5
  go_enter Tryd.func71, Tryd.ntmps71
  go_wp2
  go_region_o
  all_goals (go_wp2; go_ret; exact ⟨rfl, Turns.freeze (S := fun k => (Value.slice (some ⟨g, 0, none⟩) l.length cap).ownBlock = some k) (Turns.refl w _).drew (p := ⟨g, 0, none⟩) rfl _⟩)

def bldN : BldN := ⟨96, 5, 69, 71⟩
theorem isFn {f : Nat} {F : Func} (h : Tryd.prog.funcs[f]? = some F) (hn : (F.name == "runtime.NumGoroutine") = false) (hb : F.body.isSome = true) : IsFn Tryd.prog f := by
  obtain ⟨c, hc⟩ := Option.isSome_iff_exists.1 hb
  exact ⟨F, c, h, hn, hc⟩
theorem bldOK : BldOK Tryd.prog bldN where
  ne := by decide
  fnw := isFn Tryd.func69 (by kernel_rfl) (by kernel_rfl)
  fns := isFn Tryd.func71 (by kernel_rfl) (by kernel_rfl)
  write := write3
  string := string3
end Go.Proofs.YtcjhjphmlfkikaaDoor.Mini

