import Derived.Test.YtifkphfhadimaaaGreatDoorAbsG11
import Derived.Test.YtifkphfhadimaaaGreatDoorProg
import Derived.KernelRfl
set_option linter.unusedVariables false
set_option linter.unusedSimpArgs false
namespace Go.Proofs.YtifkphfhadimaaaGreatDoor.Mini
open Go.Abs Go.RowKit Go.Lib

theorem sizeB : (Tryz.prog.info? 147).map (·.size) = some 2 := by kernel_rfl
theorem liesB : liesAt Tryz.prog Tryz.prog.depth 147 (2 / Tryz.prog.cellsOf 147) 0 147 1 = true := by kernel_rfl
theorem infoU : (Tryz.prog.info? 5).map (fun i => (i.zero, i.size, i.bytes)) = some (some (.int .u8 0), 1, 1) := by kernel_rfl
theorem cellsU : Tryz.prog.cellsOf 5 = 1 := by kernel_rfl
theorem infoU' : ∃ i, Tryz.prog.info? 5 = some i ∧ i.zero = some (.int .u8 0) ∧ i.size = 1 ∧ i.bytes = 1 := by
  obtain ⟨i, h1, h2⟩ := Option.map_eq_some_iff.1 infoU
  simp only [Prod.mk.injEq] at h2
  exact ⟨i, h1, h2⟩

set_option maxHeartbeats 1000000 in
set_option maxRecDepth 100000 in
theorem copyUsed (b : Nat) (w : World) (h0 : w.cell? ⟨b, 0, none⟩ = some (.pointer (some ⟨b, 0, none⟩))) :
    Calls Tryz.prog 138 #[.pointer (some ⟨b, 0, none⟩)] w fun e w' => e = .returned (.tuple #[]) ∧ w' = w := by
  obtain ⟨j, hj, _⟩ := Option.map_eq_some_iff.1 sizeB
  have mixed : Tryz.prog.follows .mixedOrders = true := by kernel_rfl
  have t147 := Tryz.underlying147; have a147 := Tryz.isAgg147; have z147 := Tryz.sizeOf147; have v147 := Tryz.zeroValue147; have u147 := run_underlying Tryz.underlying147
  have t144 := Tryz.underlying144; have a144 := Tryz.isAgg144; have z144 := Tryz.sizeOf144; have v144 := Tryz.zeroValue144; have u144 := run_underlying Tryz.underlying144
  have t4 := Tryz.underlying4; have a4 := Tryz.isAgg4; have z4 := Tryz.sizeOf4; have v4 := Tryz.zeroValue4; have u4 := run_underlying Tryz.underlying4
  have t200 := Tryz.underlying200; have a200 := Tryz.isAgg200; have z200 := Tryz.sizeOf200; have v200 := Tryz.zeroValue200; have u200 := run_underlying Tryz.underlying200
  go_enter Tryz.func138, Tryz.ntmps138
  go_wp2
  rw [Lib.run_neq_ptr_same w _ Tryz.underlying144 hj]
  go_wp2
  go_end0
  exact ⟨rfl, rfl⟩

set_option maxHeartbeats 1000000 in
set_option maxRecDepth 100000 in
theorem copyFresh (b : Nat) (w : World) (h0 : w.cell? ⟨b, 0, none⟩ = some (.pointer none)) (hsh : w.shape? b = some (147, 2)) (hfz : w.frozen? ⟨b, 0, none⟩ = false) :
    Calls Tryz.prog 138 #[.pointer (some ⟨b, 0, none⟩)] w fun e w' => e = .returned (.tuple #[]) ∧ w' = w.setCell ⟨b, 0, none⟩ (.pointer (some ⟨b, 0, none⟩)) := by
  obtain ⟨j, hj, hjs⟩ := Option.map_eq_some_iff.1 sizeB
  have mixed : Tryz.prog.follows .mixedOrders = true := by kernel_rfl
  have t147 := Tryz.underlying147; have a147 := Tryz.isAgg147; have z147 := Tryz.sizeOf147; have v147 := Tryz.zeroValue147; have u147 := run_underlying Tryz.underlying147
  have t144 := Tryz.underlying144; have a144 := Tryz.isAgg144; have z144 := Tryz.sizeOf144; have v144 := Tryz.zeroValue144; have u144 := run_underlying Tryz.underlying144
  have t4 := Tryz.underlying4; have a4 := Tryz.isAgg4; have z4 := Tryz.sizeOf4; have v4 := Tryz.zeroValue4; have u4 := run_underlying Tryz.underlying4
  have t200 := Tryz.underlying200; have a200 := Tryz.isAgg200; have z200 := Tryz.sizeOf200; have v200 := Tryz.zeroValue200; have u200 := run_underlying Tryz.underlying200
  go_enter Tryz.func138, Tryz.ntmps138
  go_wp2
  rw [Lib.run_to_unsafe w ⟨b, 0, none⟩ Tryz.underlying144 Tryz.underlying200 hj (by rw [hjs]; decide) hsh (Nat.zero_lt_succ 1)]
  simp only [Result.andThen]
  rw [Oper.upon_value]
  go_wp2
  rw [run_callFunc_extern Tryz.func160 (by kernel_rfl) (by kernel_rfl) (by kernel_rfl) (e := Extern.AbiNoEscape.same) (by kernel_rfl)]
  rw [Lib.run_noEscape]
  simp only [Result.andThen]
  rw [Oper.upon_value]
  go_wp2
  rw [Lib.run_from_unsafe w ⟨b, 0, none⟩ Tryz.underlying200 Tryz.underlying144 hj hsh liesB]
  simp only [Result.andThen]
  rw [Oper.upon_value]
  go_wp2
  go_end0
  exact ⟨rfl, rfl⟩

theorem copyCheck3 (b : Nat) (p v : Value) (w : World) (hb : w.heap[b]? = some (.cells #[p, v] 147 (0, 0))) (hp : p = .pointer none ∨ p = .pointer (some ⟨b, 0, none⟩)) :
    Calls Tryz.prog 138 #[.pointer (some ⟨b, 0, none⟩)] w fun e w' => e = .returned (.tuple #[]) ∧ w'.heap[b]? = some (.cells #[.pointer (some ⟨b, 0, none⟩), v] 147 (0, 0)) ∧ w'.heap.size = w.heap.size ∧ Turns w w' (· = b) := by
  have c0 : w.cell? ⟨b, 0, none⟩ = some p := by rw [Lib.cell_of_heap hb]; rfl
  rcases hp with rfl | rfl
  · refine (copyFresh b w c0 (by simp [World.shape?, hb]) (Lib.frozen_of_heap hb 0)).mono ?_
    rintro e w' ⟨rfl, rfl⟩
    refine ⟨rfl, ?_, by simp [World.setCell], Turns.setCell _ _ _ _⟩
    simp [World.setCell, Array.getElem?_modify, hb]
  · refine (copyUsed b w c0).mono ?_
    rintro e w' ⟨rfl, rfl⟩
    exact ⟨rfl, hb, rfl, Turns.refl _ _⟩

set_option maxHeartbeats 2000000 in
set_option maxRecDepth 100000 in
theorem write3 (b : Nat) (p v : Value) (xs : List Value) (s : ByteArray) (w : World) (hs0 : s.size ≠ 0) (hb : w.heap[b]? = some (.cells #[p, v] 147 (0, 0))) (hp : p = .pointer none ∨ p = .pointer (some ⟨b, 0, none⟩))
    (hown : w.ownsRow 0 5 1 v xs.length xs) (hlen : xs.length + s.size ≤ 140737488355328) :
    Calls Tryz.prog 104 #[.pointer (some ⟨b, 0, none⟩), .string s] w fun e w' => e = .returned (.tuple #[.int .i64 s.size, .nilIface]) ∧ ∃ v', w'.heap[b]? = some (.cells #[.pointer (some ⟨b, 0, none⟩), v'] 147 (0, 0)) ∧
      w'.ownsRow 0 5 1 v' (xs.length + s.size) (xs ++ Lib.strCells s) ∧ ((v'.ownBlock = v.ownBlock ∧ w'.heap.size = w.heap.size) ∨ v'.ownBlock = some w.heap.size) ∧ Turns w w' fun k => k = b ∨ v.ownBlock = some k := by
  obtain ⟨i0, hi, hz0, hz1, hz2⟩ := infoU'
  have neTU : (147 : Nat) ≠ 5 := by decide
  have mixed : Tryz.prog.follows .mixedOrders = true := by kernel_rfl
  have t147 := Tryz.underlying147; have a147 := Tryz.isAgg147; have z147 := Tryz.sizeOf147; have v147 := Tryz.zeroValue147; have u147 := run_underlying Tryz.underlying147
  have t144 := Tryz.underlying144; have a144 := Tryz.isAgg144; have z144 := Tryz.sizeOf144; have v144 := Tryz.zeroValue144; have u144 := run_underlying Tryz.underlying144
  have t145 := Tryz.underlying145; have a145 := Tryz.isAgg145; have z145 := Tryz.sizeOf145; have v145 := Tryz.zeroValue145; have u145 := run_underlying Tryz.underlying145
  have t3 := Tryz.underlying3; have a3 := Tryz.isAgg3; have z3 := Tryz.sizeOf3; have v3 := Tryz.zeroValue3; have u3 := run_underlying Tryz.underlying3
  have t9 := Tryz.underlying9; have a9 := Tryz.isAgg9; have z9 := Tryz.sizeOf9; have v9 := Tryz.zeroValue9; have u9 := run_underlying Tryz.underlying9
  have t5 := Tryz.underlying5; have a5 := Tryz.isAgg5; have z5 := Tryz.sizeOf5; have v5 := Tryz.zeroValue5; have u5 := run_underlying Tryz.underlying5
  have e138 : ∀ args w, (callFunc 138 args).run Tryz.prog w = .ok (.enter 138 args) w := enters_of Tryz.func138 (by kernel_rfl) rfl
  go_enter Tryz.func104, Tryz.ntmps104
  go_wp2_with (go_at_fn 138; refine (copyCheck3 b p v _ hb hp).mono ?_)
  rintro e w1 ⟨rfl, hbk, hsz1, ht1⟩
  have hne : v.ownBlock ≠ some b := Lib.ownBlock_ne hown hb neTU
  have hown1 : w1.ownsRow 0 5 1 v xs.length xs := hown.kept (row := some b) ⟨ht1.os, ht1.tape, ht1.output, ht1.size, fun k hk hkb => ht1.block k hk (fun e => hkb (by rw [e]))⟩ (.inr hne)
  have c0 : w1.cell? ⟨b, 0, none⟩ = some (.pointer (some ⟨b, 0, none⟩)) := by rw [Lib.cell_of_heap hbk]; rfl
  have c1 : w1.cell? ⟨b, 1, none⟩ = some v := by rw [Lib.cell_of_heap hbk]; rfl
  go_wp2_with (at_builtin; refine wpList_append_own2 _ rfl _ _ 145 9 rfl 0 5 i0 Tryz.underlying145 Tryz.underlying9 hi hz0 hz1 hz2 _ _ _ rfl hown1 s rfl hs0 ?c3 ?c4 ?c5 ?_)
  case c3 => unfold maxLen; omega
  case c4 => omega
  case c5 => omega
  intro v' w2 hown' hgrow hob
  have hlt : b < w1.heap.size := by
    rcases Nat.lt_or_ge b w1.heap.size with h' | h'
    · exact h'
    · simp [Array.getElem?_eq_none h'] at hbk
  have hb2 : w2.heap[b]? = some (.cells #[.pointer (some ⟨b, 0, none⟩), v] 147 (0, 0)) := by
    rw [hgrow.block b hlt (fun e => hne e.symm)]
    exact hbk
  have d0 : w2.cell? ⟨b, 0, none⟩ = some (.pointer (some ⟨b, 0, none⟩)) := by rw [Lib.cell_of_heap hb2]; rfl
  have d1 : w2.cell? ⟨b, 1, none⟩ = some v := by rw [Lib.cell_of_heap hb2]; rfl
  have f1 : w2.frozen? ⟨b, 1, none⟩ = false := Lib.frozen_of_heap hb2 1
  obtain ⟨ao, n', cap, rfl⟩ : ∃ ao n' cap, v' = .slice ao n' cap := by
    rcases hown'.2 with ⟨hv, _⟩ | ⟨g, cap, cur, hv, _⟩
    · exact ⟨_, _, _, hv⟩
    · exact ⟨_, _, _, hv⟩
  go_wp2
  go_ret2
  have hne2 := Lib.ownBlock_ne hown' hb2 neTU
  refine ⟨rfl, _, ?_, hown'.kept (row := some b) ⟨rfl, rfl, rfl, by simp [World.setCell], fun k _ hk => Below.heap_setCell _ _ _ _ (fun e => hk (by simp [e]))⟩ (.inr hne2), ?_, ?_⟩
  · simp [World.setCell, Array.getElem?_modify, hb2]
  · rcases hob with ⟨h1, h2⟩ | h1
    · exact .inl ⟨h1, by simpa [World.setCell] using h2⟩
    · exact .inr h1
  · exact ((ht1.mono fun k hk => .inl hk).trans ((Turns.grown hgrow).mono fun k hk => .inr hk)).trans ((Turns.setCell _ _ _ _).mono fun k hk => .inl hk)

set_option maxHeartbeats 2000000 in
set_option maxRecDepth 100000 in
theorem string3 (b : Nat) (p v : Value) (l : List UInt8) (w : World) (h0 : l ≠ []) (hbk : w.heap[b]? = some (.cells #[p, v] 147 (0, 0))) (hown : w.ownsRow 0 5 1 v l.length (Lib.byteCells l)) :
    Calls Tryz.prog 107 #[.pointer (some ⟨b, 0, none⟩)] w fun e w' => e = .returned (.string ⟨l.toArray⟩) ∧ Turns w w' (fun k => v.ownBlock = some k) := by
  have hl0 : l.length ≠ 0 := by simpa using h0
  obtain ⟨g, cap, cur, rfl, hbg, hg, hnc, hcm, hcs, htake⟩ : ∃ g cap cur, v = .slice (some ⟨g, 0, none⟩) l.length cap ∧ 0 ≤ g ∧ w.heap[g]? = some (.cells cur 5 (0, 0)) ∧ l.length ≤ cap ∧ cap ≤ maxLen ∧ cur.size = cap * 1 ∧ cur.toList.take (l.length * 1) = Lib.byteCells l := by
    rcases hown.2 with ⟨_, hz⟩ | ⟨g, cap, cur, hv, r⟩
    · exact absurd hz hl0
    · exact ⟨g, cap, cur, hv, r⟩
  have c1 : w.drew.cell? ⟨b, 1, none⟩ = some (.slice (some ⟨g, 0, none⟩) l.length cap) := by
    have : w.drew.heap[b]? = some (.cells #[p, .slice (some ⟨g, 0, none⟩) l.length cap] 147 (0, 0)) := hbk
    rw [Lib.cell_of_heap this]; rfl
  have hSD : (Builtin.unsafeSliceData_ #[145] 188 #[.slice (some ⟨g, 0, none⟩) l.length cap]).run Tryz.prog w.drew = .ok (.pointer (some ⟨g, 0, none⟩)) w.drew :=
    Lib.run_unsafeSliceData_row _ _ _ _ _ _ (by omega)
  have hUS : (Builtin.unsafeString_ #[188, 3] 9 #[.pointer (some ⟨g, 0, none⟩), .int .i64 l.length]).run Tryz.prog w.drew = .ok (.string ⟨l.toArray⟩) (w.drew.freeze ⟨g, 0, none⟩ l.length) := by
    refine Lib.run_unsafeString_row w.drew 188 3 9 5 Tryz.underlying188 cellsU g cur.size (by have hg' : w.drew.heap[g]? = some (.cells cur 5 (0, 0)) := hg; simp [World.shape?, hg']) l h0 (by omega) (by unfold maxLen at hcm; omega) ?_
    intro j x hx
    have := hown.cells (g := g) rfl j (.int .u8 x.toNat) (by simp [Lib.byteCells, hx])
    exact this
  have mixed : Tryz.prog.follows .mixedOrders = true := by kernel_rfl
  have t147 := Tryz.underlying147; have a147 := Tryz.isAgg147; have z147 := Tryz.sizeOf147; have v147 := Tryz.zeroValue147; have u147 := run_underlying Tryz.underlying147
  have t144 := Tryz.underlying144; have a144 := Tryz.isAgg144; have z144 := Tryz.sizeOf144; have v144 := Tryz.zeroValue144; have u144 := run_underlying Tryz.underlying144
  have t145 := Tryz.underlying145; have a145 := Tryz.isAgg145; have z145 := Tryz.sizeOf145; have v145 := Tryz.zeroValue145; have u145 := run_underlying Tryz.underlying145
  have t188 := Tryz.underlying188; have a188 := Tryz.isAgg188; have z188 := Tryz.sizeOf188; have v188 := Tryz.zeroValue188; have u188 := run_underlying Tryz.underlying188
  have t3 := Tryz.underlying3; have a3 := Tryz.isAgg3; have z3 := Tryz.sizeOf3; have v3 := Tryz.zeroValue3; have u3 := run_underlying Tryz.underlying3
  have t9 := Tryz.underlying9; have a9 := Tryz.isAgg9; have z9 := Tryz.sizeOf9; have v9 := Tryz.zeroValue9; have u9 := run_underlying Tryz.underlying9
  have t5 := Tryz.underlying5; have a5 := Tryz.isAgg5; have z5 := Tryz.sizeOf5; have v5 := Tryz.zeroValue5; have u5 := run_underlying Tryz.underlying5
  go_enter Tryz.func107, Tryz.ntmps107
  go_wp2
  go_region_o
  all_goals (go_wp2; go_ret; exact ⟨rfl, Turns.freeze (S := fun k => (Value.slice (some ⟨g, 0, none⟩) l.length cap).ownBlock = some k) (Turns.refl w _).drew (p := ⟨g, 0, none⟩) rfl _⟩)

def bldN : BldN := ⟨147, 5, 104, 107⟩
theorem isFn {f : Nat} {F : Func} (h : Tryz.prog.funcs[f]? = some F) (hn : (F.name == "runtime.NumGoroutine") = false) (hb : F.body.isSome = true) : IsFn Tryz.prog f := by
  obtain ⟨c, hc⟩ := Option.isSome_iff_exists.1 hb
  exact ⟨F, c, h, hn, hc⟩
theorem bldOK : BldOK Tryz.prog bldN where
  ne := by decide
  fnw := isFn Tryz.func104 (by kernel_rfl) (by kernel_rfl)
  fns := isFn Tryz.func107 (by kernel_rfl) (by kernel_rfl)
  write := write3
  string := string3
end Go.Proofs.YtifkphfhadimaaaGreatDoor.Mini

