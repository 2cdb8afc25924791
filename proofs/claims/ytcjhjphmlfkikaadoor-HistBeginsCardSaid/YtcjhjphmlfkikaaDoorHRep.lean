import Derived.Test.YtcjhjphmlfkikaaDoorProg
import Derived.WalkKit
import Derived.Lib.Walk
import Derived.Laws.IdiomCopy
import Derived.KernelRfl
import Derived.Shelf.RegionOpenPlain
import Derived.LoopN
import Derived.Shelf.Strings.Builder1
set_option linter.unusedVariables false
namespace Go.Proofs.YtcjhjphmlfkikaaDoor
open Go.RowKit Go.Lib
set_option maxHeartbeats 1000000 in
set_option maxRecDepth 100000 in
theorem mul64 (w : World) : Calls Tryd.prog 95 #[.int .u64 1, .int .u64 4] w fun e w' => e = .returned (.tuple #[.int .u64 0, .int .u64 4]) ∧ w' = w := by
  have mixed : Tryd.prog.follows .mixedOrders = true := by kernel_rfl
  go_enter Tryd.func95, Tryd.ntmps95
  go_wp2
  go_ret2
  exact ⟨rfl, rfl⟩
set_option maxHeartbeats 1000000 in
set_option maxRecDepth 100000 in
theorem mul (w : World) : Calls Tryd.prog 79 #[.int .u64 1, .int .u64 4] w fun e w' => e = .returned (.tuple #[.int .u64 0, .int .u64 4]) ∧ w' = w := by
  have mixed : Tryd.prog.follows .mixedOrders = true := by kernel_rfl
  have e95 : ∀ args w, (callFunc 95 args).run Tryd.prog w = .ok (.enter 95 args) w := enters_of Tryd.func95 (by kernel_rfl) rfl
  go_enter Tryd.func79, Tryd.ntmps79
  go_wp2_with (go_at_fn 95; refine (mul64 _).mono ?_)
  rintro e w' ⟨rfl, rfl⟩
  go_wp2
  go_ret2
  exact ⟨rfl, rfl⟩
theorem infoI : (Tryd.prog.info? 3).map (fun i => (i.zero, i.size, i.bytes)) = some (some (.int .i64 0), 1, 8) := by kernel_rfl

theorem made4 : madeCells #[Value.int IntKind.i64 0] 4 = #[.int .i64 0, .int .i64 0, .int .i64 0, .int .i64 0] := by kernel_rfl
theorem setc {W : World} {b : Nat} {c : Array Value} {t : TypeId} {fr : Nat × Nat} (hb : W.heap[b]? = some (.cells c t fr)) (o : Nat) (v : Value) : (W.setCell ⟨b, o, none⟩ v).heap[b]? = some (.cells (c.setIfInBounds o v) t fr) := by
  simp [World.setCell, Array.getElem?_modify, hb]
theorem below_set {W : World} {B b : Nat} (hB : B ≤ b) (o : Nat) (v : Value) : Below B W (W.setCell ⟨b, o, none⟩ v) :=
  ⟨rfl, rfl, rfl, by simp [World.setCell], fun k hk => Below.heap_setCell _ _ _ _ (show k ≠ b by omega)⟩
set_option maxHeartbeats 1000000 in
set_option maxRecDepth 100000 in
theorem repeat4 (g off cap : Nat) (w : World) (hg : g < w.heap.size) (hc : w.cell? ⟨g, off, none⟩ = some (.int .i64 (-1))) : Calls Tryd.prog 62 #[.slice (some ⟨g, off, none⟩) 1 cap, .int .i64 4] w fun e w' =>
    e = .returned (.slice (some ⟨w.heap.size, 0, none⟩) 4 4) ∧ w'.heap[w.heap.size]? = some (.cells #[.int .i64 (-1), .int .i64 (-1), .int .i64 (-1), .int .i64 (-1)] 3 (0, 0)) ∧ Below w.heap.size w w' := by
  obtain ⟨i0, hi, h2⟩ := Option.map_eq_some_iff.1 infoI
  simp only [Prod.mk.injEq] at h2
  obtain ⟨hz, hsz, hby⟩ := h2
  have hs1 : (Tryd.prog.info? 3).map (·.size) = some 1 := by rw [hi]; simp [hsz]
  have mixed : Tryd.prog.follows .mixedOrders = true := by kernel_rfl
  have e79 : ∀ args w, (callFunc 79 args).run Tryd.prog w = .ok (.enter 79 args) w := enters_of Tryd.func79 (by kernel_rfl) rfl
  go_enter Tryd.func62, Tryd.ntmps62
  go_wp2_with (go_at_fn 79; refine (mul _).mono ?_)
  rintro e w' ⟨rfl, rfl⟩
  go_wp2
  rw [run_make w' 37 3 i0 (.int .i64 0) Tryd.underlying37 hi hz .i64 .i64 4 4 (by decide) (by decide) (by rw [hby]; decide) (by decide)]
  simp only [Result.andThen]
  rw [Oper.upon_value]
  go_wp2
  have b1 : Below w'.heap.size w' (w'.alloc (.cells (madeCells #[Value.int IntKind.i64 0] 4) 3)) := (Below.refl _ w').alloc (Nat.le_refl _) _
  have k1 : (w'.alloc (.cells (madeCells #[Value.int IntKind.i64 0] 4) 3)).heap[w'.heap.size]? = some (.cells #[.int .i64 0, .int .i64 0, .int .i64 0, .int .i64 0] 3 (0, 0)) := by
    show (w'.heap.push _)[w'.heap.size]? = _
    simp [made4]
  have c1 : (w'.alloc (.cells (madeCells #[Value.int IntKind.i64 0] 4) 3)).cell? ⟨g, off, none⟩ = some (.int .i64 (-1)) := by
    rw [← hc]
    unfold World.cell?
    rw [b1.block g hg]
  generalize hW : w'.alloc (.cells (madeCells #[Value.int IntKind.i64 0] 4) 3) = W1 at b1 k1 c1 ⊢
  rw [run_copy_cells W1 37 37 3 3 w'.heap.size 0 4 4 ⟨g, off, none⟩ 1 cap [.int .i64 (-1)] Tryd.underlying37 hs1 rfl (fun j v hv => by
      have : j = 0 := by have := (List.getElem?_eq_some_iff.1 hv).1; simpa using this
      subst this; cases hv; exact c1) (fun j hj => by
      have : j = 0 := by simpa using hj
      subst this; rw [Lib.cell_of_heap k1]; rfl) (fun j hj => Lib.frozen_of_heap k1 _) (by simp [Value.oneCell'])]
  simp only [Result.andThen]
  rw [Oper.upon_value]
  have b2 : Below w'.heap.size w' (W1.setCells w'.heap.size 0 [.int .i64 (-1)]) := b1.trans (below_set (Nat.le_refl _) 0 _)
  have k2 : (W1.setCells w'.heap.size 0 [.int .i64 (-1)]).heap[w'.heap.size]? = some (.cells #[.int .i64 (-1), .int .i64 0, .int .i64 0, .int .i64 0] 3 (0, 0)) := setc k1 0 _
  generalize W1.setCells w'.heap.size 0 [.int .i64 (-1)] = W2 at b2 k2 ⊢
  clear k1 b1 c1 hc hW
  go_wp2
  have hc2 : (Builtin.copy_ #[37, 37] 3 #[.slice (some ⟨w'.heap.size, 1, none⟩) 3 3, .slice (some ⟨w'.heap.size, 0, none⟩) 1 4]).run Tryd.prog W2.drew = .ok (.int .i64 1) (W2.drew.setCells w'.heap.size 1 [.int .i64 (-1)]) :=
    run_copy_cells W2.drew 37 37 3 3 w'.heap.size 1 3 3 ⟨w'.heap.size, 0, none⟩ 1 4 [.int .i64 (-1)] Tryd.underlying37 hs1 rfl (fun j v hv => by
      have : j = 0 := by have := (List.getElem?_eq_some_iff.1 hv).1; simpa using this
      subst this; cases hv; show W2.cell? ⟨w'.heap.size, 0, none⟩ = _; rw [Lib.cell_of_heap k2]; rfl) (fun j hj => by
      have : j = 0 := by simpa using hj
      subst this; show (W2.cell? _).isSome = true; rw [Lib.cell_of_heap k2]; rfl) (fun j hj => Lib.frozen_of_heap (w := W2) k2 _) (by simp [Value.oneCell'])
  have b3 : Below w'.heap.size w' (W2.drew.setCells w'.heap.size 1 [.int .i64 (-1)]) := b2.drew.trans (below_set (Nat.le_refl _) 1 _)
  have k3 : (W2.drew.setCells w'.heap.size 1 [.int .i64 (-1)]).heap[w'.heap.size]? = some (.cells #[.int .i64 (-1), .int .i64 (-1), .int .i64 0, .int .i64 0] 3 (0, 0)) := setc (W := W2.drew) k2 1 _
  generalize hW3 : W2.drew.setCells w'.heap.size 1 [.int .i64 (-1)] = W3 at b3 k3 hc2
  have hc3 : (Builtin.copy_ #[37, 37] 3 #[.slice (some ⟨w'.heap.size, 2, none⟩) 2 2, .slice (some ⟨w'.heap.size, 0, none⟩) 2 4]).run Tryd.prog W3.drew = .ok (.int .i64 2) (W3.drew.setCells w'.heap.size 2 [.int .i64 (-1), .int .i64 (-1)]) :=
    run_copy_cells W3.drew 37 37 3 3 w'.heap.size 2 2 2 ⟨w'.heap.size, 0, none⟩ 2 4 [.int .i64 (-1), .int .i64 (-1)] Tryd.underlying37 hs1 rfl (fun j v hv => by
      have h' : j < 2 := (List.getElem?_eq_some_iff.1 hv).1
      rcases (by omega : j = 0 ∨ j = 1) with rfl | rfl
      · cases hv; show W3.cell? ⟨w'.heap.size, 0, none⟩ = _; rw [Lib.cell_of_heap k3]; rfl
      · cases hv; show W3.cell? ⟨w'.heap.size, 0 + 1, none⟩ = _; rw [Lib.cell_of_heap k3]; rfl) (fun j hj => by
      have h' : j < 2 := hj
      show (W3.cell? _).isSome = true
      rcases (by omega : j = 0 ∨ j = 1) with rfl | rfl <;> (rw [Lib.cell_of_heap k3]; rfl)) (fun j hj => Lib.frozen_of_heap (w := W3) k3 _) (by simp [Value.oneCell'])
  have b4 : Below w'.heap.size w' (W3.drew.setCells w'.heap.size 2 [.int .i64 (-1), .int .i64 (-1)]) := (b3.drew.trans (below_set (Nat.le_refl _) 2 _)).trans (below_set (Nat.le_refl _) 3 _)
  have k4 : (W3.drew.setCells w'.heap.size 2 [.int .i64 (-1), .int .i64 (-1)]).heap[w'.heap.size]? = some (.cells #[.int .i64 (-1), .int .i64 (-1), .int .i64 (-1), .int .i64 (-1)] 3 (0, 0)) := setc (setc (W := W3.drew) k3 2 _) 3 _
  generalize W3.drew.setCells w'.heap.size 2 [.int .i64 (-1), .int .i64 (-1)] = W4 at b4 k4 hc3
  clear hW3
  refine wp_loop_rounds 3 ?_
  rw [rounds_succ]
  go_wp2
  go_region_o
  all_goals go_wp2
  all_goals rw [rounds_succ]
  all_goals go_wp2
  all_goals go_region_o
  all_goals go_wp2
  all_goals rw [rounds_succ]
  all_goals go_wp2
  all_goals (go_ret; exact ⟨rfl, k4, b4⟩)
end Go.Proofs.YtcjhjphmlfkikaaDoor

