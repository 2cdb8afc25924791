/- Layer 16: numbers among the arguments; equal lists of calls. -/
import Derived.Test.YtifkphfhadimaaaGreatDoorLwI
set_option linter.unusedVariables false
set_option linter.unusedSimpArgs false
set_option maxRecDepth 100000
namespace Go.Proofs.YtifkphfhadimaaaGreatDoor.Mini
open Go.Abs Go.RowKit Go.ChangeShapes Go.WideShapes

theorem same_ok {a b : Slc} {l : List Form} {h : Heap} (ha : Sl h a 3 encF l) (hb : Sl h b 3 encF l) (hl : l.length ≤ 140737488355327) {P : AV → Heap → Prop} (hP : ∀ t, P (.bool true) t) : CallE K6 48 [a.av, b.av] h P := by
  refine d48 (by kernel_rfl) ?_
  unfold D48
  rw [ha.len, hb.len]
  refine ⟨fun hc => by simp at hc, fun _ => ?_⟩
  refine ⟨fun n x t => ∃ i : Nat, x = i ∧ n + i = l.length, ⟨l.length, 0, rfl, rfl⟩, ?_⟩
  rintro n _ t ⟨i, rfl, hi⟩
  refine ⟨fun hc => ?_, fun _ => hP _⟩
  simp only [decide_eq_true_eq] at hc
  have hi' : i < l.length := by omega
  obtain ⟨y, hy⟩ := lt_len rfl hi'
  refine ⟨by omega, y.1, y.2.1, y.2.2, by simpa [encF] using ha.agg hy, by omega, y.1, y.2.1, y.2.2, by simpa [encF] using hb.agg hy, fun hx => by simp at hx, fun _ => ⟨n - 1, by omega, i + 1, wrap_succ (by omega), by omega⟩⟩

def RI : Heap → List AV → Int → Prop := fun _ avs n => avs = encI n ∧ is64 n
section
variable {H : Type} {enc : TypeId × Value → H} {W : World}
theorem opens_int64 : Opens enc Tryz.prog W 3 RI (fun d n => d = .lit (.int .i64 n)) := by
  intro m h hk fuel cs x hx
  obtain ⟨n, rfl, rfl, hw⟩ := DataW.trod_int Tryz.underlying3 hx
  refine ⟨m, [], [.int .i64 n], n, Emb.le.refl m, by simpa using hk, by simp [VRs, VR], by simp [isCell], ⟨rfl, ?_⟩, rfl⟩
  have e1 : IntKind.i64.min = -9223372036854775808 := by decide
  have e2 : IntKind.i64.max = 9223372036854775807 := by decide
  simp only [Lit.wf, IntKind.has, e1, e2, Bool.and_eq_true, decide_eq_true_eq] at hw
  exact hw
theorem opens_ints (hW : 0 < W.heap.size) : Opens enc Tryz.prog W 74 (RowsR 1 RI) (RowsD (fun d n => d = .lit (.int .i64 n))) :=
  opens_slice Tryz.underlying74 (by kernel_rfl) (by decide) hW (fun _ _ _ _ h => h) opens_int64
end
theorem ints_of {H : Heap} {avs : List AV} {ns : List Int} (h : RowsR 1 RI H avs ns) : ∃ s : Slc, avs = [s.av] ∧ Sl H s 1 encI ns ∧ ∀ x ∈ ns, is64 x := by
  obtain ⟨s, cells, rfl, h1, h2, h3⟩ := h
  refine ⟨s, rfl, ⟨h1, fun i x hx => ?_⟩, fun x hx => ?_⟩
  · obtain ⟨c, hc⟩ := lt_len h2.symm (List.getElem?_eq_some_iff.1 hx).1
    obtain ⟨k1, k2⟩ := h3 i x c hx hc
    rw [k1, k2.1]
  · obtain ⟨i, hi⟩ := List.mem_iff_getElem?.1 hx
    obtain ⟨c, hc⟩ := lt_len h2.symm (List.getElem?_eq_some_iff.1 hi).1
    exact (h3 i x c hi hc).2.2
theorem ints_small {H : Type} {d : DataW H} {ns : List Int} (hd : RowsD (fun d n => d = .lit (.int .i64 n)) d ns) (hs : ∀ n ∈ d.weights Tryz.prog 74, n ≤ reachBytes) : ns.length ≤ 140737488355327 := by
  have hlt := reachBytes_lt
  have e3 : (2 : Nat) ^ 47 = 140737488355328 := by decide
  rcases hd with ⟨rfl, rfl⟩ | ⟨elems, rest, rfl, hl, hall⟩
  · simp
  · simp only [DataW.weights, Tryz.underlying74, List.mem_cons, List.mem_append] at hs
    have hb : Tryz.prog.bytesOf 3 = 8 := by kernel_rfl
    have h1 := hs _ (.inl rfl)
    rw [hb] at h1
    omega
theorem ints_arg {H : Type} {enc : TypeId × Value → H} {W : World} {b : Nat} {v : Value} {d : DataW H} {p : List MemPlace} (hW : 0 < W.heap.size) (hv : Value.okWide Tryz.prog W .any b 74 v) (ht : DataW.Trod enc Tryz.prog W 0 (fun _ => true) true 74 v d p) (hsz : ∀ n ∈ d.weights Tryz.prog 74, n ≤ reachBytes) :
    ∃ (m : Emb) (t : Heap) (s : Slc) (ns : List Int), HR m t W.heap.size W W ∧ VR m s.av v ∧ Sl t s 1 encI ns ∧ (∀ x ∈ ns, is64 x) ∧ ns.length ≤ 140737488355327 := by
  obtain ⟨a0, len, cap, rfl⟩ := okWide_slice Tryz.underlying74 hv
  obtain ⟨fuel, hf⟩ := ht
  obtain ⟨m1, t1, avs, ns, h1, h2, h3, h4, h5, h6⟩ := opens_ints hW _ [] (HR.start W) fuel _ _ hf
  obtain ⟨s, rfl, hs, h64⟩ := ints_of h5
  refine ⟨m1, t1, s, ns, h2, ?_, hs, h64, ints_small h6 hsz⟩
  obtain ⟨c, cs, e1, e2, e3⟩ := h3
  simp only [Value.cells, List.cons.injEq] at e1
  rw [e1.1]
  exact e2
end Go.Proofs.YtifkphfhadimaaaGreatDoor.Mini

