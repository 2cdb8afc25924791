import Derived.Test.YtcjhjphmlfkikaaDoorHpB
import Derived.Test.YtcjhjphmlfkikaaDoorProg
import Derived.Test.YtcjhjphmlfkikaaDoorAbsG8
import Derived.SizedLaws
import Derived.KernelRfl
set_option linter.unusedVariables false
set_option linter.unusedSimpArgs false
set_option maxRecDepth 100000
namespace Go.Proofs.YtcjhjphmlfkikaaDoor.Mini
open Go.Abs Go.RowKit Go.ChangeShapes Go.WideShapes

def encE (e : Ev) : List AV := [.int .i64 e.th, .int .i64 e.ix, .bool e.ret, .str e.call.op, .int .i64 e.call.x, .int .i64 e.call.y, .int .i64 e.res]
section
variable {H : Type} {enc : TypeId × Value → H} {W : World}
theorem opens_map {P : Program} {t : TypeId} {α β : Type} {R : Heap → List AV → α → Prop} {D : DataW H → α → Prop} {R' : Heap → List AV → β → Prop} {D' : DataW H → β → Prop} (f : α → β) (K : Opens enc P W t R D) (h1 : ∀ h c a, R h c a → R' h c (f a)) (h2 : ∀ d a, D d a → D' d (f a)) : Opens enc P W t R' D' := by
  intro m h hk fuel cs x hx
  obtain ⟨m1, t1, avs, a, e1, e2, e3, e4, e5, e6⟩ := K m h hk fuel cs x hx
  exact ⟨m1, t1, avs, f a, e1, e2, e3, e4, h1 _ _ _ e5, h2 _ _ e6⟩
abbrev ClT := List UInt8 × Int × Int × Unit
def DCall : DataW H → ClT → Prop := fun d a => d = .agg [.lit (.string a.1), .lit (.int .i64 a.2.1), .lit (.int .i64 a.2.2.1)]
theorem opens_call : Opens enc Tryd.prog W 50 (fun _ avs (a : ClT) => avs = [.str a.1, .int .i64 a.2.1, .int .i64 a.2.2.1]) DCall := by
  have K := opens_struct (enc := enc) (P := Tryd.prog) (W := W) (t := 50) (ts := [(9, 1), (3, 1), (3, 1)]) Tryd.underlying50 (by kernel_rfl) (by kernel_rfl) (fun i f hf => by
    have hi : i < 3 := (Array.getElem?_eq_some_iff.1 hf).1
    rcases (by omega : i = 0 ∨ i = 1 ∨ i = 2) with rfl | rfl | rfl <;> · cases hf; rfl)
    (fields_cons (fun _ _ _ _ h => h) (opens_string Tryd.underlying9) (fields_cons (fun _ _ _ _ h => h) (opens_int Tryd.underlying3) (fields_cons (fun _ _ _ _ h => h) (opens_int Tryd.underlying3) fields_nil)))
  refine opens_map (fun a => a) K ?_ ?_
  · rintro h c a ⟨_, _, rfl, rfl, _, _, rfl, rfl, _, _, rfl, rfl, rfl⟩
    rfl
  · rintro d ⟨a1, a2, a3, a4⟩ ⟨parts, rfl, _, _, rfl, rfl, _, _, rfl, rfl, _, _, rfl, rfl, rfl⟩
    rfl
abbrev EvT := Int × Int × Bool × ClT × Int × Unit
def evOf (a : EvT) : Ev := ⟨a.1, a.2.1, a.2.2.1, ⟨a.2.2.2.1.1, a.2.2.2.1.2.1, a.2.2.2.1.2.2.1⟩, a.2.2.2.2.1⟩
def DEv : DataW H → Ev → Prop := fun d e => ∃ x1 x2 x3 y1 y2 x4, d = .agg [x1, x2, x3, .agg [.lit (.string e.call.op), y1, y2], x4]
def REv : Heap → List AV → Ev → Prop := fun _ avs e => avs = encE e
theorem opens_ev : Opens enc Tryd.prog W 52 REv DEv := by
  have K := opens_struct (enc := enc) (P := Tryd.prog) (W := W) (t := 52) (ts := [(3, 1), (3, 1), (4, 1), (50, 3), (3, 1)]) Tryd.underlying52 (by kernel_rfl) (by kernel_rfl) (fun i f hf => by
    have hi : i < 5 := (Array.getElem?_eq_some_iff.1 hf).1
    rcases (by omega : i = 0 ∨ i = 1 ∨ i = 2 ∨ i = 3 ∨ i = 4) with rfl | rfl | rfl | rfl | rfl <;> · cases hf; rfl)
    (fields_cons (fun _ _ _ _ h => h) (opens_int Tryd.underlying3) (fields_cons (fun _ _ _ _ h => h) (opens_int Tryd.underlying3) (fields_cons (fun _ _ _ _ h => h) (opens_bool Tryd.underlying4)
      (fields_cons (fun _ _ _ _ h => h) opens_call (fields_cons (fun _ _ _ _ h => h) (opens_int Tryd.underlying3) fields_nil)))))
  refine opens_map (α := EvT) evOf K ?_ ?_
  · rintro h c ⟨a1, a2, a3, ⟨a4, a5, a6, a7⟩, a8, a9⟩ ⟨_, _, rfl, rfl, _, _, rfl, rfl, _, _, rfl, rfl, _, _, rfl, rfl, _, _, rfl, rfl, rfl⟩
    rfl
  · rintro d ⟨a1, a2, a3, ⟨a4, a5, a6, a7⟩, a8, a9⟩ ⟨parts, rfl, x1, _, rfl, _, x2, _, rfl, _, x3, _, rfl, _, x4, _, rfl, h4, x5, _, rfl, _, rfl⟩
    unfold DCall at h4
    subst h4
    exact ⟨_, _, _, _, _, _, rfl⟩
theorem opens_evs (hW : ∃ (g : Nat) (cc : Array Value) (ty : TypeId) (fr : Nat × Nat), W.heap[g]? = some (.cells cc ty fr)) : Opens enc Tryd.prog W 22 (RowsC 7 REv) (RowsD DEv) :=
  opens_sliceC Tryd.underlying22 (by kernel_rfl) (by decide) hW (fun _ _ _ _ h => h) opens_ev
end

structure EvsF (H : Heap) (s : Slc) (l : List Ev) : Prop where
  sl : Sl H s 7 encE l
  here : s.nil = false → rdCells H s.b s.o 0 = some []
theorem EvsF.ext {h H : Heap} {s : Slc} {l : List Ev} (k : EvsF h s l) [e : ExtC h H] : EvsF H s l := ⟨k.sl.ext, fun hn => e.out.rd (k.here hn)⟩
theorem evs_of {H : Heap} {c : List AV} {l : List Ev} (h : RowsC 7 REv H c l) : ∃ s : Slc, c = [s.av] ∧ EvsF H s l := by
  obtain ⟨q, cells, rfl, h1, h2, h3, h4⟩ := h
  refine ⟨q, rfl, ⟨by simp [h1], fun i x hx => ?_⟩, h4⟩
  obtain ⟨cl, hcl⟩ := lt_len h2.symm (List.getElem?_eq_some_iff.1 hx).1
  obtain ⟨k1, k2⟩ := h3 i x cl hx hcl
  rw [k1, k2]
theorem weights_mem_allC {H : Type} {P : Program} {e : TypeId} : ∀ {ds : List (DataW H)} {i : Nat} {d : DataW H}, ds[i]? = some d → ∀ n ∈ d.weights P e, n ∈ DataW.weightsAll P e ds
  | d0 :: r, 0, d, hd, n, hn => by
    simp only [List.getElem?_cons_zero, Option.some.injEq] at hd
    subst hd
    simp only [DataW.weightsAll, List.mem_append]
    exact .inl hn
  | d0 :: r, i + 1, d, hd, n, hn => by
    simp only [DataW.weightsAll, List.mem_append]
    exact .inr (weights_mem_allC (by simpa using hd) n hn)
  | [], _, _, hd, _, _ => by simp at hd
structure SmallE (l : List Ev) : Prop where
  len : l.length ≤ 140737488355327
  ops : ∀ e ∈ l, e.call.op.length ≤ 140737488355327
theorem evs_small {H : Type} {d : DataW H} {l : List Ev} (hd : RowsD DEv d l) (hs : ∀ n ∈ d.weights Tryd.prog 22, n ≤ reachBytes) : SmallE l := by
  have hlt := reachBytes_lt
  have e3 : (2 : Nat) ^ 47 = 140737488355328 := by decide
  rcases hd with ⟨rfl, hl⟩ | ⟨elems, rest, rfl, hl, hall⟩
  · rw [hl]
    exact ⟨by decide, by simp⟩
  · simp only [DataW.weights, Tryd.underlying22, List.mem_cons, List.mem_append] at hs
    have hb : Tryd.prog.bytesOf 52 = 64 := by kernel_rfl
    have h1 := hs _ (.inl rfl)
    rw [hb] at h1
    refine ⟨by omega, fun e he => ?_⟩
    obtain ⟨i, hi⟩ := List.mem_iff_getElem?.1 he
    obtain ⟨y, hy⟩ := lt_len hl.symm (List.getElem?_eq_some_iff.1 hi).1
    have hw : ∀ n ∈ y.weights Tryd.prog 52, n ≤ reachBytes := fun n hn => hs n (.inr (.inl (weights_mem_allC hy n hn)))
    obtain ⟨x1, x2, x3, y1, y2, x4, rfl⟩ := hall i y e hy hi
    simp only [DataW.weights, Tryd.underlying52, DataW.weightsEach, List.mem_append] at hw
    have hn : e.call.op.length ≤ reachBytes := hw _ (by simp [DataW.weights, DataW.weightsEach, Tryd.underlying50])
    omega
theorem evs_arg {H : Type} {enc : TypeId × Value → H} {W : World} {b : Nat} {v : Value} {d : DataW H} {p : List MemPlace} {m : Emb} {h : Heap} (hk : HR m h W.heap.size W W) (hW : ∃ (g : Nat) (cc : Array Value) (ty : TypeId) (fr : Nat × Nat), W.heap[g]? = some (.cells cc ty fr)) (hv : Value.okWide Tryd.prog W .any b 22 v) (ht : DataW.Trod enc Tryd.prog W 0 (fun _ => true) true 22 v d p) (hsz : ∀ n ∈ d.weights Tryd.prog 22, n ≤ reachBytes) :
    ∃ (m' : Emb) (t : Heap) (s : Slc) (l : List Ev), m.le m' ∧ HR m' (h ++ t) W.heap.size W W ∧ VR m' s.av v ∧ EvsF (h ++ t) s l ∧ SmallE l := by
  obtain ⟨a0, len, cap, rfl⟩ := okWide_slice Tryd.underlying22 hv
  obtain ⟨fuel, hf⟩ := ht
  obtain ⟨m1, t1, avs, l, h1, h2, h3, h4, h5, h6⟩ := opens_evs hW m h hk fuel _ _ hf
  obtain ⟨s, rfl, hs⟩ := evs_of h5
  refine ⟨m1, t1, s, l, h1, h2, ?_, hs, evs_small h6 hsz⟩
  obtain ⟨c, cs, e1, e2, e3⟩ := h3
  simp only [Value.cells, List.cons.injEq] at e1
  rw [e1.1]
  exact e2
end Go.Proofs.YtcjhjphmlfkikaaDoor.Mini

