import Derived.Test.YtifkphfhadimaaaGreatDoorCdC
import Derived.Test.YtifkphfhadimaaaGreatDoorAbsG8
import Derived.SizedLaws
set_option linter.unusedVariables false
set_option linter.unusedSimpArgs false
set_option maxRecDepth 100000
namespace Go.Proofs.YtifkphfhadimaaaGreatDoor.Mini
open Go.Abs Go.RowKit Go.ChangeShapes Go.WideShapes

theorem weights_mem_allC {H : Type} {P : Program} {e : TypeId} : ∀ {ds : List (DataW H)} {i : Nat} {d : DataW H}, ds[i]? = some d → ∀ n ∈ d.weights P e, n ∈ DataW.weightsAll P e ds
  | d0 :: r, 0, d, hd, n, hn => by
    simp only [List.getElem?_cons_zero, Option.some.injEq] at hd
    subst hd
    simp only [DataW.weightsAll, List.mem_append]
    exact .inl hn
  | d0 :: r, i + 1, d, hd, n, hn => by
    simp only [DataW.weightsAll, List.mem_append]
    exact .inr (weights_mem_allC (by simpa using hd) n hn)
  | [], _, _, hd, _, _ => by simp at hd

theorem list_chooseC {β : Type} {P : Nat → β → Prop} : ∀ {n : Nat}, (∀ i, i < n → ∃ b, P i b) → ∃ bs : List β, bs.length = n ∧ ∀ (i : Nat) b, bs[i]? = some b → P i b
  | 0, _ => ⟨[], rfl, fun i b h => by simp at h⟩
  | n + 1, h => by
    obtain ⟨bs, h1, h2⟩ := list_chooseC (n := n) fun i hi => h i (by omega)
    obtain ⟨b, hb⟩ := h n (by omega)
    refine ⟨bs ++ [b], by simp [h1], fun i b' hi => ?_⟩
    by_cases hlt : i < bs.length
    · rw [List.getElem?_append_left hlt] at hi
      exact h2 i b' hi
    · rw [List.getElem?_append_right (by omega)] at hi
      have h3 := (List.getElem?_eq_some_iff.1 hi).1
      simp at h3
      have : i = n := by omega
      subst this
      have e : i - bs.length = 0 := by omega
      rw [e] at hi
      simp at hi
      subst hi
      exact hb

section
variable {H : Type} {enc : TypeId × Value → H} {W : World}
theorem opens_map {P : Program} {t : TypeId} {α β : Type} {R : Heap → List AV → α → Prop} {D : DataW H → α → Prop} {R' : Heap → List AV → β → Prop} {D' : DataW H → β → Prop} (f : α → β) (K : Opens enc P W t R D) (h1 : ∀ h c a, R h c a → R' h c (f a)) (h2 : ∀ d a, D d a → D' d (f a)) : Opens enc P W t R' D' := by
  intro m h hk fuel cs x hx
  obtain ⟨m1, t1, avs, a, e1, e2, e3, e4, e5, e6⟩ := K m h hk fuel cs x hx
  exact ⟨m1, t1, avs, f a, e1, e2, e3, e4, h1 _ _ _ e5, h2 _ _ e6⟩

theorem opens_opd : Opens enc Tryz.prog W 34 (fun _ avs (a : Int × Int × Unit) => avs = [.int .i64 a.1, .int .i64 a.2.1]) (fun _ _ => True) := by
  have K := opens_struct (enc := enc) (P := Tryz.prog) (W := W) (t := 34) (ts := [(3, 1), (3, 1)]) Tryz.underlying34 (by kernel_rfl) (by kernel_rfl) (fun i f hf => by
    have hi : i < 2 := (Array.getElem?_eq_some_iff.1 hf).1
    rcases (by omega : i = 0 ∨ i = 1) with rfl | rfl <;> · cases hf; rfl)
    (fields_cons (fun _ _ _ _ h => h) (opens_int Tryz.underlying3) (fields_cons (fun _ _ _ _ h => h) (opens_int Tryz.underlying3) fields_nil))
  refine opens_map (fun a => a) K ?_ fun _ _ _ => trivial
  rintro h c a ⟨c, r, rfl, rfl, c', r', rfl, rfl, rfl⟩
  rfl

def b2i (b : Bool) : Int := if b = true then 1 else 0
theorem b2i_eq (b : Bool) : (b2i b == 1) = b := by cases b <;> rfl
abbrev InsT := Int × Bool × Int × (Int × Int × Unit) × (Int × Int × Unit) × (Int × Int × Unit) × Int × Int × Unit
def insL (a : InsT) : List Int := [a.1, b2i a.2.1, a.2.2.1, a.2.2.2.1.1, a.2.2.2.1.2.1, a.2.2.2.2.1.1, a.2.2.2.2.1.2.1, a.2.2.2.2.2.1.1, a.2.2.2.2.2.1.2.1, a.2.2.2.2.2.2.1, a.2.2.2.2.2.2.2.1]
def RIns : Heap → List AV → List Int → Prop := fun _ avs l => avs = insW l
theorem opens_ins : Opens enc Tryz.prog W 36 RIns (fun _ _ => True) := by
  have K := opens_struct (enc := enc) (P := Tryz.prog) (W := W) (t := 36) (ts := [(3, 1), (4, 1), (3, 1), (34, 2), (34, 2), (34, 2), (3, 1), (3, 1)]) Tryz.underlying36 (by kernel_rfl) (by kernel_rfl) (fun i f hf => by
    have hi : i < 8 := (Array.getElem?_eq_some_iff.1 hf).1
    rcases (by omega : i = 0 ∨ i = 1 ∨ i = 2 ∨ i = 3 ∨ i = 4 ∨ i = 5 ∨ i = 6 ∨ i = 7) with rfl | rfl | rfl | rfl | rfl | rfl | rfl | rfl <;> · cases hf; rfl)
    (fields_cons (fun _ _ _ _ h => h) (opens_int Tryz.underlying3) (fields_cons (fun _ _ _ _ h => h) (opens_bool Tryz.underlying4) (fields_cons (fun _ _ _ _ h => h) (opens_int Tryz.underlying3)
      (fields_cons (fun _ _ _ _ h => h) opens_opd (fields_cons (fun _ _ _ _ h => h) opens_opd (fields_cons (fun _ _ _ _ h => h) opens_opd
      (fields_cons (fun _ _ _ _ h => h) (opens_int Tryz.underlying3) (fields_cons (fun _ _ _ _ h => h) (opens_int Tryz.underlying3) fields_nil))))))))
  refine opens_map (α := InsT) insL K ?_ fun _ _ _ => trivial
  rintro h c ⟨a1, a2, a3, a4, a5, a6, a7, a8, a9⟩ ⟨_, _, rfl, rfl, _, _, rfl, rfl, _, _, rfl, rfl, _, _, rfl, rfl, _, _, rfl, rfl, _, _, rfl, rfl, _, _, rfl, rfl, _, _, rfl, rfl, rfl⟩
  simp only [RIns, insW, insL, List.cons_append, List.nil_append, List.getD_cons_zero, List.getD_cons_succ, b2i_eq]

theorem opens_code (hW : ∃ (g : Nat) (cc : Array Value) (ty : TypeId) (fr : Nat × Nat), W.heap[g]? = some (.cells cc ty fr)) : Opens enc Tryz.prog W 30 (RowsC 11 RIns) (RowsD (fun _ _ => True)) :=
  opens_sliceC Tryz.underlying30 (by kernel_rfl) (by decide) hW (fun _ _ _ _ h => h) opens_ins

def RRout : Heap → List AV → Rout → Prop := fun h avs r => ∃ c, avs = .str r.1 :: c ∧ RowsC 11 RIns h c r.2
def DRout : DataW H → Rout → Prop := fun d r => ∃ e, d = .agg [.lit (.string r.1), e] ∧ RowsD (fun _ (_ : List Int) => True) e r.2
theorem stays_code : Stays (RowsC 11 RIns) := stays_rowsC fun _ _ _ _ h => h
theorem stays_rout : Stays RRout := by
  rintro h t avs r ⟨c, rfl, h1⟩
  exact ⟨c, rfl, stays_code _ _ _ _ h1⟩
theorem opens_rout (hW : ∃ (g : Nat) (cc : Array Value) (ty : TypeId) (fr : Nat × Nat), W.heap[g]? = some (.cells cc ty fr)) : Opens enc Tryz.prog W 32 RRout DRout := by
  have K := opens_struct (enc := enc) (P := Tryz.prog) (W := W) (t := 32) (ts := [(9, 1), (30, 1)]) Tryz.underlying32 (by kernel_rfl) (by kernel_rfl) (fun i f hf => by
    have hi : i < 2 := (Array.getElem?_eq_some_iff.1 hf).1
    rcases (by omega : i = 0 ∨ i = 1) with rfl | rfl <;> · cases hf; rfl)
    (fields_cons (fun _ _ _ _ h => h) (opens_string Tryz.underlying9) (fields_cons stays_code (opens_code hW) fields_nil))
  refine opens_map (fun (a : List UInt8 × List (List Int) × Unit) => ((a.1, a.2.1) : Rout)) K ?_ ?_
  · rintro h c ⟨a1, a2, a3⟩ ⟨_, _, rfl, rfl, c', _, rfl, h1, rfl⟩
    exact ⟨c', by simp, h1⟩
  · rintro d ⟨a1, a2, a3⟩ ⟨parts, rfl, _, _, rfl, rfl, e, _, rfl, h1, rfl⟩
    exact ⟨e, rfl, h1⟩
theorem opens_routs (hW : ∃ (g : Nat) (cc : Array Value) (ty : TypeId) (fr : Nat × Nat), W.heap[g]? = some (.cells cc ty fr)) : Opens enc Tryz.prog W 23 (RowsC 2 RRout) (RowsD DRout) :=
  opens_sliceC Tryz.underlying23 (by kernel_rfl) (by decide) hW stays_rout (opens_rout hW)

abbrev ProgT := List UInt8 × Int × List Rout
def RProg : Heap → List AV → ProgT → Prop := fun h avs p => ∃ c, avs = .str p.1 :: .int .i64 p.2.1 :: c ∧ RowsC 2 RRout h c p.2.2
def DProg : DataW H → ProgT → Prop := fun d p => ∃ e, d = .agg [.lit (.string p.1), .lit (.int .i64 p.2.1), e] ∧ RowsD DRout e p.2.2
theorem opens_prog (hW : ∃ (g : Nat) (cc : Array Value) (ty : TypeId) (fr : Nat × Nat), W.heap[g]? = some (.cells cc ty fr)) : Opens enc Tryz.prog W 25 RProg DProg := by
  have K := opens_struct (enc := enc) (P := Tryz.prog) (W := W) (t := 25) (ts := [(9, 1), (3, 1), (23, 1)]) Tryz.underlying25 (by kernel_rfl) (by kernel_rfl) (fun i f hf => by
    have hi : i < 3 := (Array.getElem?_eq_some_iff.1 hf).1
    rcases (by omega : i = 0 ∨ i = 1 ∨ i = 2) with rfl | rfl | rfl <;> · cases hf; rfl)
    (fields_cons (fun _ _ _ _ h => h) (opens_string Tryz.underlying9) (fields_cons (fun _ _ _ _ h => h) (opens_int Tryz.underlying3) (fields_cons (stays_rowsC stays_rout) (opens_routs hW) fields_nil)))
  refine opens_map (fun (a : List UInt8 × Int × List Rout × Unit) => ((a.1, a.2.1, a.2.2.1) : ProgT)) K ?_ ?_
  · rintro h c ⟨a1, a2, a3, a4⟩ ⟨_, _, rfl, rfl, _, _, rfl, rfl, c', _, rfl, h1, rfl⟩
    exact ⟨c', by simp, h1⟩
  · rintro d ⟨a1, a2, a3, a4⟩ ⟨parts, rfl, _, _, rfl, rfl, _, _, rfl, rfl, e, _, rfl, h1, rfl⟩
    exact ⟨e, rfl, h1⟩
end

theorem sl_of_code {H : Heap} {c : List AV} {l : List (List Int)} (h : RowsC 11 RIns H c l) : ∃ q : Slc, c = [q.av] ∧ Sl H q 11 insW l ∧ (q.nil = false → rdCells H q.b q.o 0 = some []) := by
  obtain ⟨q, cells, rfl, h1, h2, h3, h4⟩ := h
  refine ⟨q, rfl, ⟨by simp [h1], fun i x hx => ?_⟩, h4⟩
  obtain ⟨cl, hcl⟩ := lt_len h2.symm (List.getElem?_eq_some_iff.1 hx).1
  obtain ⟨k1, k2⟩ := h3 i x cl hx hcl
  rw [k1, k2]
structure ProgF (H : Heap) (s : Slc) (p : List Rout) : Prop where
  rows : ∃ qs : List (List UInt8 × Slc), Sl H s 2 encR qs ∧ qs.length = p.length ∧ ∀ (i : Nat) (q : List UInt8 × Slc) (r : Rout), qs[i]? = some q → p[i]? = some r → q.1 = r.1 ∧ Sl H q.2 11 insW r.2 ∧ (q.2.nil = false → rdCells H q.2.b q.2.o 0 = some [])
theorem ProgF.on {H : Heap} {s : Slc} {p : List Rout} (k : ProgF H s p) : ProgOn H s p := by
  obtain ⟨qs, h1, h2, h3⟩ := k.rows
  exact ⟨qs, h1, h2, fun i q r hq hr => ⟨(h3 i q r hq hr).1, (h3 i q r hq hr).2.1⟩⟩
theorem ProgF.ext {h H : Heap} {s : Slc} {p : List Rout} (k : ProgF h s p) [e : ExtC h H] : ProgF H s p := by
  obtain ⟨qs, h1, h2, h3⟩ := k.rows
  exact ⟨qs, h1.ext, h2, fun i q r hq hr => ⟨(h3 i q r hq hr).1, (h3 i q r hq hr).2.1.ext, fun hn => e.out.rd ((h3 i q r hq hr).2.2 hn)⟩⟩
theorem prog_of_rows {H : Heap} {avs : List AV} {p : List Rout} (h : RowsC 2 RRout H avs p) : ∃ s : Slc, avs = [s.av] ∧ ProgF H s p := by
  obtain ⟨s, cells, rfl, h1, h2, h3, _⟩ := h
  obtain ⟨qs, hq1, hq2⟩ := list_chooseC (n := p.length) (P := fun i (q : List UInt8 × Slc) => ∃ r c, p[i]? = some r ∧ cells[i]? = some c ∧ c = encR q ∧ q.1 = r.1 ∧ Sl H q.2 11 insW r.2 ∧ (q.2.nil = false → rdCells H q.2.b q.2.o 0 = some [])) fun i hi => by
    obtain ⟨r, hr⟩ := lt_len rfl hi
    obtain ⟨c, hc⟩ := lt_len h2.symm hi
    obtain ⟨c', e1, e2⟩ := (h3 i r c hr hc).2
    obtain ⟨q, e3, e4⟩ := sl_of_code e2
    exact ⟨(r.1, q), r, c, hr, hc, by rw [e1, e3]; rfl, rfl, e4⟩
  refine ⟨s, rfl, ⟨qs, ⟨by rw [h1, hq1], fun i q hq => ?_⟩, hq1, fun i q r hq hr => ?_⟩⟩
  · obtain ⟨r, c, e1, e2, e3, e4⟩ := hq2 i q hq
    rw [(h3 i r c e1 e2).1, e3]
  · obtain ⟨r', c, e1, e2, e3, e4, e5⟩ := hq2 i q hq
    rw [e1] at hr
    cases hr
    exact ⟨e4, e5⟩

structure SmallP (p : ProgT) : Prop where
  name : p.1.length ≤ 140737488355328
  len : p.2.2.length ≤ 140737488355327
  code : ∀ r ∈ p.2.2, r.2.length ≤ 140737488355327
  names : ∀ r ∈ p.2.2, r.1.length ≤ 140737488355328
theorem smallP_of {H : Type} {d : DataW H} {p : ProgT} (hd : DProg d p) (hs : ∀ n ∈ d.weights Tryz.prog 25, n ≤ reachBytes) : SmallP p := by
  have hlt := reachBytes_lt
  have e3 : (2 : Nat) ^ 47 = 140737488355328 := by decide
  obtain ⟨e, rfl, he⟩ := hd
  simp only [DataW.weights, Tryz.underlying25, DataW.weightsEach, List.mem_append] at hs
  have hn : p.1.length ≤ reachBytes := hs _ (by simp [DataW.weights, DataW.weightsEach])
  have hs2 : ∀ n ∈ e.weights Tryz.prog 23, n ≤ reachBytes := fun n hn => hs n (by simp [DataW.weightsEach, hn])
  clear hs
  rcases he with ⟨rfl, hl⟩ | ⟨elems, rest, rfl, hl, hall⟩
  · exact ⟨by omega, by rw [hl]; decide, by rw [hl]; simp, by rw [hl]; simp⟩
  · simp only [DataW.weights, Tryz.underlying23, List.mem_cons, List.mem_append] at hs2
    have hb : Tryz.prog.bytesOf 32 = 40 := by kernel_rfl
    have hb2 : Tryz.prog.bytesOf 36 = 88 := by kernel_rfl
    have h1 := hs2 _ (.inl rfl)
    rw [hb] at h1
    have row : ∀ r ∈ p.2.2, r.2.length ≤ 140737488355327 ∧ r.1.length ≤ 140737488355328 := by
      intro r hr
      obtain ⟨i, hi⟩ := List.mem_iff_getElem?.1 hr
      obtain ⟨y, hy⟩ := lt_len hl.symm (List.getElem?_eq_some_iff.1 hi).1
      have hw : ∀ n ∈ y.weights Tryz.prog 32, n ≤ reachBytes := fun n hn => hs2 n (.inr (.inl (weights_mem_allC hy n hn)))
      obtain ⟨e', rfl, he'⟩ := hall i y r hy hi
      simp only [DataW.weights, Tryz.underlying32, DataW.weightsEach, List.mem_append] at hw
      have hn2 : r.1.length ≤ reachBytes := hw _ (by simp [DataW.weights, DataW.weightsEach])
      have hw2 : ∀ n ∈ e'.weights Tryz.prog 30, n ≤ reachBytes := fun n hn => hw n (by simp [DataW.weightsEach, hn])
      rcases he' with ⟨rfl, hl2⟩ | ⟨el, re, rfl, hel, _⟩
      · exact ⟨by rw [hl2]; decide, by omega⟩
      · simp only [DataW.weights, Tryz.underlying30, List.mem_cons, List.mem_append] at hw2
        have h2 := hw2 _ (.inl rfl)
        rw [hb2] at h2
        exact ⟨by omega, by omega⟩
    exact ⟨by omega, by omega, fun r hr => (row r hr).1, fun r hr => (row r hr).2⟩

theorem agg_of {m : Emb} {avs : List AV} {cs : Array Value} (h1 : VRs m avs cs.toList) (h2 : ∀ c ∈ cs.toList, isCell c = true) : VR m (.agg avs) (.agg cs) := ⟨cs, rfl, h1, h2⟩

theorem prog_arg {H : Type} {enc : TypeId × Value → H} {W : World} {b : Nat} {v : Value} {d : DataW H} {p : List MemPlace} {m : Emb} {h : Heap} (hk : HR m h W.heap.size W W) (hW : ∃ (g : Nat) (cc : Array Value) (ty : TypeId) (fr : Nat × Nat), W.heap[g]? = some (.cells cc ty fr)) (hv : Value.okWide Tryz.prog W .any b 25 v) (ht : DataW.Trod enc Tryz.prog W 0 (fun _ => true) true 25 v d p) (hsz : ∀ n ∈ d.weights Tryz.prog 25, n ≤ reachBytes) :
    ∃ (m' : Emb) (t : Heap) (s : Slc) (q : ProgT), m.le m' ∧ HR m' (h ++ t) W.heap.size W W ∧ VR m' (.agg [.str q.1, .int .i64 q.2.1, s.av]) v ∧ ProgF (h ++ t) s q.2.2 ∧ SmallP q := by
  obtain ⟨cs, rfl, _⟩ := okWide_struct Tryz.underlying25 hv
  obtain ⟨fuel, hf⟩ := ht
  obtain ⟨m1, t1, avs, q, h1, h2, h3, h4, ⟨c, h5, h5'⟩, h6⟩ := opens_prog hW m h hk fuel _ _ hf
  obtain ⟨s, rfl, hsc⟩ := prog_of_rows h5'
  exact ⟨m1, t1, s, q, h1, h2, agg_of (by rw [← h5]; exact h3) h4, hsc, smallP_of h6 hsz⟩
end Go.Proofs.YtifkphfhadimaaaGreatDoor.Mini

