/- Layer 16: scripts among the arguments, opened. -/
import Derived.Test.YtifkphfhadimaaaGreatDoorLwF
import Derived.Test.YtifkphfhadimaaaGreatDoorAbsG8
import Derived.SizedLaws
set_option linter.unusedVariables false
set_option linter.unusedSimpArgs false
set_option maxRecDepth 100000
namespace Go.Proofs.YtifkphfhadimaaaGreatDoor.Mini
open Go.Abs Go.RowKit Go.ChangeShapes Go.WideShapes

theorem weights_mem_all {H : Type} {P : Program} {e : TypeId} : ∀ {ds : List (DataW H)} {i : Nat} {d : DataW H}, ds[i]? = some d → ∀ n ∈ d.weights P e, n ∈ DataW.weightsAll P e ds
  | d0 :: r, 0, d, hd, n, hn => by
    simp only [List.getElem?_cons_zero, Option.some.injEq] at hd
    subst hd
    simp only [DataW.weightsAll, List.mem_append]
    exact .inl hn
  | d0 :: r, i + 1, d, hd, n, hn => by
    simp only [DataW.weightsAll, List.mem_append]
    exact .inr (weights_mem_all (by simpa using hd) n hn)
  | [], _, _, hd, _, _ => by simp at hd

theorem list_choose {β : Type} {P : Nat → β → Prop} : ∀ {n : Nat}, (∀ i, i < n → ∃ b, P i b) → ∃ bs : List β, bs.length = n ∧ ∀ (i : Nat) b, bs[i]? = some b → P i b
  | 0, _ => ⟨[], rfl, fun i b h => by simp at h⟩
  | n + 1, h => by
    obtain ⟨bs, h1, h2⟩ := list_choose (n := n) fun i hi => h i (by omega)
    obtain ⟨b, hb⟩ := h n (by omega)
    refine ⟨bs ++ [b], by simp [h1], fun i b' hi => ?_⟩
    by_cases hlt : i < bs.length
    · rw [List.getElem?_append_left hlt] at hi
      exact h2 i b' hi
    · rw [List.getElem?_append_right (by omega)] at hi
      have h3 := (List.getElem?_eq_some_iff.1 hi).1
      simp at h3
      have : i = n := by omega
      subst this
      have e : i - bs.length = 0 := by omega
      rw [e] at hi
      simp at hi
      subst hi
      exact hb

abbrev CallT := List UInt8 × Int × Int × Unit
def toForm (a : CallT) : Form := (a.1, a.2.1, a.2.2.1)
def RC : Heap → List AV → CallT → Prop := fun _ avs a => avs = encF (toForm a)
def DC {H : Type} : DataW H → CallT → Prop := fun d a => d = .agg [.lit (.string a.1), .lit (.int .i64 a.2.1), .lit (.int .i64 a.2.2.1)]

section
variable {H : Type} {enc : TypeId × Value → H} {W : World}
theorem opens_call : Opens enc Tryz.prog W 82 RC DC := by
  have K := opens_struct (enc := enc) (P := Tryz.prog) (W := W) (t := 82) (ts := [(9, 1), (3, 1), (3, 1)]) Tryz.underlying82 (by kernel_rfl) (by kernel_rfl) (fun i f hf => by
    have hi : i < 3 := (Array.getElem?_eq_some_iff.1 hf).1
    rcases (by omega : i = 0 ∨ i = 1 ∨ i = 2) with rfl | rfl | rfl <;> · cases hf; rfl)
    (fields_cons (fun _ _ _ _ h => h) (opens_string Tryz.underlying9) (fields_cons (fun _ _ _ _ h => h) (opens_int Tryz.underlying3) (fields_cons (fun _ _ _ _ h => h) (opens_int Tryz.underlying3) fields_nil)))
  intro m h hk fuel cs x hx
  obtain ⟨m1, t1, avs, a, h1, h2, h3, h4, h5, h6⟩ := K m h hk fuel cs x hx
  refine ⟨m1, t1, avs, a, h1, h2, h3, h4, ?_, ?_⟩
  · obtain ⟨c, r, rfl, rfl, c', r', rfl, rfl, c'', r'', rfl, rfl, rfl⟩ := h5
    rfl
  · obtain ⟨parts, hx, d, r, rfl, rfl, d', r', rfl, rfl, d'', r'', rfl, rfl, rfl⟩ := h6
    exact hx
theorem opens_script (hW : 0 < W.heap.size) : Opens enc Tryz.prog W 64 (RowsR 1 (RowsR 3 RC)) (RowsD (RowsD DC)) :=
  opens_slice Tryz.underlying64 (by kernel_rfl) (by decide) hW (stays_rows fun _ _ _ _ h => h) (opens_slice Tryz.underlying79 (by kernel_rfl) (by decide) hW (fun _ _ _ _ h => h) opens_call)
end

theorem sl_of_rows {H : Heap} {c : List AV} {l : List CallT} (h : RowsR 3 RC H c l) : ∃ q : Slc, c = [q.av] ∧ Sl H q 3 encF (l.map toForm) := by
  obtain ⟨q, cells, rfl, h1, h2, h3⟩ := h
  refine ⟨q, rfl, by simp [h1], fun i x hx => ?_⟩
  rw [List.getElem?_map] at hx
  cases hl : l[i]? with
  | none => rw [hl] at hx; simp at hx
  | some a =>
    rw [hl] at hx
    simp only [Option.map_some, Option.some.injEq] at hx
    subst hx
    obtain ⟨cl, hcl⟩ := lt_len h2.symm (List.getElem?_eq_some_iff.1 hl).1
    obtain ⟨k1, k2⟩ := h3 i a cl hl hcl
    rw [k1, k2]
theorem script_of {H : Heap} {avs : List AV} {lss : List (List CallT)} (h : RowsR 1 (RowsR 3 RC) H avs lss) : ∃ s : Slc, avs = [s.av] ∧ Script H s (lss.map (List.map toForm)) := by
  obtain ⟨s, cells, rfl, h1, h2, h3⟩ := h
  obtain ⟨qs, hq1, hq2⟩ := list_choose (n := lss.length) (P := fun i (q : Slc) => ∃ l c, lss[i]? = some l ∧ cells[i]? = some c ∧ c = [q.av] ∧ Sl H q 3 encF (l.map toForm)) fun i hi => by
    obtain ⟨l, hl⟩ := lt_len rfl hi
    obtain ⟨c, hc⟩ := lt_len h2.symm hi
    obtain ⟨q, e1, e2⟩ := sl_of_rows (h3 i l c hl hc).2
    exact ⟨q, l, c, hl, hc, e1, e2⟩
  refine ⟨s, rfl, ⟨qs, ⟨by rw [h1, hq1], fun i q hq => ?_⟩, by simp [hq1], fun i q l hq hl => ?_⟩⟩
  · obtain ⟨l, c, e1, e2, e3, e4⟩ := hq2 i q hq
    rw [(h3 i l c e1 e2).1, e3]
  · obtain ⟨l', c, e1, e2, e3, e4⟩ := hq2 i q hq
    rw [List.getElem?_map, e1] at hl
    simp only [Option.map_some, Option.some.injEq] at hl
    subst hl
    exact e4

theorem small_of {H : Type} {d : DataW H} {lss : List (List CallT)} (hd : RowsD (RowsD DC) d lss) (hs : ∀ n ∈ d.weights Tryz.prog 64, n ≤ reachBytes) : Small (lss.map (List.map toForm)) := by
  have hlt := reachBytes_lt
  have e3 : (2 : Nat) ^ 47 = 140737488355328 := by decide
  rcases hd with ⟨rfl, rfl⟩ | ⟨elems, rest, rfl, hl, hall⟩
  · exact ⟨by simp, by simp, by simp⟩
  · simp only [DataW.weights, Tryz.underlying64, List.mem_cons, List.mem_append] at hs
    have hb : Tryz.prog.bytesOf 79 = 24 := by kernel_rfl
    have hb2 : Tryz.prog.bytesOf 82 = 32 := by kernel_rfl
    have h1 := hs _ (.inl rfl)
    rw [hb] at h1
    have row : ∀ (i : Nat) (l : List CallT), lss[i]? = some l → l.length ≤ 140737488355327 ∧ ∀ c ∈ l, c.1.length ≤ 140737488355328 := by
      intro i l hi
      obtain ⟨y, hy⟩ := lt_len hl.symm (List.getElem?_eq_some_iff.1 hi).1
      have hw : ∀ n ∈ y.weights Tryz.prog 79, n ≤ reachBytes := fun n hn => hs n (.inr (.inl (weights_mem_all hy n hn)))
      rcases hall i y l hy hi with ⟨rfl, rfl⟩ | ⟨el, re, rfl, hel, hall2⟩
      · exact ⟨by simp, by simp⟩
      · simp only [DataW.weights, Tryz.underlying79, List.mem_cons, List.mem_append] at hw
        have h2 := hw _ (.inl rfl)
        rw [hb2] at h2
        refine ⟨by omega, fun c hc => ?_⟩
        obtain ⟨j, hj⟩ := List.mem_iff_getElem?.1 hc
        obtain ⟨z, hz⟩ := lt_len hel.symm (List.getElem?_eq_some_iff.1 hj).1
        have hz2 := hall2 j z c hz hj
        unfold DC at hz2
        subst hz2
        have := hw c.1.length (.inr (.inl (weights_mem_all hz _ (by simp [DataW.weights, Tryz.underlying82, DataW.weightsEach]))))
        omega
    refine ⟨by simp; omega, fun l hl => ?_, fun l hl c hc => ?_⟩
    · obtain ⟨l', hm, rfl⟩ := List.mem_map.1 hl
      obtain ⟨i, hi⟩ := List.mem_iff_getElem?.1 hm
      simpa using (row i l' hi).1
    · obtain ⟨l', hm, rfl⟩ := List.mem_map.1 hl
      obtain ⟨i, hi⟩ := List.mem_iff_getElem?.1 hm
      obtain ⟨a, ha, rfl⟩ := List.mem_map.1 hc
      exact (row i l' hi).2 a ha

theorem script_arg {H : Type} {enc : TypeId × Value → H} {W : World} {b : Nat} {v : Value} {d : DataW H} {p : List MemPlace} (hW : 0 < W.heap.size) (hv : Value.okWide Tryz.prog W .any b 64 v) (ht : DataW.Trod enc Tryz.prog W 0 (fun _ => true) true 64 v d p) (hsz : ∀ n ∈ d.weights Tryz.prog 64, n ≤ reachBytes) :
    ∃ (m : Emb) (t : Heap) (s : Slc) (ls : List (List Form)), HR m t W.heap.size W W ∧ VR m s.av v ∧ Script t s ls ∧ Small ls := by
  obtain ⟨a0, len, cap, rfl⟩ := okWide_slice Tryz.underlying64 hv
  obtain ⟨fuel, hf⟩ := ht
  obtain ⟨m1, t1, avs, lss, h1, h2, h3, h4, h5, h6⟩ := opens_script hW _ [] (HR.start W) fuel _ _ hf
  obtain ⟨s, rfl, hsc⟩ := script_of h5
  refine ⟨m1, t1, s, _, h2, ?_, hsc, small_of h6 hsz⟩
  obtain ⟨c, cs, e1, e2, e3⟩ := h3
  simp only [Value.cells, List.cons.injEq] at e1
  rw [e1.1]
  exact e2
end Go.Proofs.YtifkphfhadimaaaGreatDoor.Mini
