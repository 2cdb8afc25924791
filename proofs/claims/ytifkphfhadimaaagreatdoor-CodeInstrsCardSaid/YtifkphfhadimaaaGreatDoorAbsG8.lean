import Derived.Test.YtifkphfhadimaaaGreatDoorAbsG7
import Derived.ChangeArms
import Derived.ChangeSlices
set_option linter.unusedVariables false
set_option linter.unusedSimpArgs false
namespace Go.Abs
open Go.RowKit Go.ChangeShapes Go.WideShapes

/-- How the data of a type are opened: what lies on the abstract heap then (R), and which datum it is (D). -/
def Opens {H : Type} (enc : TypeId × Value → H) (P : Program) (W : World) {α : Type} (t : TypeId) (R : Heap → List AV → α → Prop) (D : DataW H → α → Prop) : Prop :=
  ∀ (m : Emb) (h : Heap), HR m h W.heap.size W W → ∀ (fuel : Nat) (cs : List Value) (x : DataW H × List MemPlace), DataW.trod enc P W 0 (fun _ => true) true fuel t cs = some x →
    ∃ (m' : Emb) (t' : Heap) (avs : List AV) (a : α), m.le m' ∧ HR m' (h ++ t') W.heap.size W W ∧ VRs m' avs cs ∧ (∀ c ∈ cs, isCell c = true) ∧ R (h ++ t') avs a ∧ D x.1 a
def Stays {α : Type} (R : Heap → List AV → α → Prop) : Prop := ∀ (h t : Heap) (avs : List AV) (a : α), R h avs a → R (h ++ t) avs a

section
variable {H : Type} {enc : TypeId × Value → H} {P : Program} {W : World} {t : TypeId}

theorem opens_int {k : IntKind} (ht : P.underlying t = some (.int k)) : Opens enc P W t (fun _ avs (n : Int) => avs = [.int k n]) (fun d n => d = .lit (.int k n)) := by
  intro m h hk fuel cs x hx
  obtain ⟨n, rfl, rfl, _⟩ := DataW.trod_int ht hx
  exact ⟨m, [], [.int k n], n, Emb.le.refl m, by simpa using hk, by simp [VRs, VR], by simp [isCell], rfl, rfl⟩
theorem opens_bool (ht : P.underlying t = some .bool) : Opens enc P W t (fun _ avs (b : Bool) => avs = [.bool b]) (fun d b => d = .lit (.bool b)) := by
  intro m h hk fuel cs x hx
  obtain ⟨n, rfl, rfl⟩ := DataW.trod_bool ht hx
  exact ⟨m, [], [.bool n], n, Emb.le.refl m, by simpa using hk, by simp [VRs, VR], by simp [isCell], rfl, rfl⟩
end
end Go.Abs

set_option linter.unusedVariables false
set_option linter.unusedSimpArgs false
namespace Go.Abs
open Go.RowKit Go.ChangeShapes Go.WideShapes

theorem flat_len {es : Nat} : ∀ {cells : List (List AV)}, (∀ c ∈ cells, c.length = es) → cells.flatten.length = cells.length * es
  | [], _ => by simp
  | c :: r, h => by
    rw [List.flatten_cons, List.length_append, h c List.mem_cons_self, flat_len (fun c hc => h c (List.mem_cons_of_mem _ hc)), List.length_cons, Nat.add_mul]
    omega
section
variable {H : Type} {enc : TypeId × Value → H} {P : Program} {W : World} {t e : TypeId}

/-- The fields of a struct from field i on, as they lie. -/
def FieldsOpen (enc : TypeId × Value → H) (P : Program) (W : World) {α : Type} (ts : List (TypeId × Nat)) (R : Heap → List AV → α → Prop) (D : List (DataW H) → α → Prop) : Prop :=
  ∀ (m : Emb) (h : Heap), HR m h W.heap.size W W → ∀ (n : Nat) (cs : List Value) (xs : List (DataW H × List MemPlace)), xs.length = ts.length → cs.length = (ts.map (·.2)).sum →
    (∀ (i : Nat) (f : TypeId × Nat), ts[i]? = some f → DataW.trod enc P W 0 (fun _ => true) true n f.1 ((cs.drop ((ts.take i).map (·.2)).sum).take f.2) = xs[i]?) →
    ∃ (m' : Emb) (t' : Heap) (avs : List AV) (a : α), m.le m' ∧ HR m' (h ++ t') W.heap.size W W ∧ VRs m' avs cs ∧ (∀ c ∈ cs, isCell c = true) ∧ R (h ++ t') avs a ∧ D (xs.map (·.1)) a

theorem fields_nil : FieldsOpen enc P W (α := Unit) [] (fun _ avs _ => avs = []) (fun ds _ => ds = []) := by
  intro m h hk n cs xs hxs hcs _
  obtain rfl : xs = [] := List.eq_nil_of_length_eq_zero hxs
  obtain rfl : cs = [] := List.eq_nil_of_length_eq_zero (by simpa using hcs)
  exact ⟨m, [], [], (), Emb.le.refl m, by simpa using hk, by simp [VRs], by simp, rfl, rfl⟩

theorem fields_cons {α β : Type} {f : TypeId} {z : Nat} {ts : List (TypeId × Nat)} {R : Heap → List AV → α → Prop} {D : DataW H → α → Prop} {R2 : Heap → List AV → β → Prop} {D2 : List (DataW H) → β → Prop} (hR : Stays R) (K : Opens enc P W f R D) (K2 : FieldsOpen enc P W ts R2 D2) :
    FieldsOpen enc P W (α := α × β) ((f, z) :: ts) (fun H avs a => ∃ c r, avs = c ++ r ∧ R H c a.1 ∧ R2 H r a.2) (fun ds a => ∃ d r, ds = d :: r ∧ D d a.1 ∧ D2 r a.2) := by
  intro m h hk n cs xs hxs hcs hall
  cases xs with
  | nil => simp at hxs
  | cons x xs =>
    simp only [List.map_cons, List.sum_cons] at hcs
    have h0 := hall 0 (f, z) rfl
    simp only [List.take_zero, List.map_nil, List.sum_nil, List.drop_zero, List.getElem?_cons_zero] at h0
    obtain ⟨m1, t1, c, a, hle, hk1, hv, hc, hr, hd⟩ := K m h hk n _ x h0
    obtain ⟨m2, t2, r, b, hle2, hk2, hv2, hc2, hr2, hd2⟩ := K2 m1 (h ++ t1) hk1 n (cs.drop z) xs (by simpa using hxs) (by rw [List.length_drop]; omega) (fun i g hg => by
      have := hall (i + 1) g (by simpa using hg)
      simp only [List.take_succ_cons, List.map_cons, List.sum_cons, List.getElem?_cons_succ] at this
      rw [List.drop_drop]
      exact this)
    refine ⟨m2, t1 ++ t2, c ++ r, (a, b), hle.trans hle2, by rw [← List.append_assoc]; exact hk2, ?_, fun v hv => ?_, ⟨c, r, rfl, by rw [← List.append_assoc]; exact hR _ _ _ _ hr, by rw [← List.append_assoc]; exact hr2⟩, ⟨x.1, xs.map (·.1), rfl, hd, hd2⟩⟩
    · have := (VRs.mono hle2 _ _ hv).append hv2
      rwa [List.take_append_drop] at this
    · rw [← List.take_append_drop z cs] at hv
      rcases List.mem_append.1 hv with h1 | h1
      · exact hc v h1
      · exact hc2 v h1

/-- The offsets that a struct's fields have where they lie one behind the other. -/
def fieldRow (P : Program) (fs : List Field) : List (TypeId × Nat) := fs.map fun f => (f.type, P.cellsOf f.type)
theorem opens_struct {α : Type} {fs : Array Field} {ts : List (TypeId × Nat)} {R : Heap → List AV → α → Prop} {D : List (DataW H) → α → Prop} (ht : P.underlying t = some (.struct fs)) (hfs : fieldRow P fs.toList = ts) (hsum : P.cellsOf t = (ts.map (·.2)).sum)
    (hoff : ∀ (i : Nat) (f : Field), fs[i]? = some f → f.offset = ((ts.take i).map (·.2)).sum) (K : FieldsOpen enc P W ts R D) : Opens enc P W t R (fun d a => ∃ parts, d = .agg parts ∧ D parts a) := by
  intro m h hk fuel cs x hx
  obtain ⟨xs, n, rfl, rfl, hl, hxl, hall⟩ := DataW.trod_struct ht hx
  have hlen : ts.length = fs.size := by rw [← hfs]; simp [fieldRow]
  obtain ⟨m1, t1, avs, a, h1, h2, h3, h4, h5, h6⟩ := K m h hk n cs xs (by omega) (by rw [hl, hsum]) (fun i g hg => by
    have hi : i < fs.size := by have := (List.getElem?_eq_some_iff.1 hg).1; omega
    obtain ⟨f, hf⟩ : ∃ f, fs[i]? = some f := ⟨_, Array.getElem?_eq_getElem hi⟩
    have := hall i f hf
    rw [hoff i f hf] at this
    have eg : g = (f.type, P.cellsOf f.type) := by
      rw [← hfs] at hg
      simp only [fieldRow, List.getElem?_map, Array.getElem?_toList, hf, Option.map_some, Option.some.injEq] at hg
      exact hg.symm
    rw [eg]
    exact this)
  exact ⟨m1, t1, avs, a, h1, h2, h3, h4, h5, _, rfl, h6⟩
end
end Go.Abs

