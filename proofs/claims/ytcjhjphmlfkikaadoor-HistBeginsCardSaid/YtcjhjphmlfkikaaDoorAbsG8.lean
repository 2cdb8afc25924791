import Derived.Test.YtcjhjphmlfkikaaDoorAbsG7
import Derived.ChangeArms
import Derived.ChangeSlices
set_option linter.unusedVariables false
set_option linter.unusedSimpArgs false
namespace Go.Abs
open Go.RowKit Go.ChangeShapes Go.WideShapes

theorem HR.look {m : Emb} {h : Heap} {base : Nat} {w0 w : World} (k : HR m h base w0 w) {g off es : Nat} {c : List AV} {cc : Array Value} {t : TypeId} {fr : Nat × Nat} (hgb : g < base) (hg : w.heap[g]? = some (.cells cc t fr)) (hoff : off + c.length ≤ cc.size)
    (hc : ∀ (i : Nat) (v : AV), c[i]? = some v → ∃ cv, cc[off + i]? = some cv ∧ VR m v cv ∧ isCell cv = true) :
    HR (m.upd h.length ⟨g, off, cc.size, es⟩) (h ++ [.arr c es true]) base w0 w := by
  have hle : m.le (m.upd h.length ⟨g, off, cc.size, es⟩) := Emb.le_upd k.none_of_len
  refine ⟨k.below, k.size, fun b o hb => ?_, fun b e he => ?_, fun b1 b2 o1 o2 e1 e2 h1 h2 r1 r2 m1 m2 hne => ?_⟩
  · rw [List.getElem?_append] at hb
    split at hb
    · exact (k.obj b o hb).mono hle fun e he => rfl
    · rename_i hge
      have hb1 : b - h.length < [AObj.arr c es true].length := (List.getElem?_eq_some_iff.1 hb).1
      simp at hb1
      have hbe : b = h.length := by omega
      subst hbe
      simp at hb
      subst hb
      refine ⟨_, Emb.upd_same _ _ _, rfl, cc, t, fr, hg, rfl, hoff, fun i v hi => ?_, fun hr => (by cases hr), fun _ => hgb⟩
      obtain ⟨cv, a1, a2, a3⟩ := hc i v hi
      exact ⟨cv, a1, VR.mono hle _ _ a2, a3⟩
  · by_cases hb : b = h.length
    · subst hb
      rw [Emb.upd_same] at he
      cases he
      exact ⟨(by have := k.size; simp only; omega), by simp⟩
    · rw [Emb.upd_ne _ _ hb] at he
      have := k.lt b e he
      exact ⟨this.1, by simp; omega⟩
  · have low : ∀ (b : Nat) (o : AObj), (h ++ [AObj.arr c es true])[b]? = some o → o.rw = true → b ≠ h.length ∧ h[b]? = some o := by
      intro b o ho hr
      rw [List.getElem?_append] at ho
      split at ho
      · rename_i hlt
        exact ⟨by omega, ho⟩
      · have hb1 : b - h.length < [AObj.arr c es true].length := (List.getElem?_eq_some_iff.1 ho).1
        simp at hb1
        have hbe : b = h.length := by omega
        subst hbe
        simp at ho
        subst ho
        cases hr
    obtain ⟨n1, g1⟩ := low b1 o1 h1 r1
    obtain ⟨n2, g2⟩ := low b2 o2 h2 r2
    rw [Emb.upd_ne _ _ n1] at m1
    rw [Emb.upd_ne _ _ n2] at m2
    exact k.uniq b1 b2 o1 o2 e1 e2 g1 g2 r1 r2 m1 m2 hne

def Opens {H : Type} (enc : TypeId × Value → H) (P : Program) (W : World) {α : Type} (t : TypeId) (R : Heap → List AV → α → Prop) (D : DataW H → α → Prop) : Prop :=
  ∀ (m : Emb) (h : Heap), HR m h W.heap.size W W → ∀ (fuel : Nat) (cs : List Value) (x : DataW H × List MemPlace), DataW.trod enc P W 0 (fun _ => true) true fuel t cs = some x →
    ∃ (m' : Emb) (t' : Heap) (avs : List AV) (a : α), m.le m' ∧ HR m' (h ++ t') W.heap.size W W ∧ VRs m' avs cs ∧ (∀ c ∈ cs, isCell c = true) ∧ R (h ++ t') avs a ∧ D x.1 a
def Stays {α : Type} (R : Heap → List AV → α → Prop) : Prop := ∀ (h t : Heap) (avs : List AV) (a : α), R h avs a → R (h ++ t) avs a

section
variable {H : Type} {enc : TypeId × Value → H} {P : Program} {W : World} {t : TypeId}

theorem opens_int {k : IntKind} (ht : P.underlying t = some (.int k)) : Opens enc P W t (fun _ avs (n : Int) => avs = [.int k n]) (fun d n => d = .lit (.int k n)) := by
  intro m h hk fuel cs x hx
  obtain ⟨n, rfl, rfl, _⟩ := DataW.trod_int ht hx
  exact ⟨m, [], [.int k n], n, Emb.le.refl m, by simpa using hk, by simp [VRs, VR], by simp [isCell], rfl, rfl⟩
theorem opens_bool (ht : P.underlying t = some .bool) : Opens enc P W t (fun _ avs (b : Bool) => avs = [.bool b]) (fun d b => d = .lit (.bool b)) := by
  intro m h hk fuel cs x hx
  obtain ⟨n, rfl, rfl⟩ := DataW.trod_bool ht hx
  exact ⟨m, [], [.bool n], n, Emb.le.refl m, by simpa using hk, by simp [VRs, VR], by simp [isCell], rfl, rfl⟩
theorem opens_string (ht : P.underlying t = some .string) : Opens enc P W t (fun _ avs (s : List UInt8) => avs = [.str s]) (fun d s => d = .lit (.string s)) := by
  intro m h hk fuel cs x hx
  obtain ⟨s, rfl, rfl, _⟩ := DataW.trod_string ht hx
  refine ⟨m, [], [.str s.data.toList], s.data.toList, Emb.le.refl m, by simpa using hk, ?_, by simp [isCell], rfl, rfl⟩
  cases s
  simp [VRs, VR]
end
end Go.Abs

set_option linter.unusedVariables false
set_option linter.unusedSimpArgs false
namespace Go.Abs
open Go.RowKit Go.ChangeShapes Go.WideShapes

theorem flat_at {es : Nat} : ∀ {cells : List (List AV)}, (∀ c ∈ cells, c.length = es) → ∀ (j q : Nat), q < es → cells.flatten[j * es + q]? = (cells[j]?).bind (·[q]?)
  | [], _, j, q, hq => by simp
  | c :: r, h, 0, q, hq => by
    simp only [List.flatten_cons, Nat.zero_mul, Nat.zero_add, List.getElem?_cons_zero, Option.bind_some]
    rw [List.getElem?_append_left (by rw [h c List.mem_cons_self]; exact hq)]
  | c :: r, h, j + 1, q, hq => by
    have hc := h c List.mem_cons_self
    have e : (j + 1) * es + q = c.length + (j * es + q) := by rw [Nat.add_mul, hc]; omega
    rw [List.flatten_cons, e, List.getElem?_append_right (by omega), Nat.add_sub_cancel_left, flat_at (fun c hc => h c (List.mem_cons_of_mem _ hc)) j q hq, List.getElem?_cons_succ]
theorem flat_len {es : Nat} : ∀ {cells : List (List AV)}, (∀ c ∈ cells, c.length = es) → cells.flatten.length = cells.length * es
  | [], _ => by simp
  | c :: r, h => by
    rw [List.flatten_cons, List.length_append, h c List.mem_cons_self, flat_len (fun c hc => h c (List.mem_cons_of_mem _ hc)), List.length_cons, Nat.add_mul]
    omega
theorem flat_row {es : Nat} {cells : List (List AV)} (h : ∀ c ∈ cells, c.length = es) {j : Nat} {c : List AV} (hj : cells[j]? = some c) : (cells.flatten.drop (j * es)).take es = c ∧ j * es + es ≤ cells.flatten.length := by
  have hc := h c (List.mem_of_getElem? hj)
  have hlt := (List.getElem?_eq_some_iff.1 hj).1
  constructor
  · apply List.ext_getElem?
    intro q
    rw [List.getElem?_take, List.getElem?_drop]
    split
    · rename_i hq
      rw [flat_at h j q hq, hj]
      rfl
    · rw [List.getElem?_eq_none (by omega)]
  · rw [flat_len h]
    have : (j + 1) * es ≤ cells.length * es := Nat.mul_le_mul_right _ hlt
    rw [Nat.add_mul] at this
    omega

def RowsD {H α : Type} (D : DataW H → α → Prop) : DataW H → List α → Prop := fun d l =>
  (d = .nil ∧ l = []) ∨ ∃ elems rest : List (DataW H), d = .slice elems rest ∧ elems.length = l.length ∧ ∀ (i : Nat) (y : DataW H) (a : α), elems[i]? = some y → l[i]? = some a → D y a

section
variable {H : Type} {enc : TypeId × Value → H} {P : Program} {W : World} {t e : TypeId}

def FieldsOpen (enc : TypeId × Value → H) (P : Program) (W : World) {α : Type} (ts : List (TypeId × Nat)) (R : Heap → List AV → α → Prop) (D : List (DataW H) → α → Prop) : Prop :=
  ∀ (m : Emb) (h : Heap), HR m h W.heap.size W W → ∀ (n : Nat) (cs : List Value) (xs : List (DataW H × List MemPlace)), xs.length = ts.length → cs.length = (ts.map (·.2)).sum →
    (∀ (i : Nat) (f : TypeId × Nat), ts[i]? = some f → DataW.trod enc P W 0 (fun _ => true) true n f.1 ((cs.drop ((ts.take i).map (·.2)).sum).take f.2) = xs[i]?) →
    ∃ (m' : Emb) (t' : Heap) (avs : List AV) (a : α), m.le m' ∧ HR m' (h ++ t') W.heap.size W W ∧ VRs m' avs cs ∧ (∀ c ∈ cs, isCell c = true) ∧ R (h ++ t') avs a ∧ D (xs.map (·.1)) a

theorem fields_nil : FieldsOpen enc P W (α := Unit) [] (fun _ avs _ => avs = []) (fun ds _ => ds = []) := by
  intro m h hk n cs xs hxs hcs _
  obtain rfl : xs = [] := List.eq_nil_of_length_eq_zero hxs
  obtain rfl : cs = [] := List.eq_nil_of_length_eq_zero (by simpa using hcs)
  exact ⟨m, [], [], (), Emb.le.refl m, by simpa using hk, by simp [VRs], by simp, rfl, rfl⟩

theorem fields_cons {α β : Type} {f : TypeId} {z : Nat} {ts : List (TypeId × Nat)} {R : Heap → List AV → α → Prop} {D : DataW H → α → Prop} {R2 : Heap → List AV → β → Prop} {D2 : List (DataW H) → β → Prop} (hR : Stays R) (K : Opens enc P W f R D) (K2 : FieldsOpen enc P W ts R2 D2) :
    FieldsOpen enc P W (α := α × β) ((f, z) :: ts) (fun H avs a => ∃ c r, avs = c ++ r ∧ R H c a.1 ∧ R2 H r a.2) (fun ds a => ∃ d r, ds = d :: r ∧ D d a.1 ∧ D2 r a.2) := by
  intro m h hk n cs xs hxs hcs hall
  cases xs with
  | nil => simp at hxs
  | cons x xs =>
    simp only [List.map_cons, List.sum_cons] at hcs
    have h0 := hall 0 (f, z) rfl
    simp only [List.take_zero, List.map_nil, List.sum_nil, List.drop_zero, List.getElem?_cons_zero] at h0
    obtain ⟨m1, t1, c, a, hle, hk1, hv, hc, hr, hd⟩ := K m h hk n _ x h0
    obtain ⟨m2, t2, r, b, hle2, hk2, hv2, hc2, hr2, hd2⟩ := K2 m1 (h ++ t1) hk1 n (cs.drop z) xs (by simpa using hxs) (by rw [List.length_drop]; omega) (fun i g hg => by
      have := hall (i + 1) g (by simpa using hg)
      simp only [List.take_succ_cons, List.map_cons, List.sum_cons, List.getElem?_cons_succ] at this
      rw [List.drop_drop]
      exact this)
    refine ⟨m2, t1 ++ t2, c ++ r, (a, b), hle.trans hle2, by rw [← List.append_assoc]; exact hk2, ?_, fun v hv => ?_, ⟨c, r, rfl, by rw [← List.append_assoc]; exact hR _ _ _ _ hr, by rw [← List.append_assoc]; exact hr2⟩, ⟨x.1, xs.map (·.1), rfl, hd, hd2⟩⟩
    · have := (VRs.mono hle2 _ _ hv).append hv2
      rwa [List.take_append_drop] at this
    · rw [← List.take_append_drop z cs] at hv
      rcases List.mem_append.1 hv with h1 | h1
      · exact hc v h1
      · exact hc2 v h1

def fieldRow (P : Program) (fs : List Field) : List (TypeId × Nat) := fs.map fun f => (f.type, P.cellsOf f.type)
theorem opens_struct {α : Type} {fs : Array Field} {ts : List (TypeId × Nat)} {R : Heap → List AV → α → Prop} {D : List (DataW H) → α → Prop} (ht : P.underlying t = some (.struct fs)) (hfs : fieldRow P fs.toList = ts) (hsum : P.cellsOf t = (ts.map (·.2)).sum)
    (hoff : ∀ (i : Nat) (f : Field), fs[i]? = some f → f.offset = ((ts.take i).map (·.2)).sum) (K : FieldsOpen enc P W ts R D) : Opens enc P W t R (fun d a => ∃ parts, d = .agg parts ∧ D parts a) := by
  intro m h hk fuel cs x hx
  obtain ⟨xs, n, rfl, rfl, hl, hxl, hall⟩ := DataW.trod_struct ht hx
  have hlen : ts.length = fs.size := by rw [← hfs]; simp [fieldRow]
  obtain ⟨m1, t1, avs, a, h1, h2, h3, h4, h5, h6⟩ := K m h hk n cs xs (by omega) (by rw [hl, hsum]) (fun i g hg => by
    have hi : i < fs.size := by have := (List.getElem?_eq_some_iff.1 hg).1; omega
    obtain ⟨f, hf⟩ : ∃ f, fs[i]? = some f := ⟨_, Array.getElem?_eq_getElem hi⟩
    have := hall i f hf
    rw [hoff i f hf] at this
    have eg : g = (f.type, P.cellsOf f.type) := by
      rw [← hfs] at hg
      simp only [fieldRow, List.getElem?_map, Array.getElem?_toList, hf, Option.map_some, Option.some.injEq] at hg
      exact hg.symm
    rw [eg]
    exact this)
  exact ⟨m1, t1, avs, a, h1, h2, h3, h4, h5, _, rfl, h6⟩
end
end Go.Abs

set_option linter.unusedVariables false
set_option linter.unusedSimpArgs false
namespace Go.Abs
open Go.RowKit Go.ChangeShapes Go.WideShapes
def RowsC {α : Type} (es : Nat) (R : Heap → List AV → α → Prop) : Heap → List AV → List α → Prop := fun H avs l =>
  ∃ (s : Slc) (cells : List (List AV)), avs = [s.av] ∧ s.len = l.length ∧ cells.length = l.length ∧ (∀ (i : Nat) (a : α) (c : List AV), l[i]? = some a → cells[i]? = some c → rdCells H s.b (s.o + i * es) es = some c ∧ R H c a) ∧ (s.nil = false → rdCells H s.b s.o 0 = some [])
section
variable {H : Type} {enc : TypeId × Value → H} {P : Program} {W : World} {t e : TypeId}
theorem opens_sliceC {α : Type} {es : Nat} {R : Heap → List AV → α → Prop} {D : DataW H → α → Prop} (ht : P.underlying t = some (.slice e)) (hes : P.cellsOf e = es) (hpos : 0 < es) (hW : ∃ (g : Nat) (cc : Array Value) (ty : TypeId) (fr : Nat × Nat), W.heap[g]? = some (.cells cc ty fr)) (hR : Stays R) (K : Opens enc P W e R D) :
    Opens enc P W t (RowsC es R) (RowsD D) := by
  intro m h hk fuel cs x hx
  rcases DataW.trod_slice ht hx with ⟨rfl, rfl⟩ | ⟨a, len, cap, elems, rest, n, rfl, rfl, rfl, hb, hl, hm, hlen, hel, hsp, _⟩
  · exact ⟨m, [], [.nilslice], [], Emb.le.refl m, by simpa using hk, by simp [VRs, VR], by simp [isCell], ⟨⟨0, 0, 0, true⟩, [], rfl, rfl, rfl, fun i a c hi => by simp at hi, fun hn => by cases hn⟩, .inl ⟨rfl, rfl⟩⟩
  rw [hes] at hel hsp
  rcases Nat.eq_zero_or_pos cap with rfl | hcap
  · obtain rfl : len = 0 := by omega
    obtain rfl : elems = [] := List.eq_nil_of_length_eq_zero hlen
    obtain ⟨g, cc, ty, fr, hg⟩ := hW
    have hlt : g < W.heap.size := (Array.getElem?_eq_some_iff.1 hg).1
    have hk2 := hk.look (es := es) (c := []) (off := 0) hlt hg (by simp) (fun i v hi => by simp at hi)
    refine ⟨_, [.arr [] es true], [.slice h.length 0 0], [], Emb.le_upd hk.none_of_len, hk2, ?_, by simp [isCell], ⟨⟨h.length, 0, 0, false⟩, [], rfl, rfl, rfl, fun i a c hi => by simp at hi, fun _ => by simp [rdCells]⟩, .inr ⟨[], _, rfl, rfl, fun i y a hi => by simp at hi⟩⟩
    exact ⟨_, [], rfl, ⟨_, Emb.upd_same _ _ _, .inr ⟨rfl, a, rfl⟩⟩, rfl⟩
  · obtain ⟨hrl, hrest⟩ := hsp rfl
    have each : ∀ i : Nat, i < cap → ∃ vs : List Value, vs.length = es ∧ (∀ q, q < es → W.cell? ((a.add (i * es)).add q) = vs[q]?) ∧ (i < len → (DataW.trod enc P W 0 (fun _ => true) true n e vs) = elems[i]?) := by
      intro i hi
      by_cases h1 : i < len
      · have h2 := hel i h1
        obtain ⟨y, hy⟩ : ∃ y, elems[i]? = some y := ⟨_, List.getElem?_eq_getElem (by omega)⟩
        rw [hy, Option.bind_eq_some_iff] at h2
        obtain ⟨vs, g1, g2⟩ := h2
        obtain ⟨_, g3, g4⟩ := World.cells?_some g1
        exact ⟨vs, g3, g4, fun _ => by rw [g2, hy]⟩
      · have h2 := hrest (i - len) (by omega)
        obtain ⟨y, hy⟩ : ∃ y, rest[i - len]? = some y := ⟨_, List.getElem?_eq_getElem (by omega)⟩
        rw [hy, Option.bind_eq_some_iff, show len + (i - len) = i by omega] at h2
        obtain ⟨vs, g1, g2⟩ := h2
        obtain ⟨_, g3, g4⟩ := World.cells?_some g1
        exact ⟨vs, g3, g4, fun h => absurd h h1⟩
    have hcell : ∃ cc ty fr, W.heap[a.block]? = some (.cells cc ty fr) ∧ a.spot = none := by
      obtain ⟨vs, g1, g2, _⟩ := each 0 hcap
      have g3 := g2 0 hpos
      rw [List.getElem?_eq_getElem (by omega), Nat.zero_mul] at g3
      simp only [Addr.add, if_true, World.cell?] at g3
      split at g3
      · rename_i cc ty fr hcc
        refine ⟨cc, ty, fr, hcc, ?_⟩
        cases hs : a.spot with
        | none => rfl
        | some z => rw [hs] at g3; simp at g3
      · cases g3
    obtain ⟨cc, ty, fr, hcc, hspot⟩ := hcell
    have read : ∀ (i q : Nat), i < cap → q < es → ∀ vs : List Value, (∀ q, q < es → W.cell? ((a.add (i * es)).add q) = vs[q]?) → cc[a.off + (i * es + q)]? = vs[q]? := by
      intro i q hi hq vs hv
      rw [← hv q hq]
      have eadd : (a.add (i * es)).add q = ⟨a.block, a.off + (i * es + q), none⟩ := by
        cases a with
        | mk ab ao asp =>
          simp only at hspot
          subst hspot
          simp only [Addr.add]
          split <;> split <;> simp <;> omega
      rw [eadd]
      simp [World.cell?, hcc]
    have hsz : a.off + cap * es ≤ cc.size := by
      obtain ⟨vs, g1, g2, _⟩ := each (cap - 1) (by omega)
      have g3 := read (cap - 1) (es - 1) (by omega) (by omega) vs g2
      rw [List.getElem?_eq_getElem (by omega)] at g3
      have := (Array.getElem?_eq_some_iff.1 g3).1
      have e1 : (cap - 1) * es + es = cap * es := by
        rw [← Nat.succ_mul]
        congr 1
        omega
      omega
    have hblock : a.block < W.heap.size := (Array.getElem?_eq_some_iff.1 hcc).1
    have walk : ∀ i : Nat, i ≤ len → ∃ (m' : Emb) (t' : Heap) (cells : List (List AV)) (l : List α), m.le m' ∧ HR m' (h ++ t') W.heap.size W W ∧ cells.length = i ∧ l.length = i ∧
        ∀ j : Nat, j < i → ∃ (c : List AV) (b : α) (y : DataW H × List MemPlace) (vs : List Value), cells[j]? = some c ∧ l[j]? = some b ∧ elems[j]? = some y ∧ vs.length = es ∧ VRs m' c vs ∧ (∀ v ∈ vs, isCell v = true) ∧ (∀ q, q < es → cc[a.off + (j * es + q)]? = vs[q]?) ∧ R (h ++ t') c b ∧ D y.1 b := by
      intro i
      induction i with
      | zero => exact fun _ => ⟨m, [], [], [], Emb.le.refl m, by simpa using hk, rfl, rfl, fun j hj => absurd hj (Nat.not_lt_zero j)⟩
      | succ i ih =>
        intro hi
        obtain ⟨m1, t1, cells, l, hle, hk1, hcl, hll, hall⟩ := ih (by omega)
        obtain ⟨vs, g1, g2, g3⟩ := each i (by omega)
        obtain ⟨y, hy⟩ : ∃ y, elems[i]? = some y := ⟨_, List.getElem?_eq_getElem (by omega)⟩
        have g4 := g3 (by omega)
        rw [hy] at g4
        obtain ⟨m2, t2, c, b, hle2, hk2, hv, hcell, hr, hd⟩ := K m1 (h ++ t1) hk1 n vs y g4
        refine ⟨m2, t1 ++ t2, cells ++ [c], l ++ [b], hle.trans hle2, by rw [← List.append_assoc]; exact hk2, by simp [hcl], by simp [hll], fun j hj => ?_⟩
        by_cases hji : j < i
        · obtain ⟨c', b', y', vs', k1, k2, k3, k4, k5, k6, k7, k8, k9⟩ := hall j hji
          exact ⟨c', b', y', vs', by rw [List.getElem?_append_left (by omega)]; exact k1, by rw [List.getElem?_append_left (by omega)]; exact k2, k3, k4, VRs.mono hle2 _ _ k5, k6, k7, by rw [← List.append_assoc]; exact hR _ _ _ _ k8, k9⟩
        · obtain rfl : j = i := by omega
          exact ⟨c, b, y, vs, by rw [List.getElem?_append_right (by omega)]; simp [hcl], by rw [List.getElem?_append_right (by omega)]; simp [hll], hy, g1, hv, hcell, fun q hq => read j q (by omega) hq vs g2, by rw [← List.append_assoc]; exact hr, hd⟩
    obtain ⟨m1, t1, cells, l, hle, hk1, hcl, hll, hall⟩ := walk len (Nat.le_refl _)
    have hces : ∀ c ∈ cells, c.length = es := by
      intro c hc
      obtain ⟨j, hj⟩ := List.mem_iff_getElem?.1 hc
      obtain ⟨c', b', y', vs', k1, k2, k3, k4, k5, _⟩ := hall j (by have := (List.getElem?_eq_some_iff.1 hj).1; omega)
      rw [hj] at k1
      cases k1
      rw [← k5.length, k4]
    have hfl := flat_len hces
    have hcap2 : len * es ≤ cap * es := Nat.mul_le_mul_right _ hl
    have hk2 := hk1.look (es := es) (c := cells.flatten) (off := a.off) hblock hcc (by rw [hfl, hcl]; omega) (fun i v hi => by
      have hlt := (List.getElem?_eq_some_iff.1 hi).1
      rw [hfl, hcl] at hlt
      have hq : i % es < es := Nat.mod_lt _ hpos
      have hj : i / es < len := Nat.div_lt_of_lt_mul (by rw [Nat.mul_comm]; exact hlt)
      have ei : i / es * es + i % es = i := by rw [Nat.mul_comm]; exact Nat.div_add_mod i es
      obtain ⟨c', b', y', vs', k1, k2, k3, k4, k5, k6, k7, _⟩ := hall (i / es) hj
      have h1 := flat_at hces (i / es) (i % es) hq
      rw [ei, hi, k1, Option.bind_some] at h1
      obtain ⟨cv, h2, h3⟩ := k5.get (i % es) v h1.symm
      have h4 := k7 (i % es) hq
      rw [ei] at h4
      exact ⟨cv, by rw [h4, h2], h3, k6 cv (List.mem_of_getElem? h2)⟩)
    refine ⟨_, t1 ++ [.arr cells.flatten es true], [.slice (h ++ t1).length 0 len], l, hle.trans (Emb.le_upd hk1.none_of_len), by rw [← List.append_assoc]; exact hk2, ?_, by simp [isCell], ⟨⟨(h ++ t1).length, 0, len, false⟩, cells, rfl, by simp [Slc.len, hll], by rw [hcl, hll], fun i b c hi hc => ?_, fun _ => ?_⟩, .inr ⟨elems.map (·.1), _, rfl, by simp [hlen, hll], fun i y b hy hb => ?_⟩⟩
    · refine ⟨_, [], rfl, ⟨_, Emb.upd_same _ _ _, .inl ⟨cap, ?_, hl, by simpa using hsz⟩⟩, rfl⟩
      cases a with
      | mk ab ao asp =>
        simp only at hspot
        subst hspot
        simp
    · obtain ⟨c', b', y', vs', k1, k2, k3, k4, k5, k6, k7, k8, k9⟩ := hall i (by have := (List.getElem?_eq_some_iff.1 hi).1; omega)
      rw [hc] at k1
      rw [hi] at k2
      cases k1
      cases k2
      obtain ⟨r1, r2⟩ := flat_row hces hc
      refine ⟨?_, by rw [← List.append_assoc]; exact hR _ _ _ _ k8⟩
      rw [← List.append_assoc]
      simp only [rdCells, List.getElem?_append_right (Nat.le_refl _), Nat.sub_self, List.getElem?_cons_zero, Nat.zero_add]
      rw [if_pos r2, r1]
    · rw [← List.append_assoc]
      simp [rdCells]
    · obtain ⟨c', b', y', vs', k1, k2, k3, k4, k5, k6, k7, k8, k9⟩ := hall i (by have := (List.getElem?_eq_some_iff.1 hb).1; omega)
      rw [List.getElem?_map, k3] at hy
      rw [hb] at k2
      cases hy
      cases k2
      exact k9
end
end Go.Abs

