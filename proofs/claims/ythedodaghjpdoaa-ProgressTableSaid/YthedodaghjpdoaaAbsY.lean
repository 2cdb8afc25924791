/- Words for what is left to be shown: slices as lists, rows that are grown, heaps that hold others. -/
import Derived.Test.YthedodaghjpdoaaAbsW
set_option linter.unusedVariables false
set_option linter.unusedSimpArgs false
namespace Go.Abs

class ExtC (a b : Heap) : Prop where
  out : Ext a b
instance ExtC.same (a : Heap) : ExtC a a := ⟨Ext.refl a⟩
instance ExtC.right (a b : Heap) : ExtC a (a ++ b) := ⟨⟨b, rfl⟩⟩
instance ExtC.app (h a b : Heap) [k : ExtC a b] : ExtC (h ++ a) (h ++ b) := ⟨by
  obtain ⟨l, rfl⟩ := k.out
  exact ⟨l, by simp⟩⟩
instance ExtC.cons (x : AObj) (a b : Heap) [k : ExtC a b] : ExtC (x :: a) (x :: b) := ⟨by
  obtain ⟨l, rfl⟩ := k.out
  exact ⟨l, by simp⟩⟩
instance ExtC.nil (b : Heap) : ExtC [] b := ⟨⟨b, rfl⟩⟩
instance ExtC.assoc (h a b H : Heap) [k : ExtC (h ++ (a ++ b)) H] : ExtC ((h ++ a) ++ b) H := ⟨by rw [List.append_assoc]; exact k.out⟩
instance ExtC.assocc (x : AObj) (a b H : Heap) [k : ExtC (x :: (a ++ b)) H] : ExtC ((x :: a) ++ b) H := ⟨by rw [List.cons_append]; exact k.out⟩
instance ExtC.nilr (h b : Heap) : ExtC (h ++ []) (h ++ b) := ⟨⟨b, by simp⟩⟩

theorem rd_sub {H : Heap} {b o n : Nat} {l : List AV} (h : rdCells H b o n = some l) {c : Nat} {v : AV} (hv : l[c]? = some v) : rdCells H b (o + c) 1 = some [v] := by
  unfold rdCells at h ⊢
  split at h
  · rename_i cs es ro hb
    split at h
    · rename_i hle
      cases h
      rw [List.getElem?_take] at hv
      split at hv
      · rename_i hc
        rw [List.getElem?_drop] at hv
        have hlt := (List.getElem?_eq_some_iff.1 hv).1
        rw [if_pos (by omega)]
        congr 1
        have := List.drop_eq_getElem_cons hlt
        rw [this]
        have e := (List.getElem?_eq_some_iff.1 hv).2
        simp [e]
      · cases hv
    · cases h
  · cases h

/-- A slice whose elements are a list's, each of es cells. -/
structure Sl {α : Type} (H : Heap) (s : Slc) (es : Nat) (f : α → List AV) (l : List α) : Prop where
  len : s.len = l.length
  get : ∀ (i : Nat) (x : α), l[i]? = some x → rdCells H s.b (s.o + i * es) es = some (f x)

section
variable {α : Type} {H H' : Heap} {s : Slc} {es : Nat} {f : α → List AV} {l : List α} {i : Nat} {x : α}

theorem Sl.ext (k : Sl H s es f l) [e : ExtC H H'] : Sl H' s es f l := ⟨k.len, fun i x hi => e.out.rd (k.get i x hi)⟩
theorem Sl.agg (k : Sl H s es f l) (hi : l[i]? = some x) : rdVar H (some es) s.b (s.o + i * es) = some (.agg (f x)) := by
  simp only [rdVar, k.get i x hi, Option.map_some]
theorem Sl.cell (k : Sl H s es f l) (hi : l[i]? = some x) {c : Nat} {v : AV} (hv : (f x)[c]? = some v) : rdVar H none s.b (s.o + i * es + c) = some v := by
  simp only [rdVar, rd_sub (k.get i x hi) hv, Option.bind_some, List.head?_cons]
theorem Sl.cell0 (k : Sl H s es f l) (hi : l[i]? = some x) {v : AV} (hv : (f x)[0]? = some v) : rdVar H none s.b (s.o + i * es) = some v := k.cell hi hv
theorem Sl.nilr (k : Sl H s es f l) : Sl (H ++ []) s es f l := by rw [List.append_nil]; exact k
end

/-- A row that is appended to: nothing, or an object of its own at place k of the last part of the heap. -/
def Ow (base : Nat) (t : Heap) (s : Slc) (es : Nat) (c : List AV) : Prop :=
  (s.nil = true ∧ c = []) ∨ (s.nil = false ∧ s.o = 0 ∧ s.n * es = c.length ∧ ∃ k, s.b = base + k ∧ t[k]? = some (.arr c es false))

theorem Ow.none {base : Nat} {t : Heap} {es : Nat} : Ow base t ⟨0, 0, 0, true⟩ es [] := .inl ⟨rfl, rfl⟩
theorem Ow.mk {base : Nat} {t : Heap} {es b n : Nat} {c : List AV} (k : Nat) (hb : b = base + k) (ht : t[k]? = some (.arr c es false)) (hn : n * es = c.length) : Ow base t ⟨b, 0, n, false⟩ es c := .inr ⟨rfl, rfl, hn, k, hb, ht⟩

theorem Ow.take {base : Nat} {t : Heap} {s : Slc} {es : Nat} {c : List AV} (k : Ow base t s es c) : ∃ g, ((s.nil = true ∧ c = [] ∧ g = t) ∨ (s.nil = false ∧ ∃ k0 c0, s.b = base + k0 ∧ t[k0]? = some (.arr c0 es false) ∧ s.o + s.n * es ≤ c0.length ∧ c = (c0.drop s.o).take (s.n * es) ∧ g = t.set k0 .dead)) ∧ g.length = t.length ∧
    ∀ k o, (s.nil = true ∨ s.b ≠ base + k) → t[k]? = some o → g[k]? = some o := by
  rcases k with ⟨h1, h2⟩ | ⟨h1, h2, h3, k, h4, h5⟩
  · exact ⟨t, .inl ⟨h1, h2, rfl⟩, rfl, fun k o _ h => h⟩
  · refine ⟨t.set k .dead, .inr ⟨h1, k, c, h4, h5, by omega, by rw [h2, h3]; simp, rfl⟩, by simp, fun k' o hk hg => ?_⟩
    rcases hk with hk | hk
    · rw [h1] at hk; cases hk
    · rw [List.getElem?_set_ne (by omega), hg]

/-- What is read lies in one object. -/
theorem Sl.keep {α : Type} {H H' : Heap} {s : Slc} {es : Nat} {f : α → List AV} {l : List α} (k : Sl H s es f l) (hk : ∀ o, H[s.b]? = some o → H'[s.b]? = some o) : Sl H' s es f l := by
  refine ⟨k.len, fun i x hi => ?_⟩
  have := k.get i x hi
  unfold rdCells at this ⊢
  cases hb : H[s.b]? with
  | none => rw [hb] at this; simp at this
  | some o => rw [hb] at this; rw [hk o hb]; exact this

theorem keep2 {h t1 t g r : Heap} {b : Nat} {o : AObj} (hk : ∀ k o, b = (h.length + t1.length) + k → t[k]? = some o → g[k]? = some o) (hb : (h ++ (t1 ++ t))[b]? = some o) : (h ++ (t1 ++ (g ++ r)))[b]? = some o := by
  rcases Nat.lt_or_ge b (h.length + t1.length) with h1 | h1
  · rw [← List.append_assoc] at hb ⊢
    rw [List.getElem?_append_left (by simp; omega)] at hb ⊢
    exact hb
  · rw [← List.append_assoc] at hb ⊢
    rw [List.getElem?_append_right (by simp; omega)] at hb ⊢
    have hg := hk (b - (h ++ t1).length) o (by simp; omega) hb
    rw [List.getElem?_append_left (List.getElem?_eq_some_iff.1 hg).1]
    exact hg

/-- The slice is none of what was there before. -/
def Fr (h : Heap) (s : Slc) : Prop := s.nil = true ∨ h.length ≤ s.b
theorem Ow.fr {base : Nat} {t h : Heap} {s : Slc} {es : Nat} {c : List AV} (k : Ow base t s es c) (hb : h.length ≤ base) : Fr h s := by
  rcases k with ⟨h1, h2⟩ | ⟨h1, h2, h3, k, h4, h5⟩
  · exact .inl h1
  · exact .inr (by omega)

theorem Ow.len {base : Nat} {t : Heap} {s : Slc} {es : Nat} {c : List AV} (k : Ow base t s es c) : s.len * es = c.length := by
  rcases k with ⟨h1, h2⟩ | ⟨h1, h2, h3, _⟩
  · simp [Slc.len, h1, h2]
  · simp [Slc.len, h1, h3]
theorem Ow.push {base : Nat} {t : Heap} {s : Slc} {es : Nat} {c new : List AV} (k : Ow base t s es c) (hn : new.length = es) : (s.len + 1) * es = (c ++ new).length := by
  rw [List.length_append, ← k.len, hn, Nat.add_mul, Nat.one_mul]

theorem flatMap_get {α : Type} {f : α → List AV} {es : Nat} (hf : ∀ x, (f x).length = es) : ∀ {l : List α} {i : Nat} {x : α}, l[i]? = some x → i * es + es ≤ (l.flatMap f).length ∧ ((l.flatMap f).drop (i * es)).take es = f x
  | [], i, x, h => by simp at h
  | y :: l, 0, x, h => by
    simp at h
    subst h
    simp [← hf y]
  | y :: l, i + 1, x, h => by
    obtain ⟨h1, h2⟩ := flatMap_get hf (l := l) (i := i) (x := x) (by simpa using h)
    have e : (i + 1) * es = (f y).length + i * es := by rw [hf y, Nat.add_mul]; omega
    refine ⟨by rw [e, List.flatMap_cons, List.length_append]; omega, ?_⟩
    rw [e, List.flatMap_cons, List.drop_append, List.drop_eq_nil_of_le (by omega), List.nil_append, Nat.add_sub_cancel_left, h2]

theorem flatMap_len {α : Type} {f : α → List AV} {es : Nat} (hf : ∀ x, (f x).length = es) : ∀ (l : List α), (l.flatMap f).length = l.length * es
  | [] => by simp
  | y :: l => by simp [flatMap_len hf l, hf y, Nat.add_mul]; omega

theorem Ow.sl {α : Type} {base : Nat} {t H : Heap} {s : Slc} {es : Nat} {f : α → List AV} {l : List α} (k : Ow base t s es (l.flatMap f)) (hes : 0 < es) (hf : ∀ x, (f x).length = es) (hH : ∀ k o, t[k]? = some o → H[base + k]? = some o) : Sl H s es f l := by
  have hl := flatMap_len hf l
  rcases k with ⟨h1, h2⟩ | ⟨h1, h2, h3, k, h4, h5⟩
  · have : l = [] := by
      rw [h2] at hl
      cases l with
      | nil => rfl
      | cons y l =>
        simp only [List.length_nil, List.length_cons] at hl
        have : 0 < (l.length + 1) * es := Nat.mul_pos (by omega) hes
        omega
    subst this
    exact ⟨by simp [Slc.len, h1], fun i x hi => by simp at hi⟩
  · refine ⟨?_, fun i x hi => ?_⟩
    · rw [hl] at h3
      simp only [Slc.len, h1, cond_false]
      exact Nat.eq_of_mul_eq_mul_right hes h3
    · obtain ⟨g1, g2⟩ := flatMap_get hf hi
      simp only [rdCells, h4, hH k _ h5, h2, Nat.zero_add]
      rw [if_pos g1, g2]

theorem at_app {h t : Heap} : ∀ k o, t[k]? = some o → (h ++ t)[h.length + k]? = some o := fun k o hk => by
  rw [List.getElem?_append_right (by omega), Nat.add_sub_cancel_left, hk]
theorem at_app2 {h a t : Heap} : ∀ k o, t[k]? = some o → (h ++ (a ++ t))[(h.length + a.length) + k]? = some o := fun k o hk => by
  rw [Nat.add_assoc]
  exact at_app _ _ (at_app _ _ hk)
theorem at_app3 {h a b t : Heap} : ∀ k o, t[k]? = some o → (h ++ (a ++ (b ++ t)))[(h.length + (a.length + b.length)) + k]? = some o := fun k o hk => by
  rw [Nat.add_assoc]
  exact at_app _ _ (at_app2 _ _ hk)
theorem at_cons {h a t : Heap} {x : AObj} : ∀ k o, t[k]? = some o → (h ++ (a ++ x :: t))[(h.length + (a.length + 1)) + k]? = some o := fun k o hk => by
  have e : h.length + (a.length + 1) + k = h.length + (a.length + (k + 1)) := by omega
  rw [e]
  exact at_app _ _ (at_app _ _ (by simpa using hk))

theorem take_succ_flat {α : Type} {f : α → List AV} {l : List α} {i : Nat} {x : α} (h : l[i]? = some x) : (l.take (i + 1)).flatMap f = (l.take i).flatMap f ++ f x := by
  rw [List.take_add_one, h]
  simp

theorem callE_of_ext {M : Model} {f : Nat} {args : List AV} {h H : Heap} {v : AV} {P : AV → Heap → Prop} (hx : Ext h H) (hd : Does M f args h v H) (hp : ∀ t, H = h ++ t → P v t) : CallE M f args h P := by
  obtain ⟨t, rfl⟩ := hx
  exact CallE.of_does hd (hp t rfl)

theorem lt_len {α : Type} {l : List α} {i n : Nat} (hn : n = l.length) (hi : i < n) : ∃ x, l[i]? = some x := ⟨l[i]'(by omega), by simp [hn ▸ hi]⟩
theorem wrap_succ {i : Nat} (h : i < 140737488355328) : IntKind.wrap .i64 ((i : Int) + 1) = ((i + 1 : Nat) : Int) := by
  have e : IntKind.wrap .i64 ((i : Int) + 1) = (if ((i : Int) + 1) % 18446744073709551616 ≥ 9223372036854775808 then ((i : Int) + 1) % 18446744073709551616 - 18446744073709551616 else ((i : Int) + 1) % 18446744073709551616) := by
    have e1 : (2 : Int) ^ 64 = 18446744073709551616 := by decide
    have e2 : (2 : Int) ^ (64 - 1) = 9223372036854775808 := by decide
    simp only [IntKind.wrap, IntKind.signed, IntKind.bits, Bool.true_and, decide_eq_true_eq, e1, e2]
  rw [e]
  split <;> omega
end Go.Abs
