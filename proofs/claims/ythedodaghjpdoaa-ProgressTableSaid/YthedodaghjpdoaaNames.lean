/- lib.Names, lib.Calls, progress.Table, by what is left to be shown. -/
import Derived.Test.YthedodaghjpdoaaWalk
import Derived.Test.YthedodaghjpdoaaDec
import Derived.Test.YthedodaghjpdoaaAbsY
set_option linter.unusedVariables false
set_option linter.unusedSimpArgs false
set_option maxRecDepth 100000
namespace Go.Proofs.Ythedodaghjpdoaa.Kinds
open Go.Abs Mini
attribute [local irreducible] hr rtObj hs tObj

def encC (p : List UInt8 × Int) : List AV := [.str p.1, .int .i64 p.2]
noncomputable def E9s (i : Nat) (c : Slc) : List AV := [.str (row i).nm, .str (src22 i), .int .i64 (row i).rule, c.av, .int .i64 (row i).lo, .int .i64 (row i).hi, .bool (row i).safe, .bool (row i).strict, .bool (row i).point]

theorem calls_sl {H : Heap} {c i : Nat} (hc : H[c]? = some (cObj i)) : Sl H ⟨c, 0, (row i).calls.length, false⟩ 2 encC (row i).calls := by
  refine ⟨rfl, fun j x hj => ?_⟩
  have hf : callCells (row i).calls = (row i).calls.flatMap encC := rfl
  obtain ⟨g1, g2⟩ := flatMap_get (f := encC) (es := 2) (fun _ => rfl) hj
  simp only [rdCells, hc, cObj, hf, Nat.zero_add]
  rw [if_pos g1, g2]

/-- What the table is. -/
structure TabP (H : Heap) (s : Slc) : Prop where
  len : s.len = 21
  get : ∀ i, i < 21 → ∃ c : Slc, rdVar H (some 9) s.b (s.o + i * 9) = some (.agg (E9s i c)) ∧ Sl H c 2 encC (row i).calls

theorem table_ok {h : Heap} {P : AV → Heap → Prop} (hP : ∀ s t, TabP (h ++ t) s → P s.av t) : CallE K 22 [] h P :=
  callE_of_ext (hs_ext h 21 _) (table_does h) fun t e => hP ⟨(hs h 21).length, 0, 21, false⟩ t ⟨rfl, fun i hi => ⟨⟨(hs h i).length, 0, (row i).calls.length, false⟩, by rw [← e]; exact tab_get hi, by rw [← e]; exact calls_sl (hs_get hi _)⟩⟩

def names : List (List UInt8) := tab.map (·.nm)
def encS (n : List UInt8) : List AV := [.str n]

theorem names_get {i : Nat} (hi : i < 21) : names[i]? = some (row i).nm := by
  have : tab[i]? = some (row i) := by
    unfold row
    simp [List.getD_eq_getElem?_getD, List.getElem?_eq_getElem (show i < tab.length from hi)]
  simp [names, this]

theorem names_ok {h : Heap} {P : AV → Heap → Prop} (hP : ∀ s t, Sl (h ++ t) s 1 encS names → P s.av t) : CallE K 17 [] h P := by
  refine d17 rfl ?_
  unfold D17
  refine table_ok fun s t1 ht => ?_
  refine ⟨s, rfl, fun n l x t2 => ∃ i : Nat, x = i ∧ n + i = 21 ∧ Ow (h.length + t1.length) t2 l 1 ((names.take i).flatMap encS), ⟨21, 0, rfl, rfl, Ow.none⟩, ?_⟩
  rintro n l x t2 ⟨i, rfl, hn, ho⟩
  rw [ht.len]
  refine ⟨fun hc => ?_, fun hc => ?_⟩
  · simp only [decide_eq_true_eq] at hc
    have hi : i < 21 := by omega
    obtain ⟨c, h1, h2⟩ := ht.get i hi
    have h1' := (inferInstance : ExtC (h ++ t1) (h ++ (t1 ++ t2))).out.rdVar h1
    refine ⟨by omega, _, _, _, c, _, _, _, _, _, h1', ?_⟩
    obtain ⟨g, hd, hg, _⟩ := ho.take
    have hl := ho.len
    rw [flatMap_len (f := encS) (es := 1) (fun _ => rfl)] at hl
    have := List.length_take_le i names
    refine ⟨_, g, hd, by omega, n - 1, by omega, i + 1, wrap_succ (by omega), by omega, ?_⟩
    rw [take_succ_flat (names_get hi)]
    exact Ow.mk (g.length + 2) (by omega) (by simp [encS]) (ho.push rfl)
  · simp only [decide_eq_false_iff_not] at hc
    have hi : i = 21 := by omega
    subst hi
    exact hP _ _ (Ow.sl (base := h.length + t1.length) (t := t2) ho (by omega) (fun _ => rfl) at_app2)

/-! ### lib.Calls -/
theorem find_ok {h : Heap} {name : List UInt8} {i : Nat} (hi : i < 21) (hn : idxN name = i) {P : AV → Heap → Prop} (hP : ∀ (c : Slc) t, Sl (h ++ t) c 2 encC (row i).calls → P (.tuple [.agg (E9s i c), .bool true]) t) : CallE K 19 [.str name] h P := by
  obtain ⟨H4, c, hx, hd, hc⟩ := find_yes (h := h) hi hn
  exact callE_of_ext hx hd fun t e => hP ⟨c, 0, (row i).calls.length, false⟩ t (by rw [← e]; exact calls_sl hc)

theorem idx_row : ∀ i, i < 21 → idxN (row i).nm = i := by decide

theorem calls_ok {h : Heap} {i : Nat} (hi : i < 21) {P : AV → Heap → Prop} (hP : ∀ s t, Fr h s → Sl (h ++ t) s 1 encS ((row i).calls.map (·.1)) → P (.tuple [s.av, .int .i64 0]) t) : CallE K 18 [.str (row i).nm] h P := by
  refine d18 rfl ?_
  unfold D18
  refine find_ok hi (idx_row i hi) fun c t1 ht => ?_
  refine ⟨_, _, _, c, _, _, _, _, _, _, rfl, fun h0 => by simp at h0, fun _ => ?_⟩
  have hlen := calls_few i hi
  refine ⟨fun n l x t2 => ∃ j : Nat, x = j ∧ n + j = (row i).calls.length ∧ Ow (h.length + (t1.length + 1)) t2 l 1 ((((row i).calls.map (·.1)).take j).flatMap encS), ⟨(row i).calls.length, 0, rfl, rfl, Ow.none⟩, ?_⟩
  rintro n l x t2 ⟨j, rfl, hn, ho⟩
  rw [ht.len]
  refine ⟨fun hc => ?_, fun hc => ?_⟩
  · simp only [decide_eq_true_eq] at hc
    have hj : j < (row i).calls.length := by omega
    obtain ⟨y, hy⟩ := lt_len rfl hj
    have hg := (ht.ext (H' := h ++ (t1 ++ (AObj.arr (E9s i c) 9 false :: t2)))).agg hy
    refine ⟨by omega, _, _, hg, ?_⟩
    obtain ⟨g, hd, hgl, _⟩ := ho.take
    have hl := ho.len
    rw [flatMap_len (f := encS) (es := 1) (fun _ => rfl)] at hl
    have := List.length_take_le j ((row i).calls.map (·.1))
    have hsmall : (row i).calls.length < 100 := by
      have : ∀ i, i < 21 → (row i).calls.length < 100 := by decide
      exact this i hi
    refine ⟨_, g, hd, by omega, n - 1, by omega, j + 1, wrap_succ (by omega), by omega, ?_⟩
    rw [take_succ_flat (x := y.1) (by simp [hy])]
    exact Ow.mk (g.length + 2) (by omega) (by simp [encS]) (ho.push rfl)
  · simp only [decide_eq_false_iff_not] at hc
    have hj : j = ((row i).calls.map (·.1)).length := by simp; omega
    subst hj
    rw [List.take_length] at ho
    exact hP _ _ (ho.fr (by omega)) (Ow.sl (base := h.length + (t1.length + 1)) (t := t2) ho (by omega) (fun _ => rfl) at_cons)

/-! ### progress.Table -/
abbrev PRow := List UInt8 × List UInt8 × Int
def encP (p : PRow) : List AV := [.str p.1, .str p.2.1, .int .i64 p.2.2]
def rowsOf (i : Nat) : List PRow := (row i).calls.map fun c => ((row i).nm, c.1, (kindG (row i).nm c.1).1)
def prows : List PRow := (List.range 21).flatMap rowsOf

theorem kind_ok {h : Heap} (name op : List UInt8) {P : AV → Heap → Prop} (hP : ∀ t, P (.tuple [.int .i64 (kindG name op).1, .int .i64 (kindG name op).2]) t) : CallE K 6 [.str name, .str op] h P := by
  obtain ⟨H, hx, hd⟩ := kind_does h name op
  exact callE_of_ext hx hd fun t _ => hP t

theorem prows_few (k : Nat) (hk : k ≤ 21) : ((List.range k).flatMap rowsOf).length ≤ 1000 := by
  have : ∀ k, k ≤ 21 → ((List.range k).flatMap rowsOf).length ≤ 1000 := by
    intro k hk
    have : ((List.range k).flatMap rowsOf).length = ((List.range k).map fun i => (row i).calls.length).sum := by
      rw [List.length_flatMap]
      congr 1
      simp [rowsOf]
    rw [this]
    have : ∀ k, k < 22 → ((List.range k).map fun i => (row i).calls.length).sum ≤ 1000 := by decide
    exact this k (by omega)
  exact this k hk

theorem rows_get {i j : Nat} {y : List UInt8 × Int} (hy : (row i).calls[j]? = some y) : (rowsOf i)[j]? = some ((row i).nm, y.1, (kindG (row i).nm y.1).1) := by simp [rowsOf, hy]

theorem ptable_ok {h : Heap} {P : AV → Heap → Prop} (hP : ∀ s t, Sl (h ++ t) s 3 encP prows → P s.av t) : CallE K 12 [] h P := by
  refine d12 rfl ?_
  unfold D12
  refine names_ok fun s t1 ht => ?_
  refine ⟨s, rfl, fun n l x t2 => ∃ i : Nat, x = i ∧ n + i = 21 ∧ Ow (h.length + t1.length) t2 l 3 (((List.range i).flatMap rowsOf).flatMap encP), ⟨21, 0, rfl, rfl, Ow.none⟩, ?_⟩
  rintro n l x t2 ⟨i, rfl, hn, ho⟩
  rw [ht.len, show names.length = 21 from rfl]
  refine ⟨fun hc => ?_, fun hc => ?_⟩
  · simp only [decide_eq_true_eq] at hc
    have hi : i < 21 := by omega
    have hw := (ht.ext (H' := h ++ (t1 ++ t2))).cell0 (names_get hi) (v := .str (row i).nm) rfl
    refine ⟨by omega, _, hw, ?_⟩
    refine calls_ok hi fun s2 t3 hfr hs2 => ?_
    have hlast : rowsOf i = (rowsOf i).take (row i).calls.length := by rw [List.take_of_length_le]; simp [rowsOf]
    refine ⟨s2, 0, rfl, fun n l x t4 => ∃ j : Nat, x = j ∧ n + j = (row i).calls.length ∧ (l.nil = true ∨ s2.nil = true ∨ l.b ≠ s2.b) ∧ Sl (h ++ (t1 ++ t4)) s2 1 encS ((row i).calls.map (·.1)) ∧ Ow (h.length + t1.length) t4 l 3 (((List.range i).flatMap rowsOf ++ (rowsOf i).take j).flatMap encP), ⟨(row i).calls.length, 0, rfl, rfl, ?_, hs2.ext, ?_⟩, ?_⟩
    · rcases ho with ⟨h1, _⟩ | ⟨h1, _, _, k, h4, h5⟩
      · exact .inl h1
      · rcases hfr with h6 | h6
        · exact .inr (.inl h6)
        · refine .inr (.inr ?_)
          have := (List.getElem?_eq_some_iff.1 h5).1
          simp only [List.length_append] at h6
          omega
    · rcases ho with ⟨h1, h2⟩ | ⟨h1, h2, h3, k, h4, h5⟩
      · exact .inl ⟨h1, by simpa using h2⟩
      · refine .inr ⟨h1, h2, by simpa using h3, k, h4, ?_⟩
        rw [List.getElem?_append_left (List.getElem?_eq_some_iff.1 h5).1]
        simpa using h5
    · rintro n5 l3 x2 t4 ⟨j, rfl, hn5, hne, hs4, ho4⟩
      rw [hs4.len, List.length_map]
      refine ⟨fun hc => ?_, fun hc => ?_⟩
      · simp only [decide_eq_true_eq] at hc
        have hj : j < (row i).calls.length := by omega
        obtain ⟨y, hy⟩ := lt_len rfl hj
        have hw2 := hs4.cell0 (i := j) (x := y.1) (by simp [hy]) (v := .str y.1) rfl
        refine ⟨by omega, _, hw2, ?_⟩
        refine kind_ok _ _ fun t5 => ?_
        obtain ⟨g, hd, hgl, hkeep⟩ := ho4.take
        have hl := ho4.len
        rw [flatMap_len (f := encP) (es := 3) (fun _ => rfl)] at hl
        have hsz := prows_few i (by omega)
        have htk := List.length_take_le j (rowsOf i)
        have hsmall : (row i).calls.length < 100 := by
          have : ∀ i, i < 21 → (row i).calls.length < 100 := by decide
          exact this i hi
        rw [List.length_append] at hl
        refine ⟨_, _, rfl, _, g, hd, by omega, n5 - 1, by omega, j + 1, wrap_succ (by omega), by omega, ?_, ?_, ?_⟩
        · by_cases hz : s2.nil = true
          · exact .inr (.inl hz)
          · refine .inr (.inr ?_)
            have hg0 := hs4.get j y.1 (by simp [hy])
            have hb : s2.b < (h ++ (t1 ++ t4)).length := by
              unfold rdCells at hg0
              cases hbb : (h ++ (t1 ++ t4))[s2.b]? with
              | none => rw [hbb] at hg0; simp at hg0
              | some o => exact (List.getElem?_eq_some_iff.1 hbb).1
            simp only [List.length_append] at hb
            show h.length + (t1.length + (g.length + (t5.length + 1))) ≠ s2.b
            omega
        · refine hs4.keep fun o ho => ?_
          refine keep2 (fun k o' hk hg => hkeep k o' ?_ hg) ho
          rcases hne with h1 | h1 | h1
          · exact .inl h1
          · have := hs4.len
            simp only [Slc.len, h1, cond_true, List.length_map] at this
            omega
          · exact .inr (by omega)
        · have e : ((List.range i).flatMap rowsOf ++ (rowsOf i).take (j + 1)).flatMap encP = ((List.range i).flatMap rowsOf ++ (rowsOf i).take j).flatMap encP ++ encP ((row i).nm, y.1, (kindG (row i).nm y.1).1) := by
            rw [List.flatMap_append, take_succ_flat (rows_get hy), List.flatMap_append, List.append_assoc]
          rw [e]
          exact Ow.mk (g.length + (t5.length + 1)) (by omega) (by simp [encP]) (ho4.push rfl)
      · simp only [decide_eq_false_iff_not] at hc
        have hj : j = (row i).calls.length := by omega
        subst hj
        rw [← hlast] at ho4
        refine ⟨n - 1, by omega, i + 1, wrap_succ (by omega), by omega, ?_⟩
        rw [List.range_succ, List.flatMap_append, List.flatMap_singleton]
        exact ho4
  · simp only [decide_eq_false_iff_not] at hc
    have hi : i = 21 := by omega
    subst hi
    exact hP _ _ (Ow.sl (base := h.length + t1.length) (t := t2) ho (by omega) (fun _ => rfl) at_app2)
end Go.Proofs.Ythedodaghjpdoaa.Kinds
