/- locklessref28.Table, by what is left to be shown; the two tables are the same. -/
import Derived.Test.YthedodaghjpdoaaNames
import Derived.KernelRfl
set_option linter.unusedVariables false
set_option linter.unusedSimpArgs false
set_option maxRecDepth 100000
namespace Go.Proofs.Ythedodaghjpdoaa.Kinds
open Go.Abs Mini
attribute [local irreducible] hr rtObj hs tObj

def encF (p : List UInt8 × Int × Int) : List AV := [.str p.1, .int .i64 p.2.1, .int .i64 p.2.2]
def R7s (i : Nat) (c : Slc) : List AV := [.str (rrow i).nm, .int .i64 (rrow i).rule, c.av, .int .i64 (rrow i).lo, .int .i64 (rrow i).hi, .bool (rrow i).strict, .bool (rrow i).point]

theorem rcalls_sl {H : Heap} {c i : Nat} (hc : H[c]? = some (rObj (rrow i).at_)) : Sl H ⟨c, 0, (rcalls i).length, false⟩ 3 encF (rcalls i) := by
  refine ⟨rfl, fun j x hj => ?_⟩
  have hf : rcCells (robjs.getD (rrow i).at_ []) = (rcalls i).flatMap encF := rfl
  obtain ⟨g1, g2⟩ := flatMap_get (f := encF) (es := 3) (fun _ => rfl) hj
  simp only [rdCells, hc, rObj, hf, Nat.zero_add]
  rw [if_pos g1, g2]

theorem rd_cell {H : Heap} {b o n : Nat} {l : List AV} (h : rdCells H b o n = some l) {c : Nat} {v : AV} (hv : l[c]? = some v) : rdVar H none b (o + c) = some v := by
  simp only [rdVar, rd_sub h hv, Option.bind_some, List.head?_cons]
theorem rd_of_agg {H : Heap} {b o n : Nat} {l : List AV} (h : rdVar H (some n) b o = some (.agg l)) : rdCells H b o n = some l := by
  simp only [rdVar, Option.map_eq_some_iff, AV.agg.injEq] at h
  obtain ⟨a, h1, rfl⟩ := h
  exact h1

structure RTabP (H : Heap) (s : Slc) : Prop where
  len : s.len = 21
  get : ∀ i, i < 21 → ∃ c : Slc, rdCells H s.b (s.o + i * 7) 7 = some (R7s i c) ∧ Sl H c 3 encF (rcalls i)

theorem rtable_ok {h : Heap} {P : AV → Heap → Prop} (hP : ∀ s t, RTabP (h ++ t) s → P s.av t) : CallE K 16 [] h P :=
  callE_of_ext (hr_ext h 18 _) (rtable_does h) fun t e => hP ⟨(hr h 18).length, 0, 21, false⟩ t ⟨rfl, fun i hi => ⟨⟨(hr h (rrow i).at_).length, 0, (rcalls i).length, false⟩, by rw [← e]; exact rd_of_agg (rtab_get hi), by rw [← e]; exact rcalls_sl (hr_get (rat_lt i hi) _)⟩⟩

def rrowsOf (i : Nat) : List PRow := (rcalls i).map fun c => ((rrow i).nm, c.1, kindR (rrow i).nm c.1)
def rrows : List PRow := (List.range 21).flatMap rrowsOf
theorem rows_same : rrows = prows := by kernel_rfl

theorem rkind_ok {h : Heap} (name op : List UInt8) {P : AV → Heap → Prop} (hP : ∀ t, P (.int .i64 (kindR name op)) t) : CallE K 10 [.str name, .str op] h P :=
  callE_of_ext (Ext.refl h) (rkind_does h name op) fun t _ => hP t

theorem rrows_get {i j : Nat} {y : List UInt8 × Int × Int} (hy : (rcalls i)[j]? = some y) : (rrowsOf i)[j]? = some ((rrow i).nm, y.1, kindR (rrow i).nm y.1) := by simp [rrowsOf, hy]
theorem rcalls_less : ∀ i, i < 21 → (rcalls i).length < 100 := by decide
theorem rrows_few (k : Nat) (hk : k ≤ 21) : ((List.range k).flatMap rrowsOf).length ≤ 1000 := by
  have : ((List.range k).flatMap rrowsOf).length = ((List.range k).map fun i => (rcalls i).length).sum := by
    rw [List.length_flatMap]
    congr 1
    simp [rrowsOf]
  rw [this]
  have : ∀ k, k < 22 → ((List.range k).map fun i => (rcalls i).length).sum ≤ 1000 := by decide
  exact this k (by omega)

theorem rtab28_ok {h : Heap} {P : AV → Heap → Prop} (hP : ∀ s t, Sl (h ++ t) s 3 encP rrows → P s.av t) : CallE K 13 [] h P := by
  refine d13 rfl ?_
  unfold D13
  refine rtable_ok fun s t1 ht => ?_
  refine ⟨s, rfl, fun n l x t2 => ∃ i : Nat, x = i ∧ n + i = 21 ∧ Ow (h.length + t1.length) t2 l 3 (((List.range i).flatMap rrowsOf).flatMap encP), ⟨21, 0, rfl, rfl, Ow.none⟩, ?_⟩
  rintro n l x t2 ⟨i, rfl, hn, ho⟩
  rw [ht.len]
  refine ⟨fun hc => ?_, fun hc => ?_⟩
  · simp only [decide_eq_true_eq] at hc
    have hi : i < 21 := by omega
    obtain ⟨c, h1, h2⟩ := ht.get i hi
    have hlast : rrowsOf i = (rrowsOf i).take (rcalls i).length := by rw [List.take_of_length_le]; simp [rrowsOf]
    refine ⟨fun n l x t3 => ∃ j : Nat, x = j ∧ n + j = (rcalls i).length ∧ Ow (h.length + t1.length) t3 l 3 (((List.range i).flatMap rrowsOf ++ (rrowsOf i).take j).flatMap encP), ⟨(rcalls i).length, 0, rfl, rfl, by simpa using ho⟩, ?_⟩
    rintro n5 l3 x2 t3 ⟨j, rfl, hn5, ho4⟩
    have h1' := (inferInstance : ExtC (h ++ t1) (h ++ (t1 ++ t3))).out.rd h1
    have h2' := h2.ext (H' := h ++ (t1 ++ t3))
    refine ⟨by omega, c, rd_cell (c := 2) h1' rfl, ?_⟩
    rw [h2.len]
    refine ⟨fun hc => ?_, fun hc => ?_⟩
    · simp only [decide_eq_true_eq] at hc
      have hj : j < (rcalls i).length := by omega
      obtain ⟨y, hy⟩ := lt_len rfl hj
      have hw := rd_cell (c := 0) (v := .str (rrow i).nm) h1' rfl
      have hw2 := h2'.cell0 hy (v := .str y.1) rfl
      refine ⟨by omega, _, hw, by omega, c, rd_cell (c := 2) h1' rfl, ⟨by omega, by rw [h2.len]; omega⟩, _, hw2, by omega, _, hw, by omega, c, rd_cell (c := 2) h1' rfl, ⟨by omega, by rw [h2.len]; omega⟩, _, hw2, ?_⟩
      refine rkind_ok _ _ fun t4 => ?_
      obtain ⟨g, hd, hgl, _⟩ := ho4.take
      have hl := ho4.len
      rw [flatMap_len (f := encP) (es := 3) (fun _ => rfl)] at hl
      have hsz := rrows_few i (by omega)
      have htk := List.length_take_le j (rrowsOf i)
      have hsmall := rcalls_less i hi
      rw [List.length_append] at hl
      refine ⟨_, rfl, _, g, hd, by omega, n5 - 1, by omega, j + 1, wrap_succ (by omega), by omega, ?_⟩
      have e : ((List.range i).flatMap rrowsOf ++ (rrowsOf i).take (j + 1)).flatMap encP = ((List.range i).flatMap rrowsOf ++ (rrowsOf i).take j).flatMap encP ++ encP ((rrow i).nm, y.1, kindR (rrow i).nm y.1) := by
        rw [List.flatMap_append, take_succ_flat (rrows_get hy), List.flatMap_append, List.append_assoc]
      rw [e]
      exact Ow.mk (g.length + (t4.length + 1)) (by omega) (by simp [encP]) (ho4.push rfl)
    · simp only [decide_eq_false_iff_not] at hc
      have hj : j = (rcalls i).length := by omega
      subst hj
      rw [← hlast] at ho4
      refine ⟨n - 1, by omega, i + 1, wrap_succ (by omega), by omega, ?_⟩
      rw [List.range_succ, List.flatMap_append, List.flatMap_singleton]
      exact ho4
  · simp only [decide_eq_false_iff_not] at hc
    have hi : i = 21 := by omega
    subst hi
    exact hP _ _ (Ow.sl (base := h.length + t1.length) (t := t2) ho (by omega) (fun _ => rfl) at_app2)
end Go.Proofs.Ythedodaghjpdoaa.Kinds
