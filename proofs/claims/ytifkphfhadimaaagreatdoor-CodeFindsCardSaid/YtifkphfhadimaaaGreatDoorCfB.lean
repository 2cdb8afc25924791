import Derived.Test.YtifkphfhadimaaaGreatDoorCfA
import Derived.Test.YtifkphfhadimaaaGreatDoorShS
import Derived.Test.YtifkphfhadimaaaGreatDoorDecS
set_option linter.unusedVariables false
set_option linter.unusedSimpArgs false
set_option maxRecDepth 100000
namespace Go.Proofs.YtifkphfhadimaaaGreatDoor.Mini
open Go.Abs

noncomputable def newW : List (Nat × MFunc) := [(23, F23), (35, F35), (68, F68), (69, F69), (70, F70), (71, F71), (72, F72), (73, F73), (79, F79)]
noncomputable def tblW : List (Nat × MFunc) := tblZ ++ newW
theorem tblW_ok : ∀ p ∈ tblW, (modelOf Tryz.prog noPrim).fn p.1 = some p.2 := by
  intro p hp
  rcases List.mem_append.1 hp with hp | hp
  · exact tblZ_ok p hp
  · have : ∀ p ∈ newW, (modelOf Tryz.prog noPrim).fn p.1 = some p.2 := by
      simp only [newW, List.mem_cons, List.not_mem_nil, or_false, forall_eq_or_imp, forall_eq]
      exact ⟨fn23, fn35, fn68, fn69, fn70, fn71, fn72, fn73, fn79⟩
    exact this p hp
noncomputable def KW : Model := ⟨fnOf tblW, primV primsX⟩
noncomputable def KF : Model := withS (withB KW bldN) sortN
theorem fitsF {base : Nat} {w0 : World} {out : Prop} : Fits Tryz.prog base w0 out KF := fits_sort (fits_bld (fits_ways mixed tblW tblW_ok _ waysX) bldOK) sortOK
theorem le_ef : Model.le KE KF := ⟨fun _ _ h => fnOf_app h, fun _ _ _ _ h => .inl h⟩
theorem le_df : Model.le KD KF := ⟨fun f F h => le_ef.fn f F (le_de.fn f F h), fun _ _ _ _ h => .inl h⟩

def enI (n : Int) : List AV := [.int .i64 n]
def TX (base : Nat) (t : Heap) (s : Slc) (T : List Int) : Prop := (s = ⟨0, 0, 0, true⟩ ∧ T = []) ∨ (s.nil = false ∧ T ≠ [] ∧ s.o = 0 ∧ s.n = T.length ∧ ∃ k, s.b = base + k ∧ t[k]? = some (.arr (T.map encZ) 1 false))
theorem TX.len {base : Nat} {t : Heap} {s : Slc} {T : List Int} (k : TX base t s T) : s.len = T.length := by
  unfold Slc.len
  rcases k with ⟨rfl, rfl⟩ | ⟨h1, _, _, h2, _⟩
  · rfl
  · rw [h1]; exact h2
theorem TX.take {base : Nat} {t : Heap} {s : Slc} {T : List Int} (k : TX base t s T) : ∃ g, ((s.nil = true ∧ T.map encZ = [] ∧ g = t) ∨ (s.nil = false ∧ ∃ k0 c0, s.b = base + k0 ∧ t[k0]? = some (.arr c0 1 false) ∧ s.o + s.n * 1 ≤ c0.length ∧ T.map encZ = (c0.drop s.o).take (s.n * 1) ∧ g = t.set k0 .dead)) := by
  rcases k with ⟨rfl, rfl⟩ | ⟨h1, h0, h2, h3, i, h4, h5⟩
  · exact ⟨_, .inl ⟨rfl, rfl, rfl⟩⟩
  · exact ⟨_, .inr ⟨h1, i, _, h4, h5, by simp [h2, h3], by rw [h2, h3, List.drop_zero, Nat.mul_one, List.take_of_length_le (by simp)], rfl⟩⟩
theorem TX.mk' {base b n : Nat} {t : Heap} {T : List Int} {x : Int} (k : Nat) (hb : b = base + k) (hn : n = T.length + 1) (ht : t[k]? = some (.arr (T.map encZ ++ [.int .i64 x]) 1 false)) : TX base t ⟨b, 0, n, false⟩ (T ++ [x]) :=
  .inr ⟨rfl, by simp, rfl, by simp [hn], k, hb, by rw [ht, List.map_append]; rfl⟩
theorem TX.more {base : Nat} {t u : Heap} {s : Slc} {T : List Int} (k : TX base t s T) : TX base (t ++ u) s T := by
  rcases k with h | ⟨h1, h0, h2, h3, i, h4, h5⟩
  · exact .inl h
  · exact .inr ⟨h1, h0, h2, h3, i, h4, at_app h5⟩
theorem set_app {p t : Heap} {k : Nat} {o : AObj} (hk : k < t.length) : (p ++ t).set (p.length + k) o = p ++ t.set k o := by
  rw [List.set_append_right _ _ (by omega), Nat.add_sub_cancel_left]
theorem row_sl {H : Heap} {b n : Nat} {z : List Int} {c : List AV} (hb : H[b]? = some (.arr c 1 false)) (hn : n = z.length) (hc : ∀ (i : Nat) x, z[i]? = some x → c[i]? = some (encZ x)) : Sl H ⟨b, 0, n, false⟩ 1 enI z := by
  refine ⟨by simp [Slc.len, hn], fun i x hx => ?_⟩
  have h1 := hc i x hx
  have hi := (List.getElem?_eq_some_iff.1 h1).1
  simp only [rdCells, hb]
  rw [if_pos (by simp; omega)]
  congr 1
  rw [Nat.zero_add, Nat.mul_one]
  apply List.ext_getElem?
  intro j
  rw [List.getElem?_take]
  split
  · rename_i hj
    obtain rfl : j = 0 := by omega
    rw [List.getElem?_drop, Nat.add_zero, h1]
    rfl
  · rw [List.getElem?_eq_none (by simp [enI]; omega)]
theorem sort_p {p t : Heap} {s : Slc} {T : List Int} {P : AV → Heap → Prop} (hs : TX p.length t s T) (hl : T.length ≤ 1000000) (hP : ∀ t', TX p.length t' s (sortZ T) → P (.tuple []) t') : CallP KF 122 [s.av] p t P := by
  intro Q hQ
  refine .prim (.inr ?_)
  rcases hs with ⟨rfl, rfl⟩ | ⟨h1, h0, h2, h3, k, h4, h5⟩
  · exact .inl ⟨rfl, rfl, hQ _ _ (hP t (.inl ⟨rfl, by simp [sortZ]⟩))⟩
  · have hk := (List.getElem?_eq_some_iff.1 h5).1
    refine .inr (.inl ⟨rfl, s.b, T, by simp only [Slc.av, h1, h2, h3]; rfl, h0, hl, by rw [h4, List.getElem?_append_right (by omega), Nat.add_sub_cancel_left]; exact h5, ?_⟩)
    rw [h4, set_app hk]
    refine hQ _ _ (hP _ (.inr ⟨h1, ?_, h2, by rw [sortZ_len]; exact h3, k, h4, by rw [List.getElem?_set_self hk]⟩))
    intro e
    have := congrArg List.length e
    rw [sortZ_len] at this
    exact h0 (List.eq_nil_of_length_eq_zero (by simpa using this))
theorem compact_p {p t : Heap} {s : Slc} {T : List Int} {P : AV → Heap → Prop} (hs : TX p.length t s T) (hl : T.length ≤ 1000000) (hP : ∀ (z : Slc) t', Sl (p ++ t') z 1 enI (Lib.compact T) → P z.av t') : CallP KF 123 [s.av] p t P := by
  intro Q hQ
  refine .prim (.inr ?_)
  rcases hs with ⟨rfl, rfl⟩ | ⟨h1, h0, h2, h3, k, h4, h5⟩
  · exact .inr (.inr (.inl ⟨rfl, rfl, hQ _ _ (hP ⟨0, 0, 0, true⟩ t ⟨rfl, fun i x hx => by simp [Lib.compact, Lib.compactUpTo] at hx⟩)⟩))
  · have hk := (List.getElem?_eq_some_iff.1 h5).1
    refine .inr (.inr (.inr ⟨rfl, s.b, T, by simp only [Slc.av, h1, h2, h3]; rfl, h0, hl, by rw [h4, List.getElem?_append_right (by omega), Nat.add_sub_cancel_left]; exact h5, ?_⟩))
    rw [h4, set_app hk]
    refine hQ _ _ (hP ⟨p.length + k, 0, (Lib.compact T).length, false⟩ _ (row_sl (c := (compZ T).map encZ) (by rw [List.getElem?_append_right (by omega), Nat.add_sub_cancel_left, List.getElem?_set_self hk]) rfl fun i x hx => ?_))
    rw [List.getElem?_map]
    unfold compZ
    rw [List.getElem?_append_left (List.getElem?_eq_some_iff.1 hx).1, hx]
    rfl

theorem ints_same {a b : Slc} {l : List Int} {h : Heap} {P : AV → Heap → Prop} (ha : Sl h a 1 enI l) (hb : Sl h b 1 enI l) (hl : l.length ≤ 1000000) (hP : ∀ t, P (.bool true) t) : CallE KF 72 [a.av, b.av] h P := by
  refine d72 (by kernel_rfl) ?_
  unfold D72
  rw [ha.len, hb.len]
  refine ⟨fun e => by simp at e, fun _ => ⟨fun (m : Nat) (x : Int) (t : Heap) => ∃ i : Nat, x = (i : Int) ∧ m + i = l.length, ⟨l.length, 0, rfl, rfl⟩, ?_⟩⟩
  rintro m _ t ⟨i, rfl, hm⟩
  refine ⟨fun hc => ?_, fun hc => hP _⟩
  simp only [decide_eq_true_eq] at hc
  obtain ⟨x, hx⟩ := lt_len rfl (show i < l.length by omega)
  refine ⟨⟨by omega, by omega⟩, x, ha.cell0 hx rfl, ⟨by omega, by omega⟩, x, hb.cell0 hx rfl, fun e => by simp at e, fun _ => ⟨m - 1, by omega, i + 1, wrap_succ (by omega), by omega⟩⟩
theorem bools_same {a b : Slc} {l : List Bool} {h : Heap} {P : AV → Heap → Prop} (ha : Sl h a 1 encB l) (hb : Sl h b 1 encB l) (hl : l.length ≤ 1000000) (hP : ∀ t, P (.bool true) t) : CallE KF 73 [a.av, b.av] h P := by
  refine d73 (by kernel_rfl) ?_
  unfold D73
  rw [ha.len, hb.len]
  refine ⟨fun e => by simp at e, fun _ => ⟨fun (m : Nat) (x : Int) (t : Heap) => ∃ i : Nat, x = (i : Int) ∧ m + i = l.length, ⟨l.length, 0, rfl, rfl⟩, ?_⟩⟩
  rintro m _ t ⟨i, rfl, hm⟩
  refine ⟨fun hc => ?_, fun hc => hP _⟩
  simp only [decide_eq_true_eq] at hc
  obtain ⟨x, hx⟩ := lt_len rfl (show i < l.length by omega)
  refine ⟨⟨by omega, by omega⟩, x, ha.cell0 hx rfl, ⟨by omega, by omega⟩, x, hb.cell0 hx rfl, fun e => by simp at e, fun _ => ⟨m - 1, by omega, i + 1, wrap_succ (by omega), by omega⟩⟩

noncomputable def findV (p : ProgT) (name : List UInt8) : Int × Int := if checkV p ≠ 0 then (0, checkV p) else match p.2.2.findIdx? (fun r => r.1 == name) with
  | some i => ((i : Int), 0)
  | none => (0, 5)
theorem idx_some {α : Type} {l : List α} {f : α → Bool} {i : Nat} {x : α} (hx : l[i]? = some x) (hf : f x = true) (hn : ∀ (j : Nat) y, j < i → l[j]? = some y → f y = false) : l.findIdx? f = some i := by
  have hi := (List.getElem?_eq_some_iff.1 hx).1
  rw [List.findIdx?_eq_some_iff_getElem]
  refine ⟨hi, by rw [(List.getElem?_eq_some_iff.1 hx).2]; exact hf, fun j hj => ?_⟩
  have := hn j _ hj (List.getElem?_eq_getElem (by omega))
  simp [this]
theorem idx_none {α : Type} {l : List α} {f : α → Bool} (hn : ∀ (j : Nat) y, l[j]? = some y → f y = false) : l.findIdx? f = none := by
  rw [List.findIdx?_eq_none_iff]
  intro x hx
  obtain ⟨j, hj⟩ := List.mem_iff_getElem?.1 hx
  exact hn j x hj
theorem find_d {p : ProgT} {name : List UInt8} {s : Slc} {h : Heap} (hs : ProgOn h s p.2.2) (hk : Few p.2.2) {P : AV → Heap → Prop} (hP : ∀ t, P (.tuple [.int .i64 (findV p name).1, .int .i64 (findV p name).2]) t) : CallE KF 35 [pAV p s, .str name] h P := by
  refine d35 (by kernel_rfl) ?_
  unfold D35
  unfold findV at hP
  refine CallE.lift le_df (check_d hs.ext hk.bnd fun t1 => ⟨_, rfl, fun q => ?_, fun q => ?_⟩)
  · rw [if_pos (by simpa using q)] at hP
    exact hP _
  have hz : checkV p = 0 := by simpa using q
  rw [if_neg (by simp [hz])] at hP
  obtain ⟨qs, h1, h2, h3⟩ := hs.rows
  have hlen := hk.len
  refine d78 (by kernel_rfl) ?_
  unfold D78
  rw [h1.len, h2]
  refine ⟨fun (m : Nat) (x : Int) (t : Heap) => ∃ i : Nat, x = (i : Int) ∧ m + i = p.2.2.length ∧ ∀ (j : Nat) r, j < i → p.2.2[j]? = some r → (r.1 == name) = false, ⟨p.2.2.length, 0, rfl, rfl, fun j c hj => absurd hj (Nat.not_lt_zero j)⟩, ?_⟩
  rintro m _ t ⟨i, rfl, hm, hall⟩
  refine ⟨fun hc => ?_, fun hc => ?_⟩
  · simp only [decide_eq_true_eq] at hc
    have hi : i < p.2.2.length := by omega
    obtain ⟨r, hr⟩ := lt_len rfl hi
    obtain ⟨q', hq'⟩ := lt_len h2.symm hi
    obtain ⟨k1, k2⟩ := h3 i q' r hq' hr
    refine ⟨⟨by omega, by omega⟩, q'.1, q'.2, (Sl.ext h1).agg hq', ?_⟩
    rw [k1]
    refine d79 (by kernel_rfl) ?_
    unfold D79
    refine ⟨name, ?_, _, rfl, fun hz' => ?_, fun hz' => ⟨m - 1, by omega, i + 1, wrap_succ (by omega), by omega, lower hr hall hz'⟩⟩
    · have hb : ((h ++ (AObj.arr [(.str p.1), (.int .i64 p.2.1), s.av] 3 false :: (AObj.arr [(.str name)] 1 false :: t1))) ++ t)[h.length + 1]? = some (.arr [.str name] 1 false) := by
        rw [List.append_assoc, List.getElem?_append_right (by omega), Nat.add_sub_cancel_left]
        rfl
      exact rd_keep hb rfl
    · rw [idx_some hr hz' hall] at hP
      refine ⟨_, rfl, fun e => by simp at e; omega, fun _ => hP _⟩
  · simp only [decide_eq_false_iff_not] at hc
    rw [idx_none (upto (by omega) hall)] at hP
    exact ⟨_, rfl, fun _ => hP _, fun e => by simp at e⟩
theorem rfind_d {p : ProgT} {name : List UInt8} {s : Slc} {h : Heap} (hs : ProgOn h s p.2.2) (hk : Few p.2.2) {P : AV → Heap → Prop} (hP : ∀ t, P (.tuple [.int .i64 (findV p name).1, .int .i64 (findV p name).2]) t) : CallE KF 68 [pAV p s, .str name] h P := by
  refine d68 (by kernel_rfl) ?_
  unfold D68
  unfold findV at hP
  refine CallE.lift le_df (rcheck_d (p := p) hs.ext hk.bnd fun t1 => ⟨_, rfl, fun q => ?_, fun q => ?_⟩)
  · rw [if_pos (by simpa using q)] at hP
    exact hP _
  have hz : checkV p = 0 := by simpa using q
  rw [if_neg (by simp [hz])] at hP
  obtain ⟨qs, h1, h2, h3⟩ := hs.rows
  have hlen := hk.len
  rw [h1.len, h2]
  refine ⟨fun (m : Nat) (x : Int) (t : Heap) => ∃ i : Nat, x = (i : Int) ∧ m + i = p.2.2.length ∧ ∀ (j : Nat) r, j < i → p.2.2[j]? = some r → (r.1 == name) = false, ⟨p.2.2.length, 0, rfl, rfl, fun j c hj => absurd hj (Nat.not_lt_zero j)⟩, ?_⟩
  rintro m _ t ⟨i, rfl, hm, hall⟩
  refine ⟨fun hc => ?_, fun hc => ?_⟩
  · simp only [decide_eq_true_eq] at hc
    have hi : i < p.2.2.length := by omega
    obtain ⟨r, hr⟩ := lt_len rfl hi
    obtain ⟨q', hq'⟩ := lt_len h2.symm hi
    obtain ⟨k1, k2⟩ := h3 i q' r hq' hr
    refine ⟨⟨by omega, by omega⟩, q'.1, h1.cell0 hq' rfl, ?_⟩
    rw [k1]
    refine ⟨fun hz' => ?_, fun hz' => ⟨m - 1, by omega, i + 1, wrap_succ (by omega), by omega, lower hr hall hz'⟩⟩
    rw [idx_some hr hz' hall] at hP
    exact hP _
  · simp only [decide_eq_false_iff_not] at hc
    rw [idx_none (upto (by omega) hall)] at hP
    exact hP _

theorem targets_d {p : ProgT} {routine : Int} {s : Slc} {h : Heap} (hs : ProgOn h s p.2.2) (hk : Few p.2.2) {P : AV → Heap → Prop}
    (g1 : checkV p ≠ 0 → ∀ t, P (.tuple [.nilslice, .int .i64 (checkV p)]) t) (g2 : checkV p = 0 → (routine < 0 ∨ routine ≥ ((p.2.2.length : Nat) : Int)) → ∀ t, P (.tuple [.nilslice, .int .i64 1]) t)
    (g3 : ∀ (i : Nat) r, checkV p = 0 → routine = (i : Int) → p.2.2[i]? = some r → ∀ (z : Slc) t, Sl (h ++ t) z 1 enI (targR r.2 r.2.length) → P (.tuple [z.av, .int .i64 0]) t) : CallE KF 69 [pAV p s, .int .i64 routine] h P := by
  refine d69 (by kernel_rfl) ?_
  unfold D69
  refine CallE.lift le_df (check_d hs.ext hk.bnd fun t1 => ⟨_, rfl, fun q => g1 (by simpa using q) _, fun q => ?_⟩)
  have hz : checkV p = 0 := by simpa using q
  obtain ⟨qs, h1, h2, h3⟩ := hs.rows
  rw [h1.len, h2]
  refine ⟨fun q1 => ⟨fun q2 => g2 hz (.inr (by simpa using q2)) _, fun q2 => ?_⟩, fun q1 => g2 hz (.inl (by simpa using q1)) _⟩
  simp only [decide_eq_false_iff_not] at q1 q2
  obtain ⟨i, rfl⟩ : ∃ i : Nat, routine = (i : Int) := ⟨routine.toNat, by omega⟩
  have hi : i < p.2.2.length := by omega
  obtain ⟨r, hr⟩ := lt_len rfl hi
  obtain ⟨q, hq⟩ := lt_len h2.symm hi
  obtain ⟨k1, k2⟩ := h3 i q r hq hr
  have hcl := hk.code r (List.mem_of_getElem? hr)
  have hw : wrongV r.2 = false := by
    have := List.any_eq_false.1 (check_zero hz) r (List.mem_of_getElem? hr)
    simpa using this
  have hg : GoodC r.2 := goodC_of hw
  have hval : ∀ l ∈ r.2, validL l r.2.length = true := by
    have hw' := hw
    unfold wrongV at hw'
    simp only [Bool.or_eq_false_iff] at hw'
    intro l hl
    have := List.any_eq_false.1 hw'.2.1 l hl
    simpa using this
  refine ⟨⟨by omega, by omega⟩, q.2, h1.cell hq rfl, ?_⟩
  rw [k2.len]
  refine ⟨fun (m : Nat) (l : Slc) (x : Int) (t : Heap) => ∃ j : Nat, x = (j : Int) ∧ m + j = r.2.length ∧ TX (h.length + (1 + t1.length)) t l (targV (r.2.take j)), ⟨r.2.length, 0, rfl, rfl, .inl ⟨rfl, rfl⟩⟩, ?_⟩
  rintro m l _ t2 ⟨j, rfl, hm, hT⟩
  have hTl := targV_len (r.2.take j)
  have hTl2 : (r.2.take j).length ≤ r.2.length := by simp; omega
  refine ⟨fun hc => ?_, fun hc => ?_⟩
  · simp only [decide_eq_true_eq] at hc
    obtain ⟨c, hcj⟩ := lt_len rfl (show j < r.2.length by omega)
    have hag := k2.agg hcj
    refine ⟨⟨by omega, by omega⟩, c.getD 0 0, (c.getD 1 0 == 1), c.getD 2 0, c.getD 3 0, c.getD 4 0, c.getD 5 0, c.getD 6 0, c.getD 7 0, c.getD 8 0, c.getD 9 0, c.getD 10 0, hag, ?_⟩
    refine CallE.lift le_ef (jumps_ok fun t3 => ⟨_, rfl, fun hj => ?_, fun hj => ⟨m - 1, by omega, j + 1, wrap_succ (by omega), by omega, ?_⟩⟩)
    · obtain ⟨g, hg'⟩ := hT.take
      rw [hT.len]
      refine ⟨_, g, hg', by omega, m - 1, by omega, j + 1, wrap_succ (by omega), by omega, ?_⟩
      rw [targV_succ hcj, if_pos (by simpa [jumpI] using hj)]
      refine TX.mk' (g.length + (1 + (t3.length + 1))) (by omega) rfl ?_
      rw [List.getElem?_append_right (by omega), show g.length + (1 + (t3.length + 1)) - g.length = (t3.length + 1) + 1 by omega, List.getElem?_cons_succ, List.getElem?_append_right (by omega), show t3.length + 1 - t3.length = 1 by omega]
      rfl
    · rw [targV_succ hcj, if_neg (by simpa [jumpI] using hj), List.append_nil]
      exact hT.more
  · simp only [decide_eq_false_iff_not] at hc
    rw [List.take_of_length_le (by omega)] at hT hTl
    have hp : (h ++ (AObj.arr [(.str p.1), (.int .i64 p.2.1), s.av] 3 false :: t1)).length = h.length + (1 + t1.length) := by simp; omega
    refine sort_p (T := targV r.2) (by rw [hp]; exact hT) (by omega) fun t4 h4 => ⟨rfl, compact_p (T := sortZ (targV r.2)) h4 (by rw [sortZ_len]; omega) fun z t5 h5 => ⟨z, rfl, g3 i r hz rfl hr z _ ?_⟩⟩
    rw [← targ_same hval hg]
    simpa [List.append_assoc] using h5
end Go.Proofs.YtifkphfhadimaaaGreatDoor.Mini

