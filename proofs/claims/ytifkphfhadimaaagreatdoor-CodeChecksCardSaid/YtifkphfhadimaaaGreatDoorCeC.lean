import Derived.Test.YtifkphfhadimaaaGreatDoorCeB
set_option linter.unusedVariables false
set_option linter.unusedSimpArgs false
set_option maxRecDepth 100000
namespace Go.Proofs.YtifkphfhadimaaaGreatDoor.Mini
open Go.Abs

theorem flen {α β : Type} {f : α → List β} {k : Nat} (hf : ∀ x, (f x).length = k) : ∀ l : List α, (l.flatMap f).length = l.length * k
  | [] => by simp
  | x :: l => by
    rw [List.flatMap_cons, List.length_append, flen hf l, hf, List.length_cons, Nat.add_mul]
    omega
theorem rd_join {H : Heap} {b o a c : Nat} {x y : List AV} (h1 : rdCells H b o a = some x) (h2 : rdCells H b (o + a) c = some y) : rdCells H b o (a + c) = some (x ++ y) := by
  unfold rdCells at h1 h2 ⊢
  split at h1
  · rename_i l es ro hb
    rw [hb] at h2
    simp only at h2 ⊢
    split at h1
    · split at h2
      · rename_i h3 h4
        rw [if_pos (by omega)]
        cases h1
        cases h2
        rw [List.take_add, List.drop_drop]
      · cases h2
    · cases h1
  · cases h1
theorem sl_rows {α : Type} {H : Heap} {s : Slc} {es : Nat} {f : α → List AV} {l : List α} (k : Sl H s es f l) (h0 : rdCells H s.b s.o 0 = some []) : ∀ n, n ≤ l.length → rdCells H s.b s.o (n * es) = some ((l.take n).flatMap f)
  | 0, _ => by simpa using h0
  | n + 1, hn => by
    obtain ⟨x, hx⟩ := lt_len rfl (show n < l.length by omega)
    rw [Nat.add_mul, Nat.one_mul, take_flat f hx]
    exact rd_join (sl_rows k h0 n (by omega)) (k.get n x hx)
theorem sl_rowOf {α : Type} {H : Heap} {s : Slc} {es : Nat} {f : α → List AV} {l : List α} (k : Sl H s es f l) (h0 : s.nil = false → rdCells H s.b s.o 0 = some []) : rowOf H es s.av = some (l.flatMap f) := by
  have hl := k.len
  unfold Slc.av
  unfold Slc.len at hl
  cases hn : s.nil with
  | true =>
    rw [hn] at hl
    obtain rfl : l = [] := List.eq_nil_of_length_eq_zero hl.symm
    simp [rowOf]
  | false =>
    rw [hn] at hl
    simp only [cond_false] at hl ⊢
    simp only [rowOf, hl]
    have := sl_rows k (h0 hn) l.length (Nat.le_refl _)
    rw [List.take_length] at this
    exact this
theorem Ow.more {base : Nat} {t t' : Heap} {s : Slc} {es : Nat} {c : List AV} (k : Ow base t s es c) (h : ∀ (i : Nat) o, t[i]? = some o → s.b = base + i → t'[i]? = some o) : Ow base t' s es c := by
  rcases k with k | ⟨h1, h2, h3, i, h4, h5⟩
  · exact .inl k
  · exact .inr ⟨h1, h2, h3, i, h4, h _ _ h5 h4⟩
theorem at_app {t u : Heap} {i : Nat} {o : AObj} (h : t[i]? = some o) : (t ++ u)[i]? = some o := by
  rw [List.getElem?_append_left (List.getElem?_eq_some_iff.1 h).1]
  exact h

theorem own_ok {p : ProgT} {s : Slc} {h : Heap} (hs : ProgF h s p.2.2) (hk : p.2.2.length < 800 ∧ ∀ r ∈ p.2.2, r.2.length < 800) {P : AV → Heap → Prop} (hP : ∀ (q : Slc) t, ProgOn (h ++ t) q p.2.2 → P (pAV p q) t) : CallE KD 63 [pAV p s] h P := by
  refine d63 (by kernel_rfl) ?_
  unfold D63
  obtain ⟨qs, h1, h2, h3⟩ := hs.rows
  rw [h1.len, h2]
  obtain ⟨hk1, hk2⟩ := hk
  have l11 : ∀ l, (insW l).length = 11 := fun l => rfl
  have l2 : ∀ q, (encR q).length = 2 := fun q => rfl
  refine ⟨fun (m : Nat) (x : Int) (w : List UInt8) (c : Int) (c3 : Slc) (t : Heap) => ∃ (i : Nat) (zs : List (List UInt8 × Slc)), x = (i : Int) ∧ m + i = p.2.2.length ∧ w = p.1 ∧ c = p.2.1 ∧ zs.length = i ∧ Ow (h.length + (1 + (1 + 1))) t c3 2 (zs.flatMap encR) ∧ ∀ (j : Nat) z r, zs[j]? = some z → p.2.2[j]? = some r → z.1 = r.1 ∧ Ow (h.length + (1 + (1 + 1))) t z.2 11 (r.2.flatMap insW), ⟨p.2.2.length, 0, [], rfl, rfl, rfl, rfl, rfl, Ow.none, fun j z r hz => by simp at hz⟩, ?_⟩
  rintro m _ _ _ c3 t ⟨i, zs, rfl, hm, rfl, rfl, hzl, hO, hall⟩
  refine ⟨fun hc => ?_, fun hc => ?_⟩
  · simp only [decide_eq_true_eq] at hc
    have hi : i < p.2.2.length := by omega
    obtain ⟨r, hr⟩ := lt_len rfl hi
    obtain ⟨q, hq⟩ := lt_len h2.symm hi
    obtain ⟨k1, k2, k3⟩ := h3 i q r hq hr
    have hrl := hk2 r (List.mem_of_getElem? hr)
    have fin : ∀ (l2 : Slc) (t2 : Heap), Ow (h.length + (1 + (1 + 1))) t2 l2 11 (r.2.flatMap insW) → (∀ (k : Nat) o, t[k]? = some o → t2[k]? = some o) → ∃ (l2' : Slc), l2.av = l2'.av ∧ ∃ (old1 : List AV) (g1 : Heap), ((c3.nil = true ∧ old1 = [] ∧ g1 = t2) ∨ (c3.nil = false ∧ ∃ (k2 : Nat) (c4 : List AV), c3.b = (h.length + (1 + (1 + 1))) + k2 ∧ (t2)[k2]? = some (.arr c4 2 false) ∧ c3.o + c3.n * 2 ≤ c4.length ∧ old1 = (c4.drop c3.o).take (c3.n * 2) ∧ g1 = t2.set k2 .dead)) ∧
        (c3.len + 1) * 40 ≤ 140737488355328 ∧ ∃ n3, n3 < m ∧ ∃ (i' : Nat) (zs' : List (List UInt8 × Slc)), (IntKind.wrap .i64 ((i : Int) + 1)) = (i' : Int) ∧ n3 + i' = p.2.2.length ∧ p.1 = p.1 ∧ p.2.1 = p.2.1 ∧ zs'.length = i' ∧ Ow (h.length + (1 + (1 + 1))) (g1 ++ (AObj.arr [(.str q.1), l2'.av] 2 false :: [AObj.arr (old1 ++ [(.str q.1), l2'.av]) 2 false])) (Slc.mk (h.length + (1 + (1 + (1 + (g1.length + 1))))) 0 (c3.len + 1) false) 2 (zs'.flatMap encR) ∧
          ∀ (j : Nat) z r, zs'[j]? = some z → p.2.2[j]? = some r → z.1 = r.1 ∧ Ow (h.length + (1 + (1 + 1))) (g1 ++ (AObj.arr [(.str q.1), l2'.av] 2 false :: [AObj.arr (old1 ++ [(.str q.1), l2'.av]) 2 false])) z.2 11 (r.2.flatMap insW) := by
      intro l2 t2 ho ht
      have hO2 : Ow (h.length + (1 + (1 + 1))) t2 c3 2 (zs.flatMap encR) := Ow.more hO fun k o hko _ => ht k o hko
      obtain ⟨g, e1, e2, e3⟩ := hO2.take
      have hlen := hO2.len
      rw [flen (k := 2) (fun q => rfl)] at hlen
      have keep : ∀ {s' : Slc} {c : List AV} {u : Heap}, Ow (h.length + (1 + (1 + 1))) t2 s' 11 c → Ow (h.length + (1 + (1 + 1))) (g ++ u) s' 11 c := by
        intro s' c u ho'
        rcases ho' with k | ⟨a1, a2, a3, k, a4, a5⟩
        · exact .inl k
        · refine .inr ⟨a1, a2, a3, k, a4, at_app (e3 k _ ?_ a5)⟩
          rcases hO2 with b | ⟨b1, b2, b3, k', b4, b5⟩
          · exact .inl b.1
          · refine .inr fun he => ?_
            obtain rfl : k = k' := by omega
            rw [a5] at b5
            simp at b5
      refine ⟨l2, rfl, zs.flatMap encR, g, e1, by omega, m - 1, by omega, i + 1, zs ++ [(q.1, l2)], wrap_succ (by omega), by omega, rfl, rfl, by simp [hzl], ?_, fun j z r' hz hr' => ?_⟩
      · have e : (zs ++ [(q.1, l2)]).flatMap encR = zs.flatMap encR ++ [.str q.1, l2.av] := by simp [encR]
        rw [e]
        refine Ow.mk (g.length + 1) (by omega) ?_ ?_
        · rw [List.getElem?_append_right (by omega), Nat.add_sub_cancel_left]
          rfl
        · rw [List.length_append, flen (k := 2) (fun q => rfl)]
          simp only [List.length_cons, List.length_nil]
          omega
      · rcases Nat.lt_or_ge j zs.length with h' | h'
        · rw [List.getElem?_append_left h'] at hz
          obtain ⟨c1, c2⟩ := hall j z r' hz hr'
          exact ⟨c1, keep (Ow.more c2 fun k o hko _ => ht k o hko)⟩
        · rw [List.getElem?_append_right h'] at hz
          have hj := (List.getElem?_eq_some_iff.1 hz).1
          simp at hj
          obtain rfl : j = i := by omega
          rw [hr] at hr'
          cases hr'
          have e0 : j - zs.length = 0 := by omega
          rw [e0] at hz
          simp at hz
          subst hz
          exact ⟨k1, keep ho⟩
    refine ⟨⟨by omega, by omega⟩, q.1, h1.cell0 hq rfl, ⟨by omega, by omega⟩, q.2, h1.cell hq rfl, ?_⟩
    have hrow : ∀ u, rowOf (h ++ u) 11 q.2.av = some (r.2.flatMap insW) := fun u => sl_rowOf k2.ext fun hn => (show Ext h (h ++ u) from ⟨u, rfl⟩).rd (k3 hn)
    refine ap_ok (es := 11) (by' := 88) (k := t.length) (c := []) (x := q.2) (new := r.2.flatMap insW) rfl ?_ ?_ (by simp) ?_ ?_ (fun hz => ?_) (fun hz => ?_)
    · rw [List.getElem?_append_right (Nat.le_refl _), Nat.sub_self]
      rfl
    · simp only [List.length_append, List.length_cons, List.length_nil]
      omega
    · rw [List.append_assoc]
      exact hrow _
    · rw [k2.len]
      omega
    · have hz' : r.2 = [] := List.eq_nil_of_length_eq_zero (by rw [← k2.len]; exact hz)
      refine fin ⟨h.length + (1 + (1 + (1 + t.length))), 0, 0, false⟩ _ ?_ fun k o hko => at_app hko
      rw [hz']
      refine Ow.mk t.length (by omega) ?_ rfl
      rw [List.getElem?_append_right (Nat.le_refl _), Nat.sub_self]
      rfl
    · refine fin ⟨_, 0, _, false⟩ _ ?_ fun k o hko => ?_
      · refine Ow.mk (t.length + 1) ?_ ?_ ?_
        · simp only [List.length_append, List.length_cons, List.length_nil] <;> omega
        · rw [List.getElem?_append_right (by simp)]
          simp
        · rw [flen (k := 11) (fun l => rfl), k2.len]
          omega
      · have hlt := (List.getElem?_eq_some_iff.1 hko).1
        refine at_app ?_
        rw [List.getElem?_set_ne (by omega)]
        exact at_app hko
  · simp only [decide_eq_false_iff_not] at hc
    refine hP c3 _ ⟨zs, ?_, by omega, fun j z r hz hr => ?_⟩
    · exact hO.sl (by decide) (fun x => rfl) fun k o hko => by
        rw [List.getElem?_append_right (by omega), show h.length + (1 + (1 + 1)) + k - h.length = k + 1 + 1 + 1 by omega]
        exact hko
    · obtain ⟨c1, c2⟩ := hall j z r hz hr
      refine ⟨c1, c2.sl (by decide) (fun x => rfl) fun k o hko => ?_⟩
      rw [List.getElem?_append_right (by omega), show h.length + (1 + (1 + 1)) + k - h.length = k + 1 + 1 + 1 by omega]
      exact hko

theorem sane_d {h : Heap} {P : AV → Heap → Prop} (hP : ∀ t, P (.bool true) t) : CallE KD 51 [] h P := CallE.lift le_cd (sane_ok hP)
end Go.Proofs.YtifkphfhadimaaaGreatDoor.Mini

