/- Code on symbolic states: what is left to be shown is enough. -/
import Derived.Test.YthedodaghjpdoaaAbsV
set_option linter.unusedVariables false
set_option linter.unusedSimpArgs false
namespace Go.Abs

mutual
theorem dem_ok' {A : Nat → Nat} {J n : Nat} : ∀ (v : SV), v.ok n → (dem A J v).ok n
  | .av v, _ => by simp only [SV.ok, dem]
  | .new s o, k => by
    simp only [SV.ok] at k
    simp only [dem, blt_eq]
    by_cases hs : s < J <;> simp [hs, SV.ok, k]
  | .nix s o, k => by
    simp only [SV.ok] at k
    simp only [dem, blt_eq]
    by_cases hs : s < J <;> simp [hs, SV.ok, k]
  | .sln s o m, k => by
    simp only [SV.ok] at k
    simp only [dem, blt_eq]
    by_cases hs : s < J <;> simp [hs, SV.ok, k]
  | .slc s, _ => by simp only [SV.ok, dem]
  | .pto _ _ _, _ => by simp only [SV.ok, dem]
  | .err _ _ _, _ => by simp only [SV.ok, dem]
  | .agg l, k => by simp only [SV.ok] at k; simp only [SV.ok, dem]; exact dems_ok' l k
  | .tup l, k => by simp only [SV.ok] at k; simp only [SV.ok, dem]; exact dems_ok' l k
  | .fn f l, k => by simp only [SV.ok] at k; simp only [SV.ok, dem]; exact dems_ok' l k
  | .ifc t v, k => by simp only [SV.ok] at k; simp only [SV.ok, dem]; exact dem_ok' v k
  | .mpn s, k => by
    simp only [SV.ok] at k
    simp only [dem, blt_eq]
    by_cases hs : s < J <;> simp [hs, SV.ok, k]
  | .ob _, _ => by simp only [SV.ok, dem]
  | .hp _, _ => by simp only [SV.ok, dem]
  | .bad, k => by simp only [SV.ok] at k
theorem dems_ok' {A : Nat → Nat} {J n : Nat} : ∀ (l : List SV), oks n l → oks n (dems A J l)
  | [], _ => by simp only [oks, dems]
  | v :: l, k => by simp only [oks] at k; simp only [oks, dems]; exact ⟨dem_ok' v k.1, dems_ok' l k.2⟩
end

theorem dem_conc' {A A' : Nat → Nat} {J n : Nat} (h : ∀ s, s < J → s < n → A' s = A s) (v : SV) (hv : v.ok n) : conc A' (dem A J v) = conc A v := by
  have h1 := dem_conc (A := A) (A' := fun s => if s < n then A' s else A s) (J := J) (fun s hs => by
    by_cases hn : s < n
    · simp [hn, h s hs hn]
    · simp [hn]) v
  rw [← h1]
  exact (conc_congr (n := n) (fun s hs => by simp [hs]) _ (dem_ok' v hv)).symm
theorem dems_conc' {A A' : Nat → Nat} {J n : Nat} (h : ∀ s, s < J → s < n → A' s = A s) (l : List SV) (hl : oks n l) : concs A' (dems A J l) = concs A l := by
  rw [oks_iff] at hl
  rw [concs_map, concs_map, dems_map, List.map_map]
  exact List.map_congr_left fun v hv => dem_conc' h v (hl v hv)
theorem flat_dem' {A A' : Nat → Nat} {J n : Nat} (h : ∀ s, s < J → s < n → A' s = A s) : ∀ (H : List Seg), (∀ s ∈ H, s.ok n) → flat A' (H.map (Seg.dem A J)) = flat A H
  | [], _ => by simp [flat]
  | s :: r, k => by
    rw [List.map_cons, flat_cons, flat_cons, flat_dem' h r fun x hx => k x (List.mem_cons_of_mem _ hx)]
    congr 1
    have := k s List.mem_cons_self
    cases s <;> simp only [Seg.dem, Seg.heap]
    simp only [Seg.ok] at this
    rw [dems_conc' h _ this]

theorem setBad_get : ∀ {l : List Nat} {t : List SV} {i : Nat} {v : SV}, (setBad t l)[i]? = some v → v = .bad ∨ (i ∉ l ∧ t[i]? = some v)
  | [], t, i, v, h => .inr ⟨by simp, by simpa only [setBad] using h⟩
  | x :: l, t, i, v, h => by
    simp only [setBad] at h
    rcases setBad_get h with h1 | ⟨h1, h2⟩
    · exact .inl h1
    · rw [List.getElem?_set] at h2
      by_cases hx : x = i
      · rw [if_pos hx] at h2
        split at h2
        · cases h2; exact .inl rfl
        · cases h2
      · rw [if_neg hx] at h2
        exact .inr ⟨by simp [h1, Ne.symm hx], h2⟩
theorem setBad_length : ∀ (l : List Nat) (t : List SV), (setBad t l).length = t.length
  | [], t => by simp [setBad]
  | x :: l, t => by simp [setBad, setBad_length l]
theorem setVals_get : ∀ {l : List (Nat × Sh)} {vs t : List SV} {i : Nat} {v : SV}, (setVals t l vs)[i]? = some v → (∃ (k : Nat) (q : Nat × Sh), l[k]? = some q ∧ q.1 = i ∧ vs[k]? = some v) ∨ t[i]? = some v
  | [], vs, t, i, v, h => .inr (by simpa only [setVals] using h)
  | q :: l, [], t, i, v, h => .inr (by simpa only [setVals] using h)
  | q :: l, u :: vs, t, i, v, h => by
    simp only [setVals] at h
    rcases setVals_get h with ⟨k, q', h1, h2, h3⟩ | h1
    · exact .inl ⟨k + 1, q', by simpa using h1, h2, by simpa using h3⟩
    · rw [List.getElem?_set] at h1
      by_cases hx : q.1 = i
      · rw [if_pos hx] at h1
        split at h1
        · cases h1; exact .inl ⟨0, q, rfl, hx, rfl⟩
        · cases h1
      · rw [if_neg hx] at h1
        exact .inr h1
theorem setVals_length : ∀ (l : List (Nat × Sh)) (vs t : List SV), (setVals t l vs).length = t.length
  | [], vs, t => by simp [setVals]
  | q :: l, [], t => by simp [setVals]
  | q :: l, u :: vs, t => by simp [setVals, setVals_length l]

theorem setSegs_get : ∀ {l : List (Nat × Sh × Nat)} {ws : List SV} {H : List Seg} {i : Nat} {x : Seg}, ws.length = l.length → (setSegs H l ws)[i]? = some x →
    (∃ (k : Nat) (q : Nat × Sh × Nat) (w : SV), l[k]? = some q ∧ q.1 = i ∧ ws[k]? = some w ∧ x = valSeg w q.2.2) ∨ (i ∉ l.map (·.1) ∧ H[i]? = some x)
  | [], ws, H, i, x, hl, h => .inr ⟨by simp, by simpa only [setSegs] using h⟩
  | q :: l, [], H, i, x, hl, h => by simp at hl
  | q :: l, w :: ws, H, i, x, hl, h => by
    simp only [setSegs] at h
    rcases setSegs_get (by simpa using hl) h with ⟨k, q', w', h1, h2, h3, h4⟩ | ⟨h1, h2⟩
    · exact .inl ⟨k + 1, q', w', by simpa using h1, h2, by simpa using h3, h4⟩
    · rw [List.getElem?_set] at h2
      by_cases hx : q.1 = i
      · rw [if_pos hx] at h2
        split at h2
        · cases h2
          exact .inl ⟨0, q, w, rfl, hx, rfl, rfl⟩
        · cases h2
      · rw [if_neg hx] at h2
        refine .inr ⟨?_, h2⟩
        simp only [List.map_cons, List.mem_cons, not_or]
        exact ⟨fun e => hx e.symm, h1⟩
theorem setSegs_lens : ∀ {l : List (Nat × Sh × Nat)} {ws : List SV} {H : List Seg}, (∀ (k : Nat) (q : Nat × Sh × Nat) (w : SV) (n : Nat), l[k]? = some q → ws[k]? = some w → (H.map Seg.len)[q.1]? = some n → (valSeg w q.2.2).len = n) → (setSegs H l ws).map Seg.len = H.map Seg.len
  | [], ws, H, h => by simp [setSegs]
  | q :: l, [], H, h => by simp [setSegs]
  | q :: l, w :: ws, H, h => by
    simp only [setSegs]
    have e : (H.set q.1 (valSeg w q.2.2)).map Seg.len = H.map Seg.len := by
      cases hq : H[q.1]? with
      | none =>
        rw [List.set_eq_of_length_le]
        exact List.getElem?_eq_none_iff.1 hq
      | some x => exact set_lens hq (h 0 q w x.len rfl rfl (by simp [hq]))
    rw [setSegs_lens, e]
    intro k q' w' n h1 h2 h3
    rw [e] at h3
    exact h (k + 1) q' w' n (by simpa using h1) (by simpa using h2) h3

theorem fits_spec {H : List Seg} : ∀ {l : List (Nat × Sh × Nat)}, fits H l = true → ∀ q ∈ l, ∃ x, H[q.1]? = some x ∧ segFit x q.2.2 = true
  | [], _, q, hq => by simp at hq
  | q0 :: l, h, q, hq => by
    simp only [fits, Bool.and_eq_true] at h
    rcases List.mem_cons.1 hq with rfl | hq
    · cases hx : H[q.1]? with
      | none => rw [hx] at h; simp at h
      | some x => rw [hx] at h; exact ⟨x, rfl, h.1⟩
    · exact fits_spec h.2 q hq

theorem SaysL.split {A : Nat → Nat} : ∀ {a b vs : List SV}, SaysL A (a ++ b) vs → SaysL A a (vs.take a.length) ∧ SaysL A b (vs.drop a.length)
  | [], b, vs, h => by simpa [SaysL] using h
  | x :: a, b, [], h => by simp [SaysL] at h
  | x :: a, b, v :: vs, h => by
    simp only [List.cons_append, SaysL] at h
    obtain ⟨h1, h2⟩ := SaysL.split h.2
    simp only [List.length_cons, List.take_succ_cons, List.drop_succ_cons, SaysL]
    exact ⟨⟨h.1, h1⟩, h2⟩

/-- From a state of a pattern to the pattern's own state. -/
theorem ent_val {p : Pat} {dead : List Nat} {t : List SV} {H : List Seg} {t' : Tmps} {h : Heap} (hv : Val t H t' h) (hj : p.top ≤ H.length) (ho : fits H p.objs = true)
    {t1 : List SV} {H1 : List Seg} {t1' : Tmps} {h1 : Heap} (hv1 : Val t1 H1 t1' h1) (hl : t1'.length = t'.length) (hk : KeepH p.top p.W H h H1 h1) (hkt : KeepT dead t' t1') {I : Ars p.shs (Heap → Prop)} (he : entS p t1 H1 I) :
    ∃ vs tail r, Val (p.inst dead t H vs) (p.head H vs tail) t1' h1 ∧ KeepH p.top p.W H h (p.head H vs tail) h1 ∧ r tail ∧ ∀ G : List SV → (Heap → Prop) → Prop, allsI p.shs I G → G vs r := by
  unfold entS at he
  split at he
  · rename_i hf
    obtain ⟨vs, r, hs, hr, hG⟩ := aps_spec p.shs I (p.vals t1 H1) _ he
    unfold Pat.vals at hs
    obtain ⟨hs1, hs2⟩ := SaysL.split hs
    simp only [List.length_map] at hs1 hs2
    refine ⟨vs, flat (addr H1) (H1.drop p.top), r, ?_, ?_, hr, hG⟩
    all_goals
      have hwl : (vs.drop p.tmps.length).length = p.objs.length := by rw [hs2.length]; simp
      generalize hws : vs.drop p.tmps.length = ws at hs2 hwl
      have hhead : p.head H vs (flat (addr H1) (H1.drop p.top)) = setSegs ((H.take p.top).map (Seg.dem (addr H) p.top)) p.objs ws ++ [.sym (flat (addr H1) (H1.drop p.top))] := by
        unfold Pat.head
        rw [hws]
      generalize hSS : setSegs ((H.take p.top).map (Seg.dem (addr H) p.top)) p.objs ws = SS at hhead
      have hP : ∀ s x, ((H.take p.top).map (Seg.dem (addr H) p.top))[s]? = some x → ∃ y, H[s]? = some y ∧ s < p.top ∧ x = y.dem (addr H) p.top := by
        intro s x hx
        simp only [List.getElem?_map, Option.map_eq_some_iff] at hx
        obtain ⟨y, hy, rfl⟩ := hx
        rw [List.getElem?_take] at hy
        split at hy
        · rename_i hlt
          exact ⟨y, hy, hlt, rfl⟩
        · cases hy
      have hlens : SS.map Seg.len = (H.take p.top).map Seg.len := by
        rw [← hSS, setSegs_lens, List.map_map]
        · exact List.map_congr_left fun x _ => seg_dem_len _ _ x
        · intro k q w n q1 q3 hn
          rw [List.getElem?_map] at hn
          simp only [Option.map_eq_some_iff] at hn
          obtain ⟨x, hx, rfl⟩ := hn
          obtain ⟨y, hy, hlt, rfl⟩ := hP _ _ hx
          rw [seg_dem_len]
          obtain ⟨y', hy', hfit⟩ := fits_spec hf q (List.mem_of_getElem? q1)
          have hsv : (p.objs.map fun q => segAt H1 q.1)[k]? = some (segAt H1 q.1) := by simp [q1]
          have hss := hs2.get hsv q3
          have hsa : segAt H1 q.1 = segVal y' := by simp [segAt, hy']
          rw [hsa] at hss
          have l1 : (valSeg w q.2.2).len = y'.len := by
            rw [← heap_length (addr H1) (valSeg w q.2.2), ← heap_length (addr H1) y', (valSeg_spec w q.2.2).1, segVal_spec hfit, hss.2.2.1]
          have a1 := addr_succ hy
          have a2 := addr_succ hy'
          rw [hk.2.1 (q.1 + 1) (by omega), hk.2.1 q.1 (by omega)] at a2
          omega
      have hSl : SS.length = p.top := by
        have := congrArg List.length hlens
        simp at this
        omega
      have hA : ∀ s, s ≤ p.top → addr (p.head H vs (flat (addr H1) (H1.drop p.top))) s = addr H s := by
        intro s hs
        rw [hhead, addr_append _ _ s (by rw [hSl]; exact hs), addr_lens hlens, addr_take hs hj]
    · have hA' : ∀ s, s < p.top → s < H.length → addr (p.head H vs (flat (addr H1) (H1.drop p.top))) s = addr H s := fun s hs _ => hA s (by omega)
      have hlen : (p.head H vs (flat (addr H1) (H1.drop p.top))).length = p.top + 1 := by rw [hhead]; simp [hSl]
      have hget : ∀ s x, SS[s]? = some x → (∃ (k : Nat) (q : Nat × Sh × Nat) (w : SV), p.objs[k]? = some q ∧ q.1 = s ∧ ws[k]? = some w ∧ x = valSeg w q.2.2) ∨ (s ∉ p.W ∧ ∃ y, H[s]? = some y ∧ x = y.dem (addr H) p.top) := by
        intro s x hx
        rw [← hSS] at hx
        rcases setSegs_get hwl hx with h2 | ⟨h2, h3⟩
        · exact .inl h2
        · obtain ⟨y, hy, _, hxy⟩ := hP _ _ h3
          exact .inr ⟨h2, y, hy, hxy⟩
      refine ⟨⟨?_, ?_⟩, ?_, ?_⟩
      · generalize hA'' : addr (p.head H vs (flat (addr H1) (H1.drop p.top))) = A' at hA hA'
        have e0 : h1 = h1.take (addr H p.top) ++ h1.drop (addr H p.top) := (List.take_append_drop _ _).symm
        have e2 : h1.drop (addr H p.top) = flat (addr H1) (H1.drop p.top) := by
          have := drop_flat (addr H1) (H := H1) (z := p.top) hk.1
          rw [hk.2.1 p.top (Nat.le_refl _), ← hv1.heap.1] at this
          exact this
        have hSA : ∀ s, s ≤ p.top → addr SS s = addr H s := fun s hs => by rw [addr_lens hlens, addr_take hs hj]
        have e1 : flat A' SS = h1.take (addr H p.top) := by
          have hl1 : (flat A' SS).length = addr H p.top := by rw [flat_length, hSl, hSA _ (Nat.le_refl _)]
          have hl2 : (h1.take (addr H p.top)).length = addr H p.top := by
            rw [List.length_take, hv1.heap.1, flat_length]
            have := addr_mono H1 hk.1
            rw [hk.2.1 p.top (Nat.le_refl _)] at this
            omega
          refine List.ext_getElem? fun k => ?_
          rcases Nat.lt_or_ge k (addr H p.top) with hkl | hkl
          · rw [List.getElem?_take_of_lt hkl]
            obtain ⟨s, s1, s2, s3⟩ := addr_find hkl
            have hsl : s < SS.length := by omega
            have hx : SS[s]? = some SS[s] := List.getElem?_eq_getElem hsl
            generalize SS[s] = x at hx
            obtain ⟨i, rfl⟩ : ∃ i, k = addr H s + i := ⟨k - addr H s, by omega⟩
            have hxl : addr SS (s + 1) = addr SS s + x.len := addr_succ hx
            rw [hSA s (by omega), hSA (s + 1) (by omega)] at hxl
            have g1 := flat_get (A := A') hx (k := i) (by omega)
            rw [hSA s (by omega)] at g1
            rw [g1]
            rcases hget s x hx with ⟨j, q, w, q1, q2, q3, rfl⟩ | ⟨q1, y, q2, rfl⟩
            · obtain ⟨y, hy, hfit⟩ := fits_spec hf q (List.mem_of_getElem? q1)
              rw [q2] at hy
              have v2 := (valSeg_spec w q.2.2).1
              have u2 := segVal_spec hfit
              have a2 := addr_succ hy
              rw [hk.2.1 (s + 1) (by omega), hk.2.1 s (by omega)] at a2
              have g2 := flat_get (A := addr H1) hy (k := i) (by omega)
              rw [hk.2.1 s (by omega), ← hv1.heap.1] at g2
              rw [g2, v2, u2]
              have hsv : (p.objs.map fun q => segAt H1 q.1)[j]? = some (segAt H1 q.1) := by simp [q1]
              have := hs2.get hsv q3
              have hsa : segAt H1 q.1 = segVal y := by simp [segAt, q2, hy]
              rw [hsa] at this
              rw [this.2.2.1]
            · rw [hk.2.2 s s1 q1 _ s2 s3, hv.heap.1]
              rw [seg_dem_len] at hxl
              rw [flat_get (A := addr H) q2 (k := i) (by omega)]
              have hyok := hv.heap.2 y (List.mem_of_getElem? q2)
              have := flat_dem' (A := addr H) (A' := A') (J := p.top) (n := H.length) hA' [y] (by simpa using hyok)
              simp only [List.map_cons, List.map_nil, flat] at this
              rw [this]
          · rw [List.getElem?_eq_none (by omega), List.getElem?_eq_none (by omega)]
        rw [hhead, flat_append, e1]
        simp only [flat, Seg.heap]
        rw [← e2]
        exact e0
      · intro s hs
        rw [hlen]
        rw [hhead] at hs
        rcases List.mem_append.1 hs with h2 | h2
        · obtain ⟨i, hi, rfl⟩ := List.getElem_of_mem h2
          rcases hget i SS[i] (List.getElem?_eq_getElem hi) with ⟨k, q, w, q1, q2, q3, q4⟩ | ⟨q1, y, q2, q4⟩
          · rw [q4]
            have hsv : (p.objs.map fun q => segAt H1 q.1)[k]? = some (segAt H1 q.1) := by simp [q1]
            exact (valSeg_spec w q.2.2).2 _ ((hs2.get hsv q3).2.2.2 _)
          · rw [q4]
            have := seg_dem_ok (A := addr H) (J := p.top) (hv.heap.2 y (List.mem_of_getElem? q2))
            cases hx' : (Seg.dem (addr H) p.top y) <;> simp only [Seg.ok]
            rw [hx'] at this
            simp only [Seg.ok] at this
            exact oks_mono (by omega) _ this
        · simp at h2
          subst h2
          simp only [Seg.ok]
      · unfold Pat.inst
        rw [setVals_length, setBad_length, List.length_map, hl, hv.len]
      · intro i v hi
        unfold Pat.inst at hi
        rcases setVals_get hi with ⟨k, q, k1, k2, k3⟩ | k1
        · have hv0 : (p.tmps.map fun q => t1.getD q.1 .bad)[k]? = some (t1.getD q.1 .bad) := by simp [k1]
          have hkl : k < p.tmps.length := (List.getElem?_eq_some_iff.1 k1).1
          have hv2 : (vs.take p.tmps.length)[k]? = some v := by rw [List.getElem?_take_of_lt hkl]; exact k3
          obtain ⟨s1, s2, s3, s4⟩ := hs1.get hv0 hv2
          have := hv1.ev (.tmp q.1)
          simp only [MO.ev, MO.eval] at this
          obtain ⟨_, e⟩ := this.ok s1
          rw [k2] at e s2
          exact .inr ⟨s4 _, by rw [e, s2]⟩
        · rcases setBad_get k1 with k2 | ⟨k2, k3⟩
          · exact .inl k2
          · simp only [List.getElem?_map, Option.map_eq_some_iff] at k3
            obtain ⟨v0, k3, rfl⟩ := k3
            rw [hkt i k2]
            rcases hv.tok i v0 k3 with rfl | ⟨o1, o2⟩
            · exact .inl (by simp [dem])
            · refine .inr ⟨?_, by rw [o2, dem_conc' hA' v0 o1]⟩
              rw [hlen]
              exact SV.ok_mono (by omega) _ (dem_ok v0 o1)
    · refine ⟨by rw [hhead]; simp [hSl], hA, hk.2.2⟩
  · exact he.elim

theorem okAt_spec {p : Pat} {z : Nat} {W : List Nat} {H : List Seg} (h : p.okAt z W H = true) : z ≤ p.top ∧ p.top ≤ H.length ∧ fits H p.objs = true ∧ ∀ s, s < z → s ∈ p.W → s ∈ W := by
  simp only [Pat.okAt, Bool.and_eq_true, Nat.ble_eq, List.all_eq_true] at h
  obtain ⟨⟨⟨h1, h2⟩, h3⟩, h4⟩ := h
  refine ⟨h1, h2, h3, fun s hs hw => ?_⟩
  obtain ⟨q, hq, rfl⟩ := List.mem_map.1 hw
  have := (h4 q hq).2
  rcases wr_spec this with h5 | h5
  · omega
  · exact h5

theorem blkX_eq (id : Nat) (x : MX) : blkX id x = if x = .exit id then .normal else x := by
  cases x with
  | exit k =>
    simp only [blkX]
    cases hb : Nat.beq k id with
    | true => have := Nat.eq_of_beq_eq_true hb; subst this; simp
    | false =>
      have : k ≠ id := fun h => by subst h; simp at hb
      simp [this]
  | normal => simp [blkX]
  | ret => simp [blkX]

theorem asgOps_mem {l : List MOper} {i : Nat} : i ∈ asgOps l ↔ ∃ o ∈ l, o.dst = some i ∨ ∃ w, o.guard = some (i, w) := by
  induction l with
  | nil => simp [asgOps]
  | cons o l ih =>
    simp only [asgOps, List.mem_cons, exists_eq_or_imp]
    rw [← ih]
    cases hd : o.dst <;> cases hg : o.guard <;> simp [eq_comm, Prod.ext_iff, or_assoc]

theorem asg_perm {l : List MOper} {σ : List Nat} {i : Nat} (h : i ∈ asgOps (permL l σ)) : i ∈ asgOps l := by
  rw [asgOps_mem] at h ⊢
  obtain ⟨o, ho, h⟩ := h
  unfold permL at ho
  obtain ⟨x, _, hx⟩ := List.mem_filterMap.1 ho
  exact ⟨o, List.mem_of_getElem? hx, h⟩

theorem wpC_sound {M : Model} : ∀ (c : MCode) {r : Hint} {z : Nat} {W : List Nat} {t : List SV} {H : List Seg} {K : MX → List SV → List Seg → Hint → Prop} {t' : Tmps} {h : Heap} {Q : MX → Tmps → Heap → Prop}, Val t H t' h → z ≤ H.length → wpC M z W c r t H K →
    (∀ x t1 H1 r1 t1' h1, Val t1 H1 t1' h1 → t1'.length = t'.length → KeepH z W H h H1 h1 → KeepT (asg c) t' t1' → K x t1 H1 r1 → Q x t1' h1) → Runs M (.code c t' Q) h := by
  intro c
  induction c with
  | skip =>
    intro r z W t H K t' h Q hv hz hw hK
    exact .skip (hK _ _ _ _ _ _ hv rfl (KeepH.refl hz) (KeepT.refl _ _) (by simpa only [wpC] using hw))
  | exit id =>
    intro r z W t H K t' h Q hv hz hw hK
    exact .exit (hK _ _ _ _ _ _ hv rfl (KeepH.refl hz) (KeepT.refl _ _) (by simpa only [wpC] using hw))
  | ret =>
    intro r z W t H K t' h Q hv hz hw hK
    exact .ret (hK _ _ _ _ _ _ hv rfl (KeepH.refl hz) (KeepT.refl _ _) (by simpa only [wpC] using hw))
  | region l =>
    intro r z W t H K t' h Q hv hz hw hK
    simp only [wpC] at hw
    exact .region (wpOps_sound hv hz hw fun t1 H1 r1 t1' h1 a1 a5 a2 a3 a4 => hK _ _ _ _ _ _ a1 a5 a2 (by simpa only [asg] using a3) a4)
  | draw l pre =>
    intro r z W t H K t' h Q hv hz hw hK
    simp only [wpC] at hw
    split at hw
    · rename_i hok
      exact .draw (draw_runs hok (wpOps_sound hv hz hw fun t1 H1 r1 t1' h1 a1 a5 a2 a3 a4 => hK _ _ _ _ _ _ a1 a5 a2 (by simpa only [asg] using a3) a4))
    · split at hw
      · rename_i σ τ r
        split at hw
        · rename_i hok
          rw [Bool.and_eq_true] at hok
          exact .draw (perm_all hok.1 (eff_runs hok.2 (wpOps_srun hv hz hw fun t1 H1 r1 t1' h1 a1 a5 a2 a3 a4 => hK _ _ _ _ _ _ a1 a5 a2 (fun i hi => a3 i fun hh => hi (by simpa only [asg] using asg_perm hh)) a4)))
        · exact hw.elim
      · split at hw
        · rename_i hok
          exact .draw (eff_runs hok (wpOps_srun hv hz hw fun t1 H1 r1 t1' h1 a1 a5 a2 a3 a4 => hK _ _ _ _ _ _ a1 a5 a2 (by simpa only [asg] using a3) a4))
        · exact hw.elim
  | seq a b iha ihb =>
    intro r z W t H K t' h Q hv hz hw hK
    have hsa : ∀ i ∈ asg a, i ∈ asg (.seq a b) := fun i hi => by simp only [asg, List.mem_append]; exact .inl hi
    have hsb : ∀ i ∈ asg b, i ∈ asg (.seq a b) := fun i hi => by simp only [asg, List.mem_append]; exact .inr hi
    simp only [wpC] at hw
    split at hw
    · rename_i p ra rb
      split at hw
      · rename_i hc
        obtain ⟨hzj, hj, ho, hWW⟩ := okAt_spec hc
        obtain ⟨J, hwa, hwb⟩ := hw
        refine .seq (fun x t1' h1 => ∃ t1 H1 r1, Val t1 H1 t1' h1 ∧ t1'.length = t'.length ∧ KeepH p.top p.W H h H1 h1 ∧ KeepT (asg a) t' t1' ∧ onX x (entS p t1 H1 J) fun x => K x t1 H1 r1) (iha hv hj hwa fun x t1 H1 r1 t1' h1 a1 a5 a2 a3 a4 => ⟨t1, H1, r1, a1, a5, a2, a3, a4⟩) ?_ ?_
        · rintro t1' h1 ⟨t1, H1, r1, a1, a5, a2, a3, a4⟩
          obtain ⟨vs, tail, rr, e1, e2, e3, e4⟩ := ent_val hv hj ho a1 a5 a2 a3 a4
          have hwb' := e4 _ hwb tail e3
          exact ihb e1 (by have := e2.1; omega) hwb' fun x t2 H2 r2 t2' h2 b1 b5 b2 b3 b4 => hK _ _ _ _ _ _ b1 (b5.trans a5) ((e2.weaken hzj hWW).trans b2) (a3.trans b3 hsa hsb) b4
        · rintro x t1' h1 hx ⟨t1, H1, r1, a1, a5, a2, a3, a4⟩
          refine hK _ _ _ r1 _ _ a1 a5 (a2.weaken hzj hWW) (fun i hi => a3 i fun hh => hi (hsa i hh)) ?_
          cases x with
          | normal => exact absurd rfl hx
          | exit => exact a4
          | ret => exact a4
      · exact hw.elim
    · refine .seq (fun x t1' h1 => ∃ t1 H1 r1, Val t1 H1 t1' h1 ∧ t1'.length = t'.length ∧ KeepH z W H h H1 h1 ∧ KeepT (asg a) t' t1' ∧ onX x (wpC M z W b r1 t1 H1 K) fun x => K x t1 H1 r1) (iha hv hz hw fun x t1 H1 r1 t1' h1 a1 a5 a2 a3 a4 => ⟨t1, H1, r1, a1, a5, a2, a3, a4⟩) ?_ ?_
      · rintro t1' h1 ⟨t1, H1, r1, a1, a5, a2, a3, a4⟩
        exact ihb a1 a2.1 a4 fun x t2 H2 r2 t2' h2 b1 b5 b2 b3 b4 => hK _ _ _ _ _ _ b1 (b5.trans a5) (a2.trans b2) (a3.trans b3 hsa hsb) b4
      · rintro x t1' h1 hx ⟨t1, H1, r1, a1, a5, a2, a3, a4⟩
        refine hK _ _ _ r1 _ _ a1 a5 a2 (fun i hi => a3 i fun hh => hi (hsa i hh)) ?_
        cases x with
        | normal => exact absurd rfl hx
        | exit => exact a4
        | ret => exact a4
  | cond c a b iha ihb =>
    intro r z W t H K t' h Q hv hz hw hK
    have hsa : ∀ i ∈ asg a, i ∈ asg (.cond c a b) := fun i hi => by simp only [asg, List.mem_append]; exact .inl hi
    have hsb : ∀ i ∈ asg b, i ∈ asg (.cond c a b) := fun i hi => by simp only [asg, List.mem_append]; exact .inr hi
    simp only [wpC] at hw
    split at hw
    · rename_i v hcv
      obtain ⟨_, e⟩ := ev_ok hv c hcv (by simp)
      simp only [conc] at e
      have T : ∀ {r1 : Hint}, wpC M z W a r1 t H K → c.eval t' = .bool true → Runs M (.code (.cond c a b) t' Q) h := fun hw he =>
        .condT he (iha hv hz hw fun x t1 H1 r1 t1' h1 a1 a5 a2 a3 a4 => hK _ _ _ _ _ _ a1 a5 a2 (fun i hi => a3 i fun hh => hi (hsa i hh)) a4)
      have F : ∀ {r1 : Hint}, wpC M z W b r1 t H K → c.eval t' = .bool false → Runs M (.code (.cond c a b) t' Q) h := fun hw he =>
        .condF he (ihb hv hz hw fun x t1 H1 r1 t1' h1 a1 a5 a2 a3 a4 => hK _ _ _ _ _ _ a1 a5 a2 (fun i hi => a3 i fun hh => hi (hsb i hh)) a4)
      split at hw
      · split at hw
        · exact T hw e
        · exact F hw e
      · cases v with
        | true => exact T (hw.1 rfl) e
        | false => exact F (hw.2 rfl) e
      · exact hw.elim
    · exact hw.elim
  | block id c ih =>
    intro r z W t H K t' h Q hv hz hw hK
    simp only [wpC] at hw
    refine .block (ih hv hz hw fun x t1 H1 r1 t1' h1 a1 a5 a2 a3 a4 => ?_)
    rw [← blkX_eq]
    exact hK _ _ _ _ _ _ a1 a5 a2 (by simpa only [asg] using a3) a4
  | loop c ih =>
    intro r z W t H K t' h Q hv hz hw hK
    simp only [wpC] at hw
    split at hw
    · rename_i p rb
      split at hw
      · rename_i hc
        obtain ⟨hzj, hj, ho, hWW⟩ := okAt_spec hc
        obtain ⟨I, ⟨n0, hent⟩, hbody⟩ := hw
        have key : ∀ (n : Nat) (t1 : List SV) (H1 : List Seg) (t1' : Tmps) (h1 : Heap), Val t1 H1 t1' h1 → t1'.length = t'.length → KeepH p.top p.W H h H1 h1 → KeepT (asg c) t' t1' → entS p t1 H1 (I n) → Runs M (.code (.loop c) t1' Q) h1 := by
          intro n
          induction n using Nat.strongRecOn with
          | ind n ihn =>
            intro t1 H1 t1' h1 a1 a5 a2 a3 a4
            obtain ⟨vs, tail, rr, e1, e2, e3, e4⟩ := ent_val hv hj ho a1 a5 a2 a3 a4
            have hb' := e4 _ (hbody n) tail e3
            refine .loop (fun x t2' h2 => ∃ t2 H2 r2, Val t2 H2 t2' h2 ∧ t2'.length = t'.length ∧ KeepH p.top p.W H h H2 h2 ∧ KeepT (asg c) t' t2' ∧ onX x (∃ n', n' < n ∧ entS p t2 H2 (I n')) fun x => K x t2 H2 r2) (ih e1 e2.1 hb' fun x t2 H2 r2 t2' h2 b1 b5 b2 b3 b4 => ⟨t2, H2, r2, b1, b5.trans a5, e2.trans b2, a3.trans b3 (fun _ h => h) (fun _ h => h), b4⟩) ?_ ?_
            · rintro t2' h2 ⟨t2, H2, r2, b1, b5, b2, b3, n', hn', b4⟩
              exact ihn n' hn' t2 H2 t2' h2 b1 b5 b2 b3 b4
            · rintro x t2' h2 hx ⟨t2, H2, r2, b1, b5, b2, b3, b4⟩
              refine hK _ _ _ r2 _ _ b1 b5 (b2.weaken hzj hWW) (by simpa only [asg] using b3) ?_
              cases x with
              | normal => exact absurd rfl hx
              | exit => exact b4
              | ret => exact b4
        exact key n0 t H t' h hv rfl (KeepH.refl hj) (KeepT.refl _ _) hent
      · exact hw.elim
    · exact hw.elim

/-! ### Functions -/
def resS1 (t : List SV) (H : List Seg) : MRes → Option SV
  | .tmp i => match t.getD i .bad with
    | .bad => none
    | v => some v
  | .cell agg i => match t.getD i .bad with
    | .new s o => match H[s]? with
      | some (.con c _) => partS agg c o
      | _ => none
    | _ => none
def resSs (t : List SV) (H : List Seg) : List MRes → Option (List SV)
  | [] => some []
  | r :: rs => match resS1 t H r, resSs t H rs with
    | some v, some vs => some (v :: vs)
    | _, _ => none
def resS (t : List SV) (H : List Seg) (rs : List MRes) : Option SV :=
  match resSs t H rs with
  | some [v] => some v
  | some vs => some (.tup vs)
  | none => none

theorem resS1_spec {t : List SV} {H : List Seg} {t' : Tmps} {h : Heap} (hv : Val t H t' h) {r : MRes} {v : SV} (hr : resS1 t H r = some v) : resOf h t' r = some (conc (addr H) v) := by
  cases r with
  | tmp i =>
    simp only [resS1] at hr
    split at hr
    · cases hr
    · rename_i hb
      cases hr
      have := hv.ev (.tmp i)
      simp only [MO.ev, MO.eval] at this
      obtain ⟨_, e⟩ := this.ok (fun h => hb h)
      simp only [resOf, e]
  | cell agg i =>
    simp only [resS1] at hr
    split at hr
    · rename_i s o hs
      have := hv.ev (.tmp i)
      simp only [MO.ev, MO.eval, hs] at this
      obtain ⟨_, e⟩ := this.ok (by simp)
      simp only [conc] at e
      split at hr
      · rename_i c es hc
        obtain ⟨h1, h2⟩ := con_at hv hc
        obtain ⟨p1, p2⟩ := partS_spec hr (addr H) _ h2
        simp only [resOf, e, rdVar_part h1, p1]
      · cases hr
    · cases hr

theorem resSs_spec {t : List SV} {H : List Seg} {t' : Tmps} {h : Heap} (hv : Val t H t' h) : ∀ {rs : List MRes} {vs : List SV}, resSs t H rs = some vs → resAll h t' rs = some (concs (addr H) vs)
  | [], vs, hr => by simp only [resSs, Option.some.injEq] at hr; subst hr; simp [resAll, concs]
  | r :: rs, vs, hr => by
    simp only [resSs] at hr
    split at hr
    · rename_i v ws h1 h2
      cases hr
      simp only [resAll, resS1_spec hv h1, resSs_spec hv h2, concs]
    · cases hr

theorem resS_spec {t : List SV} {H : List Seg} {t' : Tmps} {h : Heap} (hv : Val t H t' h) {rs : List MRes} {v : SV} (hr : resS t H rs = some v) : Abs.results h t' rs = some (conc (addr H) v) := by
  unfold resS at hr
  unfold Abs.results
  split at hr
  · rename_i v' h1
    cases hr
    rw [resSs_spec hv h1]
    simp [concs]
  · rename_i vs hne h1
    cases hr
    rw [resSs_spec hv h1]
    cases vs with
    | nil => simp [concs, conc]
    | cons a l =>
      cases l with
      | nil => exact absurd rfl (hne a)
      | cons b l => simp [concs, conc]
  · cases hr

/-- What is left to be shown of a call: the first segment is what it keeps. -/
def wpF (M : Model) (F : MFunc) (hi : Hint) (args : List SV) (H : List Seg) (P : AV → Heap → Prop) : Prop :=
  wpC M 1 [] F.body hi (args ++ List.replicate (F.ntmps - args.length) .bad) H fun x t1 H1 _ => match x with
    | .exit _ => False
    | _ => match resS t1 H1 F.results with
      | some v => P (conc (addr H1) v) (flat (addr H1) (H1.drop 1))
      | none => False

theorem callP_of_wp {M : Model} {f : Nat} {F : MFunc} {hi : Hint} {args : List SV} {p : Heap} {R : List Seg} {P : AV → Heap → Prop} (hF : M.fn f = some F) (hargs : oks (R.length + 1) args) (hR : ∀ s ∈ R, s.ok (R.length + 1))
    (hw : wpF M F hi args (.sym p :: R) P) : CallP M f (concs (addr (.sym p :: R)) args) p (flat (addr (.sym p :: R)) R) P := by
  intro Q hQ
  have hlen : (concs (addr (.sym p :: R)) args).length = args.length := concs_length _ _
  refine .call hF ?_
  rw [hlen]
  have hv : Val (args ++ List.replicate (F.ntmps - args.length) .bad) (.sym p :: R) (concs (addr (.sym p :: R)) args ++ List.replicate (F.ntmps - args.length) .undef) (p ++ flat (addr (.sym p :: R)) R) := by
    refine ⟨⟨by rw [flat_cons]; rfl, ?_⟩, by simp [hlen], ?_⟩
    · intro s hs
      rcases List.mem_cons.1 hs with rfl | hs
      · simp only [Seg.ok]
      · exact hR s hs
    · intro i v hi
      rcases Nat.lt_or_ge i args.length with hlt | hge
      · rw [List.getElem?_append_left hlt] at hi
        rw [oks_iff] at hargs
        refine .inr ⟨hargs v (List.mem_of_getElem? hi), ?_⟩
        rw [List.getD_eq_getElem?_getD, List.getElem?_append_left (by rw [hlen]; exact hlt), concs_map, List.getElem?_map, hi]
        rfl
      · rw [List.getElem?_append_right hge, List.getElem?_replicate] at hi
        split at hi
        · cases hi; exact .inl rfl
        · cases hi
  refine wpC_sound F.body hv (by simp) hw fun x t1 H1 r1 t1' h1 a1 a5 a2 a3 a4 => ?_
  have fin : (x = .normal ∨ x = .ret) → (match resS t1 H1 F.results with
      | some v => P (conc (addr H1) v) (flat (addr H1) (H1.drop 1))
      | none => False) → (x = .normal ∨ x = .ret) ∧ ∃ v, Abs.results h1 t1' F.results = some v ∧ Q v h1 := by
    intro hx a4
    refine ⟨hx, ?_⟩
    split at a4
    · rename_i v hv'
      refine ⟨_, resS_spec a1 hv', ?_⟩
      have e : h1 = p ++ flat (addr H1) (H1.drop 1) := by
        have e1 : h1.take p.length = p := by
          refine List.ext_getElem? fun k => ?_
          rcases Nat.lt_or_ge k p.length with hkl | hkl
          · rw [List.getElem?_take_of_lt hkl]
            have := a2.2.2 0 (by omega) (by simp) k (by simp [addr]) (by simpa [addr, Seg.len, addr_zero] using hkl)
            rw [this, List.getElem?_append_left hkl]
          · rw [List.getElem?_eq_none (by simp; omega), List.getElem?_eq_none hkl]
        have e2 : h1.drop p.length = flat (addr H1) (H1.drop 1) := by
          have := drop_flat (addr H1) (H := H1) (z := 1) a2.1
          rw [a2.2.1 1 (Nat.le_refl _), ← a1.heap.1] at this
          simp only [addr, Seg.len, addr_zero, Nat.add_zero] at this
          exact this
        rw [← e2]
        conv => lhs; rw [← List.take_append_drop p.length h1, e1]
      rw [e]
      exact hQ _ _ a4
    · exact a4.elim
  cases x with
  | normal => exact fin (.inl rfl) a4
  | ret => exact fin (.inr rfl) a4
  | exit => exact a4.elim

theorem callE_of_wp {M : Model} {f : Nat} {F : MFunc} {hi : Hint} {args : List SV} {h : Heap} {P : AV → Heap → Prop} (hF : M.fn f = some F) (hargs : oks 1 args)
    (hw : wpF M F hi args [.sym h] P) : CallE M f (concs (addr [.sym h]) args) h P := by
  intro Q hQ
  have := callP_of_wp (R := []) hF (by simpa using hargs) (by simp) hw Q hQ
  simp only [flat, List.append_nil] at this
  exact this

theorem CallE.mono {M : Model} {f : Nat} {args : List AV} {h : Heap} {P P' : AV → Heap → Prop} (hc : CallE M f args h P) (hp : ∀ v tail, P v tail → P' v tail) : CallE M f args h P' := fun Q hQ => hc Q fun v tail h => hQ v tail (hp v tail h)
theorem CallP.mono {M : Model} {f : Nat} {args : List AV} {p r : Heap} {P P' : AV → Heap → Prop} (hc : CallP M f args p r P) (hp : ∀ v rest, P v rest → P' v rest) : CallP M f args p r P' := fun Q hQ => hc Q fun v rest h => hQ v rest (hp v rest h)
theorem CallE.of_does {M : Model} {f : Nat} {args : List AV} {h tail : Heap} {v : AV} {P : AV → Heap → Prop} (hd : Does M f args h v (h ++ tail)) (hp : P v tail) : CallE M f args h P := fun Q hQ => hd Q (hQ v tail hp)
end Go.Abs
