/- What is left to be shown of an operation on a symbolic state is enough. -/
import Derived.Test.YthedodaghjpdoaaAbsR
set_option linter.unusedVariables false
set_option linter.unusedSimpArgs false
namespace Go.Abs

theorem addr_mono : ∀ (H : List Seg) {a b : Nat}, a ≤ b → addr H a ≤ addr H b
  | [], _, _, _ => by simp [addr]
  | _ :: _, 0, _, _ => by simp [addr]
  | _ :: _, _ + 1, 0, h => by omega
  | x :: H, a + 1, b + 1, h => by
    simp only [addr]
    have := addr_mono H (a := a) (b := b) (by omega)
    omega

theorem take_flat (A : Nat → Nat) {H : List Seg} {z : Nat} (hz : z ≤ H.length) : (flat A H).take (addr H z) = flat A (H.take z) := by
  have e : flat A H = flat A (H.take z) ++ flat A (H.drop z) := by rw [← flat_append, List.take_append_drop]
  have hl : (flat A (H.take z)).length = addr H z := by
    rw [flat_length]
    have : (H.take z).length = z := by simp; omega
    rw [this, addr_take (Nat.le_refl z) hz]
  rw [e, ← hl, List.take_left]

theorem drop_flat (A : Nat → Nat) {H : List Seg} {z : Nat} (hz : z ≤ H.length) : (flat A H).drop (addr H z) = flat A (H.drop z) := by
  have e : flat A H = flat A (H.take z) ++ flat A (H.drop z) := by rw [← flat_append, List.take_append_drop]
  have hl : (flat A (H.take z)).length = addr H z := by
    rw [flat_length]
    have : (H.take z).length = z := by simp; omega
    rw [this, addr_take (Nat.le_refl z) hz]
  rw [e, ← hl, List.drop_left]

theorem concs_av (A : Nat → Nat) (l : List AV) : concs A (l.map .av) = l := by
  rw [concs_map, List.map_map]
  have : (conc A ∘ SV.av) = id := by funext v; simp [conc]
  rw [this, List.map_id]
theorem oks_av (n : Nat) (l : List AV) : oks n (l.map .av) := by
  rw [oks_iff]
  intro v hv
  obtain ⟨a, _, rfl⟩ := List.mem_map.1 hv
  simp [SV.ok]

theorem seg_at {H : List Seg} {h : Heap} (hh : HV H h) {s : Nat} {x : Seg} (hs : H[s]? = some x) (hx : x.len = 1) : h[addr H s]? = (x.heap (addr H))[0]? := by
  have := flat_get (A := addr H) hs (k := 0) (by omega)
  rw [Nat.add_zero] at this
  rw [hh.1]
  exact this

variable {t : List SV} {H : List Seg} {t' : Tmps} {h : Heap} {z : Nat} {W : List Nat}

theorem Val.push (hv : Val t H t' h) (hz : z ≤ H.length) {x : Seg} (hx : x.ok H.length) :
    Val t (H ++ [x]) t' (h ++ x.heap (addr H)) ∧ KeepH z W H h (H ++ [x]) (h ++ x.heap (addr H)) ∧ addr (H ++ [x]) H.length = h.length := by
  have ha : ∀ s, s ≤ H.length → addr (H ++ [x]) s = addr H s := fun s hs => addr_append H [x] s hs
  have hh : HV (H ++ [x]) (h ++ x.heap (addr H)) := by
    refine ⟨?_, ?_⟩
    · rw [flat_append, flat_congr (n := H.length) (fun s hs => ha s (by omega)) H hv.heap.2, ← hv.heap.1]
      congr 1
      have := flat_congr (A := addr H) (A' := addr (H ++ [x])) (n := H.length) (fun s hs => ha s (by omega)) [x] (by simpa using hx)
      rw [this]
      simp [flat]
    · intro s hs
      have hl : (H ++ [x]).length = H.length + 1 := by simp
      rw [hl]
      have hs' : s.ok H.length := by
        rcases List.mem_append.1 hs with h1 | h1
        · exact hv.heap.2 s h1
        · simp at h1; subst h1; exact hx
      cases s <;> simp only [Seg.ok] at hs' ⊢
      exact oks_mono (by omega) _ hs'
  have hlen : h.length = addr H H.length := by rw [hv.heap.1, flat_length]
  refine ⟨hv.mono (by simp) (fun s hs => ha s (by omega)) hh, ⟨by simp; omega, fun s hs => ha s (by omega), ?_⟩, ?_⟩
  · intro s hs hw k h1 h2
    have := addr_mono H (a := s + 1) (b := H.length) (by omega)
    rw [List.getElem?_append_left (by omega)]
  · rw [ha _ (Nat.le_refl _), hlen]

theorem addr_succ : ∀ {H : List Seg} {s : Nat} {x : Seg}, H[s]? = some x → addr H (s + 1) = addr H s + x.len
  | [], s, x, h => by simp at h
  | y :: r, 0, x, h => by simp at h; subst h; simp [addr, addr_zero]
  | y :: r, s + 1, x, h => by
    simp only [addr]
    have := addr_succ (H := r) (s := s) (x := x) (by simpa using h)
    simp only [this]
    omega

theorem set_lens {s : Nat} {x y : Seg} (hs : H[s]? = some x) (hl : y.len = x.len) : (H.set s y).map Seg.len = H.map Seg.len := by
  refine List.ext_getElem? fun i => ?_
  simp only [List.getElem?_map, List.getElem?_set]
  by_cases hi : s = i
  · subst hi
    have hlt := (List.getElem?_eq_some_iff.1 hs).1
    rw [if_pos rfl, if_pos hlt, hs]
    simp [hl]
  · simp [hi]

theorem Val.setSeg (hv : Val t H t' h) (hz0 : z ≤ H.length) {s : Nat} (hz : z ≤ s ∨ s ∈ W) {x y : Seg} (hs : H[s]? = some x) (hl : y.len = x.len) (hy : y.ok H.length) :
    Val t (H.set s y) t' (flat (addr H) (H.set s y)) ∧ KeepH z W H h (H.set s y) (flat (addr H) (H.set s y)) ∧ addr (H.set s y) = addr H ∧ (H.set s y).length = H.length := by
  have hlt := (List.getElem?_eq_some_iff.1 hs).1
  have ha : addr (H.set s y) = addr H := by funext i; exact addr_lens (set_lens hs hl)
  have hh : HV (H.set s y) (flat (addr H) (H.set s y)) := by
    refine ⟨by rw [ha], fun u hu => ?_⟩
    rw [List.length_set]
    rcases List.mem_or_eq_of_mem_set hu with h1 | h1
    · exact hv.heap.2 u h1
    · subst h1; exact hy
  refine ⟨hv.mono (by simp) (fun i _ => by rw [ha]) hh, ⟨by simp; omega, fun i _ => by rw [ha], ?_⟩, ha, by simp⟩
  intro u hu hw k h1 h2
  have hne : s ≠ u := by
    rintro rfl
    rcases hz with hz | hz
    · omega
    · exact hw hz
  have hul : u < H.length := by omega
  have e1 : H[u]? = some H[u] := List.getElem?_eq_getElem hul
  have e2 : (H.set s y)[u]? = some H[u] := by rw [List.getElem?_set_ne hne, e1]
  rw [addr_succ e1] at h2
  obtain ⟨i, rfl⟩ : ∃ i, k = addr H u + i := ⟨k - addr H u, by omega⟩
  have g1 := flat_get (A := addr H) e1 (k := i) (by omega)
  have g2 := flat_get (A := addr H) e2 (k := i) (by omega)
  rw [ha] at g2
  rw [g2, hv.heap.1, g1]

theorem cells_spec {v : SV} {cs : List SV} {n : Nat} {A : Nat → Nat} (h : v.cells = some cs) (hv : v.ok n) : (conc A v).cells = some (concs A cs) ∧ oks n cs := by
  cases v with
  | av v =>
    cases v <;> simp only [SV.cells, Option.some.injEq, reduceCtorEq] at h <;> subst h <;> (try simp [conc, concs, AV.cells, oks, SV.ok, concs_av])
    exact oks_av n _
  | slc s =>
    simp only [SV.cells, Option.some.injEq] at h
    subst h
    cases hs : s.nil <;> simp [conc, concs, Slc.av, hs, AV.cells, oks, SV.ok]
  | pto nil b o =>
    simp only [SV.cells, Option.some.injEq] at h
    subst h
    cases nil <;> simp [conc, concs, AV.cells, oks, SV.ok]
  | err nil b o =>
    simp only [SV.cells, Option.some.injEq] at h
    subst h
    cases nil <;> simp [conc, concs, AV.cells, oks, SV.ok]
  | agg l =>
    simp only [SV.cells, Option.some.injEq] at h
    subst h
    simp only [SV.ok] at hv
    exact ⟨by simp [conc, AV.cells], hv⟩
  | tup l => simp [SV.cells] at h
  | ob l => simp [SV.cells] at h
  | hp l => simp [SV.cells] at h
  | bad => simp [SV.cells] at h
  | _ =>
    simp only [SV.cells, Option.some.injEq] at h
    subst h
    refine ⟨by simp [conc, concs, AV.cells], ?_⟩
    simp only [oks, and_true]
    exact hv

theorem concs_setCells (A : Nat → Nat) : ∀ (cs c : List SV) (o : Nat), concs A (setCells c o cs) = setCells (concs A c) o (concs A cs)
  | [], c, o => by simp [setCells, concs]
  | x :: cs, c, o => by
    simp only [setCells, concs]
    rw [concs_setCells A cs]
    congr 1
    simp [concs_map, List.map_set]

theorem oks_setCells {n : Nat} {cs c : List SV} {o : Nat} (h1 : oks n c) (h2 : oks n cs) : oks n (setCells c o cs) := by
  rw [oks_iff] at *
  exact setCells_mem (p := SV.ok n) cs c o h1 h2

theorem fill_spec {A : Nat → Nat} {n : Nat} {ps : List (Nat × Nat × MO)} (hv : Val t H t' h) : ∀ {z0 l : List SV}, fillS z0 (ps.map fun p => (p.1, p.2.1, p.2.2.ev t)) = some l → oks H.length z0 →
    fill (concs (addr H) z0) (ps.map fun p => (p.1, p.2.1, p.2.2.eval t')) = some (concs (addr H) l) ∧ oks H.length l := by
  induction ps with
  | nil =>
    intro z0 l h0 hz
    simp only [List.map_nil, fillS, Option.some.injEq] at h0
    subst h0
    exact ⟨by simp [fill], hz⟩
  | cons p ps ih =>
    intro z0 l h0 hz
    obtain ⟨off, sz, x⟩ := p
    simp only [List.map_cons, fillS] at h0
    split at h0
    · rename_i cs hcs
      split at h0
      · rename_i hc
        have hb : x.ev t ≠ .bad := by
          intro hb
          rw [hb] at hcs
          simp [SV.cells] at hcs
        obtain ⟨ok, e⟩ := (hv.ev x).ok hb
        obtain ⟨c1, c2⟩ := cells_spec (A := addr H) hcs ok
        obtain ⟨i1, i2⟩ := ih h0 (oks_setCells hz c2)
        refine ⟨?_, i2⟩
        simp only [List.map_cons, fill]
        rw [e, c1]
        simp only [concs_length]
        rw [if_pos hc, ← concs_setCells]
        exact i1
      · cases h0
    · cases h0

theorem partS_spec {agg : Option Nat} {l : List SV} {off : Nat} {v : SV} (h : partS agg l off = some v) (A : Nat → Nat) (n : Nat) (hl : oks n l) : partOf agg (concs A l) off = some (conc A v) ∧ v.ok n := by
  rw [oks_iff] at hl
  unfold partS at h
  unfold partOf
  split at h
  · refine ⟨by simp [concs_map, h], hl v ?_⟩
    exact List.mem_of_getElem? h
  · split at h
    · rename_i hc
      cases h
      simp only [concs_length, if_pos hc, conc, SV.ok]
      refine ⟨by simp [concs_map, List.map_drop, List.map_take], ?_⟩
      rw [oks_iff]
      exact fun v hv => hl v (List.mem_of_mem_drop (List.mem_of_mem_take hv))
    · cases h

theorem rdVar_part {h : Heap} {b o es : Nat} {c : List AV} {ro : Bool} (hb : h[b]? = some (.arr c es ro)) (agg : Option Nat) : rdVar h agg b o = partOf agg c o := by
  unfold rdVar partOf rdCells
  rw [hb]
  cases agg with
  | none =>
    simp only
    split
    · rename_i hc
      have : o < c.length := by omega
      simp [List.head?_take, List.head?_drop]
    · rename_i hc
      simp [List.getElem?_eq_none (by omega : c.length ≤ o)]
  | some n =>
    simp only
    split <;> simp

theorem rdVar_take {A : Nat → Nat} {q : Nat} {agg : Option Nat} {b o : Nat} {v : AV} (hr : rdVar (flat A (H.take q)) agg b o = some v) : rdVar (flat A H) agg b o = some v := by
  have e : flat A H = flat A (H.take q) ++ flat A (H.drop q) := by rw [← flat_append, List.take_append_drop]
  rw [e]
  exact Ext.rdVar ⟨_, rfl⟩ hr

theorem get_take {A : Nat → Nat} {q b : Nat} {o : AObj} (hr : (flat A (H.take q))[b]? = some o) : (flat A H)[b]? = some o := by
  have e : flat A H = flat A (H.take q) ++ flat A (H.drop q) := by rw [← flat_append, List.take_append_drop]
  rw [e]
  exact Ext.get ⟨_, rfl⟩ hr

theorem evs_spec (hv : Val t H t' h) : ∀ {args : List MO} {as : List SV}, evs t args = some as → args.map (·.eval t') = concs (addr H) as ∧ oks H.length as
  | [], as, h0 => by simp only [evs, Option.some.injEq] at h0; subst h0; simp [concs, oks]
  | x :: l, as, h0 => by
    simp only [evs] at h0
    split at h0
    · cases h0
    · rename_i v vs hx hvs hb
      cases h0
      obtain ⟨i1, i2⟩ := evs_spec hv hvs
      obtain ⟨ok, e⟩ := (hv.ev x).ok (by intro hb'; exact hb hb')
      exact ⟨by simp only [List.map_cons, concs, i1, e], by simp only [oks]; exact ⟨ok, i2⟩⟩
    · cases h0

theorem eqS_spec {k : EqK} {x y : SV} {r : Bool} (h0 : eqS k x y = some r) (A : Nat → Nat) : valEq k (conc A x) (conc A y) = some r := by
  unfold eqS at h0
  split at h0
  all_goals first
    | (simp only [conc]; exact h0)
    | (cases h0; simp [conc, valEq]; done)
    | (cases h0; cases r <;> simp [conc, valEq]; done)
    | (cases h0; rename_i s; cases hs : s.nil <;> simp [conc, Slc.av, hs, valEq]; done)
    | (cases h0; done)

theorem ret_ok {o : MOp} {v : SV} (hv : v.ok H.length) (he : evalOp t' h o = some (conc (addr H) v, h)) : ∃ a, evalOp t' h o = some (a, h) ∧ VV H v a := ⟨_, he, .inr ⟨hv, rfl⟩⟩

theorem pureS_sound (hv : Val t H t' h) {o : MOp} {v : SV} (hp : pureS (addr H) t o = some v) : ∃ a, evalOp t' h o = some (a, h) ∧ VV H v a := by
  have hx : ∀ (x : MO) {u : SV}, x.ev t = u → u ≠ .bad → u.ok H.length ∧ x.eval t' = conc (addr H) u := fun x u e hb => by subst e; exact (hv.ev x).ok hb
  cases o with
  | mov x =>
    simp only [pureS, Option.some.injEq] at hp
    subst hp
    exact ⟨_, rfl, hv.ev x⟩
  | pick c a b =>
    simp only [pureS] at hp
    split at hp
    · rename_i e
      cases hp
      obtain ⟨_, e⟩ := hx c e (by simp)
      simp only [conc] at e
      exact ⟨_, by simp [evalOp, e], hv.ev a⟩
    · rename_i e
      cases hp
      obtain ⟨_, e⟩ := hx c e (by simp)
      simp only [conc] at e
      exact ⟨_, by simp [evalOp, e], hv.ev b⟩
    · cases hp
  | build z0 ps =>
    simp only [pureS, Option.map_eq_some_iff] at hp
    obtain ⟨l, hl, rfl⟩ := hp
    obtain ⟨f1, f2⟩ := fill_spec (A := addr H) (n := H.length) hv hl (oks_av _ _)
    rw [concs_av] at f1
    exact ret_ok (by simp only [SV.ok]; exact f2) (by simp only [evalOp, f1, Option.map_some, conc])
  | nilCheck x =>
    simp only [pureS] at hp
    split at hp
    all_goals first
      | (cases hp; done)
      | (rename_i e; cases hp; obtain ⟨k1, e⟩ := hx x e (by simp); simp only [conc] at e; exact ret_ok (k1) (by simp only [evalOp, e, conc]))
  | bin op x y =>
    simp only [pureS] at hp
    split at hp
    · rename_i a b e1 e2
      simp only [Option.map_eq_some_iff] at hp
      obtain ⟨r, hr, rfl⟩ := hp
      obtain ⟨_, e1⟩ := hx x e1 (by simp)
      obtain ⟨_, e2⟩ := hx y e2 (by simp)
      simp only [conc] at e1 e2
      exact ret_ok (by simp only [SV.ok]) (by simp only [evalOp, e1, e2, hr, Option.map_some, conc])
    · cases hp
  | eqv k neg x y =>
    simp only [pureS, Option.map_eq_some_iff] at hp
    obtain ⟨r, hr, rfl⟩ := hp
    have hxb : x.ev t ≠ .bad := by intro e; rw [e] at hr; cases k <;> simp [eqS] at hr
    have hyb : y.ev t ≠ .bad := by
      intro e
      rw [e] at hr
      cases k <;> cases hxe : x.ev t <;> rw [hxe] at hr <;> simp [eqS] at hr
    obtain ⟨_, e1⟩ := hx x rfl hxb
    obtain ⟨_, e2⟩ := hx y rfl hyb
    exact ret_ok (by simp only [SV.ok]) (by simp only [evalOp, e1, e2, eqS_spec hr (addr H), Option.map_some, conc])
  | eqAgg ks neg x y =>
    simp only [pureS] at hp
    split at hp
    · rename_i a b e1 e2
      simp only [Option.map_eq_some_iff] at hp
      obtain ⟨r, hr, rfl⟩ := hp
      obtain ⟨_, e1⟩ := hx x e1 (by simp)
      obtain ⟨_, e2⟩ := hx y e2 (by simp)
      simp only [conc] at e1 e2
      exact ret_ok (by simp only [SV.ok]) (by simp only [evalOp, e1, e2, hr, Option.map_some, conc])
    · cases hp
  | isNil neg x =>
    simp only [pureS] at hp
    split at hp
    · rename_i e
      cases hp
      obtain ⟨_, e⟩ := hx x e (by simp)
      simp only [conc] at e
      exact ret_ok (by simp only [SV.ok]) (by simp only [evalOp, e, conc])
    · rename_i e
      cases hp
      obtain ⟨_, e⟩ := hx x e (by simp)
      simp only [conc] at e
      exact ret_ok (by simp only [SV.ok]) (by simp only [evalOp, e, conc])
    · rename_i e
      cases hp
      obtain ⟨_, e⟩ := hx x e (by simp)
      simp only [conc] at e
      exact ret_ok (by simp only [SV.ok]) (by simp only [evalOp, e, conc])
    · rename_i n ty v0 e
      cases hp
      obtain ⟨_, e⟩ := hx x e (by simp)
      simp only [conc] at e
      cases n <;> simp only [cond_true, cond_false] at e <;> exact ret_ok (by simp only [SV.ok]) (by simp [evalOp, e, conc])
    · cases hp
  | un op x =>
    simp only [pureS] at hp
    split at hp
    · rename_i a e1
      simp only [Option.map_eq_some_iff] at hp
      obtain ⟨r, hr, rfl⟩ := hp
      obtain ⟨_, e1⟩ := hx x e1 (by simp)
      simp only [conc] at e1
      exact ret_ok (by simp only [SV.ok]) (by simp only [evalOp, e1, hr, Option.map_some, conc])
    · cases hp
  | convInt k x =>
    simp only [pureS] at hp
    split at hp
    · rename_i e
      cases hp
      obtain ⟨_, e⟩ := hx x e (by simp)
      simp only [conc] at e
      exact ret_ok (by simp only [SV.ok]) (by simp only [evalOp, e, conc])
    · cases hp
  | convStr x =>
    simp only [pureS] at hp
    split at hp
    · rename_i e
      cases hp
      obtain ⟨_, e⟩ := hx x e (by simp)
      simp only [conc] at e
      exact ret_ok (by simp only [SV.ok]) (by simp only [evalOp, e, conc])
    · cases hp
  | mkIface ty x =>
    simp only [pureS] at hp
    split at hp
    · cases hp
    · rename_i hb
      cases hp
      obtain ⟨k1, e⟩ := hx x rfl (fun e => hb e)
      exact ret_ok (by simp only [SV.ok]; exact k1) (by simp only [evalOp, e, conc])
  | mkFn f cap =>
    simp only [pureS, Option.map_eq_some_iff] at hp
    obtain ⟨l, hl, rfl⟩ := hp
    obtain ⟨e1, e2⟩ := evs_spec hv hl
    exact ret_ok (by simp only [SV.ok]; exact e2) (by simp only [evalOp, e1, conc])
  | fieldAddr off x =>
    simp only [pureS] at hp
    split at hp
    all_goals first
      | (cases hp; done)
      | (rename_i e; cases hp; obtain ⟨k1, e⟩ := hx x e (by simp); simp only [conc] at e; exact ret_ok (by simp only [SV.ok] at k1 ⊢; first | done | exact k1) (by simp only [evalOp, e, conc]))
  | field off agg x =>
    simp only [pureS] at hp
    split at hp
    · rename_i l e
      obtain ⟨k1, e⟩ := hx x e (by simp)
      simp only [conc] at e
      simp only [SV.ok] at k1
      obtain ⟨p1, p2⟩ := partS_spec hp (addr H) H.length k1
      exact ⟨_, by simp only [evalOp, e, p1, Option.map_some], .inr ⟨p2, rfl⟩⟩
    · rename_i l e
      simp only [Option.map_eq_some_iff] at hp
      obtain ⟨r, hr, rfl⟩ := hp
      obtain ⟨_, e⟩ := hx x e (by simp)
      simp only [conc] at e
      exact ret_ok (by simp only [SV.ok]) (by simp only [evalOp, e, hr, Option.map_some, conc])
    · cases hp
  | lenStr x =>
    simp only [pureS] at hp
    split at hp
    · rename_i e
      cases hp
      obtain ⟨_, e⟩ := hx x e (by simp)
      simp only [conc] at e
      exact ret_ok (by simp only [SV.ok]) (by simp only [evalOp, e, conc])
    · cases hp
  | lenSlc x =>
    simp only [pureS] at hp
    split at hp
    · rename_i s e
      cases hp
      obtain ⟨_, e⟩ := hx x e (by simp)
      simp only [conc] at e
      refine ⟨.int .i64 s.len, ?_, .inr ⟨by simp only [SV.ok], by simp only [conc]⟩⟩
      cases hs : s.nil <;> simp [evalOp, e, Slc.av, Slc.len, hs]
    all_goals first
      | (cases hp; done)
      | (rename_i e; cases hp; obtain ⟨k1, e⟩ := hx x e (by simp); simp only [conc] at e; exact ret_ok (by simp only [SV.ok]) (by simp only [evalOp, e, conc]))
  | lenConst n =>
    simp only [pureS, Option.some.injEq] at hp
    subst hp
    exact ⟨_, rfl, .inr ⟨by simp only [SV.ok], by simp only [conc]⟩⟩
  | mini x y =>
    simp only [pureS] at hp
    split at hp
    · rename_i a b e1 e2
      cases hp
      obtain ⟨_, e1⟩ := hx x e1 (by simp)
      obtain ⟨_, e2⟩ := hx y e2 (by simp)
      simp only [conc] at e1 e2
      exact ret_ok (by simp only [SV.ok]) (by simp only [evalOp, e1, e2, conc])
    · cases hp
  | maxi x y =>
    simp only [pureS] at hp
    split at hp
    · rename_i a b e1 e2
      cases hp
      obtain ⟨_, e1⟩ := hx x e1 (by simp)
      obtain ⟨_, e2⟩ := hx y e2 (by simp)
      simp only [conc] at e1 e2
      exact ret_ok (by simp only [SV.ok]) (by simp only [evalOp, e1, e2, conc])
    · cases hp
  | extract i x =>
    simp only [pureS] at hp
    split at hp
    · rename_i l e
      obtain ⟨k1, e⟩ := hx x e (by simp)
      simp only [conc] at e
      simp only [SV.ok, oks_iff] at k1
      refine ⟨_, by simp only [evalOp, e, concs_map, List.getElem?_map, hp, Option.map_some], .inr ⟨k1 v (List.mem_of_getElem? hp), rfl⟩⟩
    · rename_i l e
      simp only [Option.map_eq_some_iff] at hp
      obtain ⟨r, hr, rfl⟩ := hp
      obtain ⟨_, e⟩ := hx x e (by simp)
      simp only [conc] at e
      exact ret_ok (by simp only [SV.ok]) (by simp only [evalOp, e, hr, Option.map_some, conc])
    · cases hp
  | _ => simp [pureS] at hp
end Go.Abs
