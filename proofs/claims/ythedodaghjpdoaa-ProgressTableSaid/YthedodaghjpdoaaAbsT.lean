/- What is left to be shown of an operation on a symbolic state is enough: the operations that touch the heap. -/
import Derived.Test.YthedodaghjpdoaaAbsS
set_option linter.unusedVariables false
set_option linter.unusedSimpArgs false
namespace Go.Abs

section
variable {M : Model} {t : List SV} {H : List Seg} {t' : Tmps} {h : Heap} {z : Nat} {W : List Nat} {hi : OH} {K : SV → List SV → List Seg → Prop} {Q : AV → Heap → Prop}

/-- What is asked of the post. -/
def Posts (z : Nat) (W : List Nat) (H : List Seg) (h : Heap) (t' : Tmps) (K : SV → List SV → List Seg → Prop) (Q : AV → Heap → Prop) : Prop :=
  ∀ v t1 H1 a h1, Val t1 H1 t' h1 → VV H1 v a → KeepH z W H h H1 h1 → K v t1 H1 → Q a h1

theorem ev_ok (hv : Val t H t' h) (x : MO) {u : SV} (e : x.ev t = u) (hb : u ≠ .bad) : u.ok H.length ∧ x.eval t' = conc (addr H) u := by
  subst e
  exact (hv.ev x).ok hb

theorem fin_stay (hv : Val t H t' h) (hz : z ≤ H.length) (hK : Posts z W H h t' K Q) {o : MOp} {a : AV} {v : SV} (he : evalOp t' h o = some (a, h)) (hvv : VV H v a) (hk : K v t H) : Runs M (.op o t' Q) h :=
  .op he (hK _ _ _ _ _ hv hvv (KeepH.refl hz) hk)

theorem fin_ok (hv : Val t H t' h) (hz : z ≤ H.length) (hK : Posts z W H h t' K Q) {o : MOp} {v : SV} (ok : v.ok H.length) (he : evalOp t' h o = some (conc (addr H) v, h)) (hk : K v t H) : Runs M (.op o t' Q) h :=
  fin_stay hv hz hK he (.inr ⟨ok, rfl⟩) hk

theorem fin_push (hv : Val t H t' h) (hz : z ≤ H.length) (hK : Posts z W H h t' K Q) {o : MOp} {a : AV} {v : SV} {x : Seg} (hx : x.ok H.length) (he : evalOp t' h o = some (a, h ++ x.heap (addr H)))
    (hvv : addr (H ++ [x]) H.length = h.length → VV (H ++ [x]) v a) (hk : K v t (H ++ [x])) : Runs M (.op o t' Q) h := by
  obtain ⟨h1, h2, h3⟩ := hv.push hz hx
  exact .op he (hK _ _ _ _ _ h1 (hvv h3) h2 hk)

theorem fin_set (hv : Val t H t' h) (hz0 : z ≤ H.length) (hK : Posts z W H h t' K Q) {o : MOp} {a : AV} {v : SV} {s : Nat} {x y : Seg} (hz : z ≤ s ∨ s ∈ W) (hs : H[s]? = some x) (hl : y.len = x.len) (hy : y.ok H.length)
    (he : evalOp t' h o = some (a, flat (addr H) (H.set s y))) (hvv : VV H v a) (hk : K v t (H.set s y)) : Runs M (.op o t' Q) h := by
  obtain ⟨h1, h2, h3, h4⟩ := hv.setSeg hz0 hz hs hl hy
  exact .op he (hK _ _ _ _ _ h1 (hvv.mono (by omega) (fun i _ => by rw [h3])) h2 hk)

theorem av_ok {H : List Seg} (v : AV) : VV H (.av v) v := .inr ⟨by simp only [SV.ok], by simp only [conc]⟩

theorem fin_ex (hv : Val t H t' h) (hz : z ≤ H.length) (hK : Posts z W H h t' K Q) {o : MOp} {s : Sh} {p : SV → Prop} (hw : s.ex fun v => p v ∧ K v t H) (he : ∀ v, p v → evalOp t' h o = some (conc (addr H) v, h)) : Runs M (.op o t' Q) h := by
  obtain ⟨v, ⟨hp, hk⟩, ok⟩ := ex_spec s hw
  exact fin_stay hv hz hK (he v hp) (.inr ⟨ok _, rfl⟩) hk

theorem op_alloc (hv : Val t H t' h) (hz : z ≤ H.length) (hK : Posts z W H h t' K Q) {zs : List AV} {es : Nat} (hw : wpOp M z W hi (.alloc zs es) t H K) : Runs M (.op (.alloc zs es) t' Q) h := by
  simp only [wpOp] at hw
  refine fin_push hv hz hK (x := .con (zs.map .av) es) (by simp only [Seg.ok]; exact oks_av _ _) (a := .ptr h.length 0) (by simp only [evalOp, Seg.heap, concs_av]) (fun e => .inr ⟨by simp [SV.ok], by simp [conc, e]⟩) hw

theorem op_box (hv : Val t H t' h) (hz : z ≤ H.length) (hK : Posts z W H h t' K Q) {n : Nat} {x : MO} (hw : wpOp M z W hi (.box n x) t H K) : Runs M (.op (.box n x) t' Q) h := by
  simp only [wpOp] at hw
  split at hw
  · rename_i cs hcs
    split at hw
    · rename_i hn
      obtain ⟨ok, e⟩ := ev_ok hv x rfl (by intro hb; rw [hb] at hcs; simp [SV.cells] at hcs)
      obtain ⟨c1, c2⟩ := cells_spec (A := addr H) hcs ok
      refine fin_push hv hz hK (x := .con cs n) (by simp only [Seg.ok]; exact c2) (a := .ptr h.length 0) (by simp only [evalOp, e, c1, concs_length, if_pos hn, Seg.heap]) (fun e => .inr ⟨by simp [SV.ok], by simp [conc, e]⟩) hw
    · exact hw.elim
  · exact hw.elim

theorem op_buildSlice (hv : Val t H t' h) (hz : z ≤ H.length) (hK : Posts z W H h t' K Q) {n es : Nat} {zs : List AV} {ps : List (Nat × Nat × MO)} (hw : wpOp M z W hi (.buildSlice n es zs ps) t H K) : Runs M (.op (.buildSlice n es zs ps) t' Q) h := by
  simp only [wpOp] at hw
  split at hw
  · rename_i l hl
    obtain ⟨f1, f2⟩ := fill_spec (A := addr H) (n := H.length) hv hl (oks_av _ _)
    rw [concs_av] at f1
    refine fin_push hv hz hK (x := .con l es) (by simp only [Seg.ok]; exact f2) (a := .slice h.length 0 n) (by simp only [evalOp, f1, Option.map_some, Seg.heap]) (fun e => .inr ⟨by simp [SV.ok], by simp [conc, e]⟩) hw
  · exact hw.elim

theorem con_at (hv : Val t H t' h) {s es : Nat} {c : List SV} (hs : H[s]? = some (.con c es)) : h[addr H s]? = some (.arr (concs (addr H) c) es false) ∧ oks H.length c := by
  refine ⟨by rw [seg_at hv.heap hs rfl]; simp [Seg.heap], ?_⟩
  exact hv.heap.2 _ (List.mem_of_getElem? hs)
theorem row_at (hv : Val t H t' h) {s es : Nat} {c : List AV} (hs : H[s]? = some (.row c es)) : h[addr H s]? = some (.arr c es false) := by rw [seg_at hv.heap hs rfl]; simp [Seg.heap]
theorem obj_at (hv : Val t H t' h) {s : Nat} {o : AObj} (hs : H[s]? = some (.obj o)) : h[addr H s]? = some o := by rw [seg_at hv.heap hs rfl]; simp [Seg.heap]

theorem op_load (hv : Val t H t' h) (hz : z ≤ H.length) (hK : Posts z W H h t' K Q) {agg : Option Nat} {x : MO} (hw : wpOp M z W hi (.load agg x) t H K) : Runs M (.op (.load agg x) t' Q) h := by
  simp only [wpOp] at hw
  split at hw
  · rename_i s o e
    obtain ⟨ok, e⟩ := ev_ok hv x e (by simp)
    simp only [conc] at e
    split at hw
    · rename_i c es hs
      obtain ⟨h1, h2⟩ := con_at hv hs
      split at hw
      · rename_i v hp
        obtain ⟨p1, p2⟩ := partS_spec hp (addr H) _ h2
        exact fin_stay hv hz hK (by simp only [evalOp, e, rdVar_part h1, p1, Option.map_some]) (.inr ⟨p2, rfl⟩) hw
      · exact hw.elim
    · rename_i c es hs
      have h1 := row_at hv hs
      exact fin_ex hv hz hK hw fun v hp => by simp only [evalOp, e, rdVar_part h1, hp, Option.map_some]
    · exact hw.elim
  · rename_i s o e
    obtain ⟨ok, e⟩ := ev_ok hv x e (by simp)
    simp only [conc] at e
    split at hw
    · rename_i c es hs
      obtain ⟨h1, h2⟩ := con_at hv hs
      exact fin_ex hv hz hK hw fun v hp => by simp only [evalOp, e, rdVar_part h1, hp, Option.map_some]
    · rename_i c es hs
      have h1 := row_at hv hs
      exact fin_ex hv hz hK hw fun v hp => by simp only [evalOp, e, rdVar_part h1, hp, Option.map_some]
    · exact hw.elim
  · rename_i b o e
    obtain ⟨ok, e⟩ := ev_ok hv x e (by simp)
    simp only [conc] at e
    refine fin_ex hv hz hK hw fun v hp => ?_
    have := rdVar_take (H := H) hp
    rw [← hv.heap.1] at this
    simp only [evalOp, e, this, Option.map_some]
  · exact hw.elim

theorem wr_at {b o es : Nat} {c vs : List AV} (hb : h[b]? = some (.arr c es false)) (hl : o + vs.length ≤ c.length) : wrCells h b o vs = some (h.set b (.arr (setCells c o vs) es false)) := by simp [wrCells, hb, hl]

theorem set_at (hv : Val t H t' h) {s : Nat} {x y : Seg} {o : AObj} (hs : H[s]? = some x) (hl : x.len = 1) (hy : y.heap (addr H) = [o]) (hx : ∃ p, x.heap (addr H) = [p]) : h.set (addr H s) o = flat (addr H) (H.set s y) := by
  obtain ⟨p, hp⟩ := hx
  have := flat_set (A := addr H) hs (k := 0) (y := y) (o := o) (by omega) (by rw [hp, hy]; rfl)
  rw [Nat.add_zero] at this
  rw [← this, hv.heap.1]

theorem sym_wr (hv : Val t H t' h) {q k o : Nat} {g g' : Heap} {vs : List AV} (hs : H[q]? = some (.sym g)) (hw : wrCells g k o vs = some g') : wrCells h (addr H q + k) o vs = some (flat (addr H) (H.set q (.sym g'))) ∧ g'.length = g.length := by
  unfold wrCells at hw
  split at hw
  · rename_i c es hk
    split at hw
    · rename_i hl
      cases hw
      have hlt := (List.getElem?_eq_some_iff.1 hk).1
      have h1 := flat_get (A := addr H) hs (k := k) hlt
      rw [← hv.heap.1] at h1
      simp only [Seg.heap] at h1
      rw [hk] at h1
      refine ⟨?_, by simp⟩
      rw [wr_at h1 hl]
      congr 1
      rw [← flat_set (A := addr H) hs (k := k) (o := .arr (setCells c o vs) es false) hlt (by simp only [Seg.heap]), ← hv.heap.1]
    · cases hw
  · cases hw

theorem op_store (hv : Val t H t' h) (hz : z ≤ H.length) (hK : Posts z W H h t' K Q) {n : Nat} {a x : MO} (hw : wpOp M z W hi (.store n a x) t H K) : Runs M (.op (.store n a x) t' Q) h := by
  simp only [wpOp] at hw
  split at hw
  · exact hw.elim
  · rename_i cs hcs
    split at hw
    · rename_i hn
      obtain ⟨ok, ex⟩ := ev_ok hv x rfl (by intro hb; rw [hb] at hcs; simp [SV.cells] at hcs)
      obtain ⟨c1, c2⟩ := cells_spec (A := addr H) hcs ok
      have hn' : (concs (addr H) cs).length = n := by rw [concs_length, hn]
      split at hw
      · rename_i s o e
        obtain ⟨ok2, e⟩ := ev_ok hv a e (by simp)
        simp only [conc] at e
        split at hw
        · rename_i hzs
          split at hw
          · rename_i c es hs
            obtain ⟨h1, h2⟩ := con_at hv hs
            split at hw
            · rename_i hl
              refine fin_set hv hz hK (wr_spec hzs) hs (y := .con (setCells c o cs) es) rfl (by simp only [Seg.ok]; exact oks_setCells h2 c2) ?_ (av_ok _) hw
              simp only [evalOp, e, ex, c1, if_pos hn', wr_at h1 (vs := concs (addr H) cs) (o := o) (by rw [hn', concs_length]; exact hl), Option.map_some]
              rw [set_at hv hs rfl (y := .con (setCells c o cs) es) (by simp only [Seg.heap, concs_setCells]) ⟨_, rfl⟩]
            · exact hw.elim
          · rename_i c es hs
            have h1 := row_at hv hs
            obtain ⟨hl, hw⟩ := hw
            refine fin_set hv hz hK (wr_spec hzs) hs (y := .row (setCells c o (concs (addr H) cs)) es) rfl (by simp only [Seg.ok]) ?_ (av_ok _) hw
            simp only [evalOp, e, ex, c1, if_pos hn', wr_at h1 (vs := concs (addr H) cs) (o := o) (by rw [hn']; exact hl), Option.map_some]
            rw [set_at hv hs rfl (y := .row (setCells c o (concs (addr H) cs)) es) (by simp only [Seg.heap]) ⟨_, rfl⟩]
          · exact hw.elim
        · exact hw.elim
      · rename_i s o e
        obtain ⟨ok2, e⟩ := ev_ok hv a e (by simp)
        simp only [conc] at e
        split at hw
        · rename_i hzs
          split at hw
          · rename_i c es hs
            obtain ⟨h1, h2⟩ := con_at hv hs
            obtain ⟨hl, hw⟩ := hw
            refine fin_set hv hz hK (wr_spec hzs) hs (y := .row (setCells (concs (addr H) c) o (concs (addr H) cs)) es) rfl (by simp only [Seg.ok]) ?_ (av_ok _) hw
            simp only [evalOp, e, ex, c1, if_pos hn', wr_at h1 (vs := concs (addr H) cs) (o := o) (by rw [hn']; exact hl), Option.map_some]
            rw [set_at hv hs rfl (y := .row (setCells (concs (addr H) c) o (concs (addr H) cs)) es) (by simp only [Seg.heap]) ⟨_, rfl⟩]
          · rename_i c es hs
            have h1 := row_at hv hs
            obtain ⟨hl, hw⟩ := hw
            refine fin_set hv hz hK (wr_spec hzs) hs (y := .row (setCells c o (concs (addr H) cs)) es) rfl (by simp only [Seg.ok]) ?_ (av_ok _) hw
            simp only [evalOp, e, ex, c1, if_pos hn', wr_at h1 (vs := concs (addr H) cs) (o := o) (by rw [hn']; exact hl), Option.map_some]
            rw [set_at hv hs rfl (y := .row (setCells c o (concs (addr H) cs)) es) (by simp only [Seg.heap]) ⟨_, rfl⟩]
          · exact hw.elim
        · exact hw.elim
      · rename_i b o e
        obtain ⟨ok2, e⟩ := ev_ok hv a e (by simp)
        simp only [conc] at e
        split at hw
        · rename_i hzs
          split at hw
          · rename_i g hs
            obtain ⟨k, g', rfl, hwr, hw⟩ := hw
            obtain ⟨w1, w2⟩ := sym_wr hv hs hwr
            refine fin_set hv hz hK (wr_spec hzs) hs (y := .sym g') (by simp only [Seg.len]; exact w2) (by simp only [Seg.ok]) ?_ (av_ok _) hw
            simp only [evalOp, e, ex, c1, if_pos hn', w1, Option.map_some]
          · exact hw.elim
        · exact hw.elim
      · exact hw.elim
    · exact hw.elim

theorem op_indexAddr (hv : Val t H t' h) (hz : z ≤ H.length) (hK : Posts z W H h t' K Q) {es : Nat} {x i : MO} (hw : wpOp M z W hi (.indexAddr es x i) t H K) : Runs M (.op (.indexAddr es x i) t' Q) h := by
  simp only [wpOp] at hw
  split at hw
  · rename_i s o n k j e1 e2
    obtain ⟨ok, e1⟩ := ev_ok hv x e1 (by simp)
    obtain ⟨_, e2⟩ := ev_ok hv i e2 (by simp)
    simp only [conc] at e1 e2
    simp only [SV.ok] at ok
    split at hw
    · split at hw
      · rename_i hc
        exact fin_ok hv hz hK (by simpa only [SV.ok] using ok) (by simp only [evalOp, e1, e2, if_pos hc, conc]) hw
      · exact hw.elim
    · obtain ⟨hc, hw⟩ := hw
      exact fin_ok hv hz hK (by simpa only [SV.ok] using ok) (by simp only [evalOp, e1, e2, if_pos hc, conc]) hw
  · rename_i s k j e1 e2
    obtain ⟨ok, e1⟩ := ev_ok hv x e1 (by simp)
    obtain ⟨_, e2⟩ := ev_ok hv i e2 (by simp)
    simp only [conc] at e1 e2
    obtain ⟨hc, hw⟩ := hw
    have hnil : s.nil = false := by
      cases hs : s.nil with
      | false => rfl
      | true => simp [Slc.len, hs] at hc; omega
    simp only [Slc.len, hnil, cond_false] at hc
    simp only [Slc.av, hnil, cond_false] at e1
    exact fin_ok hv hz hK (by simp only [SV.ok]) (by simp only [evalOp, e1, e2, if_pos hc, conc]) hw
  · exact hw.elim

theorem op_indexArr (hv : Val t H t' h) (hz : z ≤ H.length) (hK : Posts z W H h t' K Q) {es n : Nat} {x i : MO} (hw : wpOp M z W hi (.indexArr es n x i) t H K) : Runs M (.op (.indexArr es n x i) t' Q) h := by
  simp only [wpOp] at hw
  split at hw
  · rename_i s o k j e1 e2
    obtain ⟨ok, e1⟩ := ev_ok hv x e1 (by simp)
    obtain ⟨_, e2⟩ := ev_ok hv i e2 (by simp)
    simp only [conc] at e1 e2
    simp only [SV.ok] at ok
    split at hw
    · split at hw
      · rename_i hc
        exact fin_ok hv hz hK (by simpa only [SV.ok] using ok) (by simp only [evalOp, e1, e2, if_pos hc, conc]) hw
      · exact hw.elim
    · obtain ⟨hc, hw⟩ := hw
      exact fin_ok hv hz hK (by simpa only [SV.ok] using ok) (by simp only [evalOp, e1, e2, if_pos hc, conc]) hw
  · rename_i s o k j e1 e2
    obtain ⟨ok, e1⟩ := ev_ok hv x e1 (by simp)
    obtain ⟨_, e2⟩ := ev_ok hv i e2 (by simp)
    simp only [conc] at e1 e2
    simp only [SV.ok] at ok
    obtain ⟨hc, hw⟩ := hw
    exact fin_ok hv hz hK (by simpa only [SV.ok] using ok) (by simp only [evalOp, e1, e2, if_pos hc, conc]) hw
  · rename_i b o k j e1 e2
    obtain ⟨ok, e1⟩ := ev_ok hv x e1 (by simp)
    obtain ⟨_, e2⟩ := ev_ok hv i e2 (by simp)
    simp only [conc] at e1 e2
    obtain ⟨hc, hw⟩ := hw
    exact fin_ok hv hz hK (by simp only [SV.ok]) (by simp only [evalOp, e1, e2, if_pos hc, conc]) hw
  · exact hw.elim

theorem op_indexStr (hv : Val t H t' h) (hz : z ≤ H.length) (hK : Posts z W H h t' K Q) {x i : MO} (hw : wpOp M z W hi (.indexStr x i) t H K) : Runs M (.op (.indexStr x i) t' Q) h := by
  simp only [wpOp] at hw
  split at hw
  · rename_i s k j e1 e2
    obtain ⟨ok, e1⟩ := ev_ok hv x e1 (by simp)
    obtain ⟨_, e2⟩ := ev_ok hv i e2 (by simp)
    simp only [conc] at e1 e2
    split at hw
    · split at hw
      · rename_i c hc
        split at hw
        · rename_i h0
          exact fin_stay hv hz hK (by simp only [evalOp, e1, e2, if_pos h0, hc, Option.map_some]) (av_ok _) hw
        · exact hw.elim
      · exact hw.elim
    · obtain ⟨c, ⟨h0, hc⟩, hw⟩ := hw
      exact fin_stay hv hz hK (by simp only [evalOp, e1, e2, if_pos h0, hc, Option.map_some]) (av_ok _) hw
  · exact hw.elim

theorem op_indexAgg (hv : Val t H t' h) (hz : z ≤ H.length) (hK : Posts z W H h t' K Q) {es n : Nat} {agg : Option Nat} {x i : MO} (hw : wpOp M z W hi (.indexAgg es agg n x i) t H K) : Runs M (.op (.indexAgg es agg n x i) t' Q) h := by
  simp only [wpOp] at hw
  split at hw
  · rename_i l k j e1 e2
    obtain ⟨ok, e1⟩ := ev_ok hv x e1 (by simp)
    obtain ⟨_, e2⟩ := ev_ok hv i e2 (by simp)
    simp only [conc] at e1 e2
    simp only [SV.ok] at ok
    split at hw
    · split at hw
      · rename_i hc
        split at hw
        · rename_i v hp
          obtain ⟨p1, p2⟩ := partS_spec hp (addr H) _ ok
          exact fin_stay hv hz hK (by simp only [evalOp, e1, e2, if_pos hc, p1, Option.map_some]) (.inr ⟨p2, rfl⟩) hw
        · exact hw.elim
      · exact hw.elim
    · exact fin_ex hv hz hK hw fun v hp => by simp only [evalOp, e1, e2, if_pos hp.1, hp.2, Option.map_some]
  · rename_i l k j e1 e2
    obtain ⟨ok, e1⟩ := ev_ok hv x e1 (by simp)
    obtain ⟨_, e2⟩ := ev_ok hv i e2 (by simp)
    simp only [conc] at e1 e2
    exact fin_ex hv hz hK hw fun v hp => by simp only [evalOp, e1, e2, if_pos hp.1, hp.2, Option.map_some]
  · exact hw.elim

theorem bnd_spec (hv : Val t H t' h) {d : Int} {x : Option MO} {i : Int} (hb : bndS d (x.map (·.ev t)) = some i) : (x = none ∧ i = d) ∨ ∃ y k, x = some y ∧ y.eval t' = .int k i := by
  cases x with
  | none => simp [bndS] at hb; exact .inl ⟨rfl, hb.symm⟩
  | some y =>
    simp only [Option.map_some] at hb
    unfold bndS at hb
    split at hb
    · rename_i hh; cases hh
    · rename_i k j hh
      simp only [Option.some.injEq] at hh
      cases hb
      obtain ⟨_, e⟩ := ev_ok hv y hh (by simp)
      simp only [conc] at e
      exact .inr ⟨y, k, rfl, e⟩
    · cases hb

theorem bounds_spec (hv : Val t H t' h) {n : Nat} {lo hi' : Option MO} {l e : Int} (h1 : bndS 0 (lo.map (·.ev t)) = some l) (h2 : bndS n (hi'.map (·.ev t)) = some e) (hc : 0 ≤ l ∧ l ≤ e ∧ e ≤ (n : Int)) :
    bounds n (lo.map (·.eval t')) (hi'.map (·.eval t')) = some (l.toNat, e.toNat) := by
  have b2 : boundOf n n (hi'.map (·.eval t')) = some e.toNat := by
    rcases bnd_spec hv h2 with ⟨rfl, rfl⟩ | ⟨y, k, rfl, hy⟩
    · simp [boundOf]
    · simp only [Option.map_some, hy, boundOf]
      rw [if_pos (by omega)]
  have b1 : boundOf 0 e.toNat (lo.map (·.eval t')) = some l.toNat := by
    rcases bnd_spec hv h1 with ⟨rfl, rfl⟩ | ⟨y, k, rfl, hy⟩
    · simp [boundOf]
    · simp only [Option.map_some, hy, boundOf]
      rw [if_pos (by omega)]
  simp only [bounds, b2, b1]

theorem op_sliceStr (hv : Val t H t' h) (hz : z ≤ H.length) (hK : Posts z W H h t' K Q) {x : MO} {lo hi' : Option MO} (hw : wpOp M z W hi (.sliceStr x lo hi') t H K) : Runs M (.op (.sliceStr x lo hi') t' Q) h := by
  simp only [wpOp] at hw
  split at hw
  · rename_i s l e1 h1
    obtain ⟨_, e1⟩ := ev_ok hv x e1 (by simp)
    simp only [conc] at e1
    split at hw
    · rename_i e h2
      obtain ⟨hc, hw⟩ := hw
      exact fin_stay hv hz hK (by simp only [evalOp, e1, bounds_spec hv h1 h2 hc, Option.map_some]) (av_ok _) hw
    · exact hw.elim
  · exact hw.elim

theorem op_sliceSlc (hv : Val t H t' h) (hz : z ≤ H.length) (hK : Posts z W H h t' K Q) {es : Nat} {x : MO} {lo hi' : Option MO} (hw : wpOp M z W hi (.sliceSlc es x lo hi') t H K) : Runs M (.op (.sliceSlc es x lo hi') t' Q) h := by
  simp only [wpOp] at hw
  split at hw
  · rename_i s l e1 h1
    obtain ⟨_, e1⟩ := ev_ok hv x e1 (by simp)
    simp only [conc] at e1
    split at hw
    · rename_i e h2
      obtain ⟨hrow, hc, hw⟩ := hw
      have hb := bounds_spec hv h1 h2 hc
      cases hs : s.nil with
      | true =>
        simp only [Slc.len, hs, cond_true] at hb
        simp only [Slc.av, hs, cond_true] at e1
        exact fin_ok hv hz hK (by simp only [SV.ok]) (by simp [evalOp, e1, hb, Option.map_some, conc, Slc.av, hs]) hw
      | false =>
        obtain ⟨c, ro, hg⟩ := hrow hs
        have hg := get_take (H := H) hg
        rw [← hv.heap.1] at hg
        simp only [Slc.len, hs, cond_false] at hb
        simp only [Slc.av, hs, cond_false] at e1
        exact fin_ok hv hz hK (by simp only [SV.ok]) (by simp [evalOp, e1, hg, hb, Option.map_some, conc, Slc.av, hs]) hw
    · exact hw.elim
  · rename_i q o n l e1 h1
    obtain ⟨ok, e1⟩ := ev_ok hv x e1 (by simp)
    simp only [conc] at e1
    simp only [SV.ok] at ok
    split at hw
    · rename_i e h2
      split at hw
      · rename_i c es' hs
        obtain ⟨g1, _⟩ := con_at hv hs
        split at hw
        · rename_i hes
          obtain ⟨hc, hw⟩ := hw
          exact fin_ok hv hz hK (by simpa only [SV.ok] using ok) (by simp only [evalOp, e1, g1, if_pos hes, bounds_spec hv h1 h2 hc, Option.map_some, conc]) hw
        · exact hw.elim
      · rename_i c es' hs
        have g1 := row_at hv hs
        split at hw
        · rename_i hes
          obtain ⟨hc, hw⟩ := hw
          exact fin_ok hv hz hK (by simpa only [SV.ok] using ok) (by simp only [evalOp, e1, g1, if_pos hes, bounds_spec hv h1 h2 hc, Option.map_some, conc]) hw
        · exact hw.elim
      · exact hw.elim
    · exact hw.elim
  · exact hw.elim

theorem op_bin (hv : Val t H t' h) (hz : z ≤ H.length) (hK : Posts z W H h t' K Q) {op : BinOp} {x y : MO} (hw : wpOp M z W hi (.bin op x y) t H K) : Runs M (.op (.bin op x y) t' Q) h := by
  simp only [wpOp] at hw
  split at hw
  · split at hw
    · rename_i v hp
      obtain ⟨a, he, hvv⟩ := pureS_sound hv hp
      exact fin_stay hv hz hK he hvv hw
    · exact hw.elim
  · split at hw
    · rename_i k a k' b e1 e2
      obtain ⟨_, e1⟩ := ev_ok hv x e1 (by simp)
      obtain ⟨_, e2⟩ := ev_ok hv y e2 (by simp)
      simp only [conc] at e1 e2
      split at hw
      · rename_i hk
        obtain ⟨hb, hw⟩ := hw
        exact fin_stay hv hz hK (by simp only [evalOp, e1, e2, binAV, if_pos hk, intBin, if_neg hb, Option.map_some]) (av_ok _) hw
      · exact hw.elim
    · rename_i k a k' b e1 e2
      obtain ⟨_, e1⟩ := ev_ok hv x e1 (by simp)
      obtain ⟨_, e2⟩ := ev_ok hv y e2 (by simp)
      simp only [conc] at e1 e2
      split at hw
      · rename_i hk
        obtain ⟨hb, hw⟩ := hw
        exact fin_stay hv hz hK (by simp only [evalOp, e1, e2, binAV, if_pos hk, intBin, if_neg hb, Option.map_some]) (av_ok _) hw
      · exact hw.elim
    · rename_i a b e1 e2
      obtain ⟨_, e1⟩ := ev_ok hv x e1 (by simp)
      obtain ⟨_, e2⟩ := ev_ok hv y e2 (by simp)
      simp only [conc] at e1 e2
      obtain ⟨hb, hw⟩ := hw
      exact fin_stay hv hz hK (by simp only [evalOp, e1, e2, binAV, strBin]; rw [if_neg (by omega)]; simp only [Option.map_some]) (av_ok _) hw
    · exact hw.elim
end
end Go.Abs
