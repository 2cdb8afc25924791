/- What is left to be shown of an operation on a symbolic state is enough: maps, appending, calls; and all operations. -/
import Derived.Test.YthedodaghjpdoaaAbsT
set_option linter.unusedVariables false
set_option linter.unusedSimpArgs false
namespace Go.Abs

section
variable {M : Model} {t : List SV} {H : List Seg} {t' : Tmps} {h : Heap} {z : Nat} {W : List Nat} {hi : OH} {K : SV → List SV → List Seg → Prop} {Q : AV → Heap → Prop}

theorem op_mkMap (hv : Val t H t' h) (hz : z ≤ H.length) (hK : Posts z W H h t' K Q) (hw : wpOp M z W hi .mkMap t H K) : Runs M (.op .mkMap t' Q) h := by
  simp only [wpOp] at hw
  exact fin_push hv hz hK (x := .obj (.map [])) (by simp only [Seg.ok]) (a := .map h.length) (by simp only [evalOp, Seg.heap]) (fun e => .inr ⟨by simp [SV.ok], by simp only [conc]; rw [e]⟩) hw

theorem op_rangeStr (hv : Val t H t' h) (hz : z ≤ H.length) (hK : Posts z W H h t' K Q) {x : MO} (hw : wpOp M z W hi (.rangeStr x) t H K) : Runs M (.op (.rangeStr x) t' Q) h := by
  simp only [wpOp] at hw
  split at hw
  · rename_i s e1
    obtain ⟨_, e1⟩ := ev_ok hv x e1 (by simp)
    simp only [conc] at e1
    exact fin_push hv hz hK (x := .obj (.iter s 0)) (by simp only [Seg.ok]) (a := .ptr h.length 0) (by simp only [evalOp, e1, Seg.heap]) (fun e => .inr ⟨by simp [SV.ok], by simp only [conc]; rw [e]⟩) hw
  · exact hw.elim

theorem op_nextStr {K2 : SV → List SV → List Seg → Prop} (hv : Val t H t' h) (hz : z ≤ H.length) {x : MO} (hw : wpNext z W x t H K K2) (hK : Posts z W H h t' K Q) (hK2 : Posts z W H h t' K2 Q) : Runs M (.op (.nextStr x) t' Q) h := by
  unfold wpNext at hw
  split at hw
  · rename_i s e1
    obtain ⟨_, e1⟩ := ev_ok hv x e1 (by simp)
    simp only [conc] at e1
    split at hw
    · rename_i hzs
      split at hw
      · rename_i y p hs
        have g1 := obj_at hv hs
        obtain ⟨hw1, hw2⟩ := hw
        by_cases hp : p < y.length
        · refine fin_set hv hz hK (wr_spec hzs) hs (y := .obj (.iter y (p + (Utf8.decode ⟨y.toArray⟩ p).2))) rfl (by simp only [Seg.ok]) ?_ (.inr ⟨by simp [SV.ok, oks], rfl⟩) (hw1 hp)
          simp only [evalOp, e1, g1, if_pos hp]
          rw [set_at hv hs rfl (y := .obj (.iter y (p + (Utf8.decode ⟨y.toArray⟩ p).2))) (by simp only [Seg.heap]) ⟨_, rfl⟩]
          simp only [conc, concs]
        · exact fin_ok hv hz hK2 (v := .tup [.av (.bool false)]) (by simp [SV.ok, oks]) (by simp only [evalOp, e1, g1, if_neg hp, conc, concs]) (hw2 hp)
      · exact hw.elim
    · exact hw.elim
  · exact hw.elim

theorem op_mkSlice (hv : Val t H t' h) (hz : z ≤ H.length) (hK : Posts z W H h t' K Q) {zs : List AV} {bytes : Nat} {len cap : MO} (hw : wpOp M z W hi (.mkSlice zs bytes len cap) t H K) : Runs M (.op (.mkSlice zs bytes len cap) t' Q) h := by
  simp only [wpOp] at hw
  split at hw
  · rename_i l c e1 e2
    obtain ⟨_, e1⟩ := ev_ok hv len e1 (by simp)
    obtain ⟨_, e2⟩ := ev_ok hv cap e2 (by simp)
    simp only [conc] at e1 e2
    obtain ⟨hc, hw⟩ := hw
    split at hw
    · exact fin_push hv hz hK (x := .con ((List.flatten (List.replicate l.toNat zs)).map .av) zs.length) (by simp only [Seg.ok]; exact oks_av _ _) (a := .slice h.length 0 l.toNat) (by simp only [evalOp, e1, e2, if_pos hc, Seg.heap, concs_av]) (fun e => .inr ⟨by simp [SV.ok], by simp only [conc]; rw [e]⟩) hw
    · exact fin_push hv hz hK (x := .row (List.flatten (List.replicate l.toNat zs)) zs.length) (by simp only [Seg.ok]) (a := .slice h.length 0 l.toNat) (by simp only [evalOp, e1, e2, if_pos hc, Seg.heap]) (fun e => .inr ⟨by simp [SV.ok], by simp only [conc]; rw [e]⟩) hw
  · exact hw.elim

theorem mapEs_spec (hv : Val t H t' h) {q : Nat} {m : MO} {f : List (AV × AV) → Prop} (hm : mapEs (addr H) H q (m.ev t) f) : ∃ es, f es ∧ ((m.eval t' = .nilmap ∧ es = []) ∨ ∃ r, m.eval t' = .map r ∧ h[r]? = some (.map es)) := by
  unfold mapEs at hm
  split at hm
  · rename_i f s e1
    obtain ⟨_, e1⟩ := ev_ok hv m e1 (by simp)
    simp only [conc] at e1
    split at hm
    · rename_i es hs
      exact ⟨es, hm, .inr ⟨_, e1, obj_at hv hs⟩⟩
    · exact hm.elim
  · rename_i f e1
    obtain ⟨_, e1⟩ := ev_ok hv m e1 (by simp)
    simp only [conc] at e1
    exact ⟨[], hm, .inl ⟨e1, rfl⟩⟩
  · rename_i f r e1
    obtain ⟨_, e1⟩ := ev_ok hv m e1 (by simp)
    simp only [conc] at e1
    obtain ⟨es, hr, hf⟩ := hm
    have hr := get_take (H := H) hr
    rw [← hv.heap.1] at hr
    exact ⟨es, hf, .inr ⟨r, e1, hr⟩⟩
  · exact hm.elim

theorem op_lookup (hv : Val t H t' h) (hz : z ≤ H.length) (hK : Posts z W H h t' K Q) {zv : AV} {ok : Bool} {m k : MO} (hw : wpOp M z W hi (.lookup zv ok m k) t H K) : Runs M (.op (.lookup zv ok m k) t' Q) h := by
  simp only [wpOp] at hw
  split at hw
  · rename_i kv e1
    obtain ⟨_, e1⟩ := ev_ok hv k e1 (by simp)
    simp only [conc] at e1
    obtain ⟨es, hw, hm⟩ := mapEs_spec hv hw
    refine fin_ex hv hz hK hw fun v ⟨r, h1, h2, h3⟩ => ?_
    rcases hm with ⟨e2, rfl⟩ | ⟨r', e2, hr⟩
    · simp only [evalOp, e1, e2, h1, if_true, h2]
      rw [h3]
    · simp only [evalOp, e1, e2, hr, h1, if_true, h2]
      rw [h3]
  · exact hw.elim

theorem op_lenMap (hv : Val t H t' h) (hz : z ≤ H.length) (hK : Posts z W H h t' K Q) {m : MO} (hw : wpOp M z W hi (.lenMap m) t H K) : Runs M (.op (.lenMap m) t' Q) h := by
  simp only [wpOp] at hw
  obtain ⟨es, hw, hm⟩ := mapEs_spec hv hw
  refine fin_stay hv hz hK (a := .int .i64 es.length) ?_ (av_ok _) hw
  rcases hm with ⟨e2, rfl⟩ | ⟨r', e2, hr⟩
  · simp [evalOp, e2]
  · simp [evalOp, e2, hr]

theorem sym_map (hv : Val t H t' h) {q i : Nat} {g : Heap} {o : AObj} (hs : H[q]? = some (.sym g)) (hg : g[i]? = some o) (o' : AObj) : h[addr H q + i]? = some o ∧ h.set (addr H q + i) o' = flat (addr H) (H.set q (.sym (g.set i o'))) := by
  have hlt := (List.getElem?_eq_some_iff.1 hg).1
  have h1 := flat_get (A := addr H) hs (k := i) hlt
  rw [← hv.heap.1] at h1
  simp only [Seg.heap] at h1
  refine ⟨by rw [h1, hg], ?_⟩
  rw [← flat_set (A := addr H) hs (k := i) (o := o') hlt (by simp only [Seg.heap]), ← hv.heap.1]

theorem op_mapUpdate (hv : Val t H t' h) (hz : z ≤ H.length) (hK : Posts z W H h t' K Q) {m k x : MO} (hw : wpOp M z W hi (.mapUpdate m k x) t H K) : Runs M (.op (.mapUpdate m k x) t' Q) h := by
  simp only [wpOp] at hw
  split at hw
  · rename_i s kv e1 e2
    obtain ⟨_, e1⟩ := ev_ok hv m e1 (by simp)
    obtain ⟨_, e2⟩ := ev_ok hv k e2 (by simp)
    simp only [conc] at e1 e2
    split at hw
    · rename_i hc
      obtain ⟨_, e3⟩ := ev_ok hv x rfl (by intro hb; rw [hb] at hc; simp [conc, AV.cells] at hc)
      split at hw
      · rename_i es hs
        obtain ⟨es', ⟨hk, hset⟩, hw⟩ := hw
        have g1 := obj_at hv hs
        refine fin_set hv hz hK (wr_spec hc.1) hs (y := .obj (.map es')) rfl (by simp only [Seg.ok]) ?_ (av_ok _) hw
        simp only [evalOp, e1, e2, e3, g1, hk, if_true, hset, Option.map_some]
        rw [set_at hv hs rfl (y := .obj (.map es')) (by simp only [Seg.heap]) ⟨_, rfl⟩]
      · exact hw.elim
    · exact hw.elim
  · rename_i r kv e1 e2
    obtain ⟨_, e1⟩ := ev_ok hv m e1 (by simp)
    obtain ⟨_, e2⟩ := ev_ok hv k e2 (by simp)
    simp only [conc] at e1 e2
    split at hw
    · rename_i hc
      split at hw
      · rename_i g hs
        obtain ⟨i, es, es', ⟨hb, rfl, hg, hk, hset⟩, hw⟩ := hw
        obtain ⟨_, e3⟩ := ev_ok hv x rfl hb
        obtain ⟨s1, s2⟩ := sym_map hv hs hg (.map es')
        refine fin_set hv hz hK (wr_spec hc) hs (y := .sym (g.set i (.map es'))) (by simp [Seg.len]) (by simp only [Seg.ok]) ?_ (av_ok _) hw
        simp only [evalOp, e1, e2, e3, s1, hk, if_true, hset, Option.map_some, s2]
      · exact hw.elim
    · exact hw.elim
  · exact hw.elim

theorem op_mapDelete (hv : Val t H t' h) (hz : z ≤ H.length) (hK : Posts z W H h t' K Q) {m k : MO} (hw : wpOp M z W hi (.mapDelete m k) t H K) : Runs M (.op (.mapDelete m k) t' Q) h := by
  simp only [wpOp] at hw
  split at hw
  · rename_i s kv e1 e2
    obtain ⟨_, e1⟩ := ev_ok hv m e1 (by simp)
    obtain ⟨_, e2⟩ := ev_ok hv k e2 (by simp)
    simp only [conc] at e1 e2
    split at hw
    · rename_i hc
      split at hw
      · rename_i es hs
        obtain ⟨es', ⟨hk, hset⟩, hw⟩ := hw
        have g1 := obj_at hv hs
        refine fin_set hv hz hK (wr_spec hc) hs (y := .obj (.map es')) rfl (by simp only [Seg.ok]) ?_ (av_ok _) hw
        simp only [evalOp, e1, e2, g1, hk, if_true, hset, Option.map_some]
        rw [set_at hv hs rfl (y := .obj (.map es')) (by simp only [Seg.heap]) ⟨_, rfl⟩]
      · exact hw.elim
    · exact hw.elim
  · rename_i r kv e1 e2
    obtain ⟨_, e1⟩ := ev_ok hv m e1 (by simp)
    obtain ⟨_, e2⟩ := ev_ok hv k e2 (by simp)
    simp only [conc] at e1 e2
    split at hw
    · rename_i hc
      split at hw
      · rename_i g hs
        obtain ⟨i, es, es', ⟨rfl, hg, hk, hset⟩, hw⟩ := hw
        obtain ⟨s1, s2⟩ := sym_map hv hs hg (.map es')
        refine fin_set hv hz hK (wr_spec hc) hs (y := .sym (g.set i (.map es'))) (by simp [Seg.len]) (by simp only [Seg.ok]) ?_ (av_ok _) hw
        simp only [evalOp, e1, e2, s1, hk, if_true, hset, Option.map_some, s2]
      · exact hw.elim
    · exact hw.elim
  · exact hw.elim

/-! ### Appending -/
def sumC (A : Nat → Nat) : Sum (List SV) (List AV) → List AV
  | .inl l => concs A l
  | .inr l => l
def sumOk (n : Nat) : Sum (List SV) (List AV) → Prop
  | .inl l => oks n l
  | .inr _ => True

theorem oks_part {n : Nat} {c : List SV} {a b : Nat} (h : oks n c) : oks n ((c.drop a).take b) := by
  rw [oks_iff] at *
  exact fun v hv => h v (List.mem_of_mem_drop (List.mem_of_mem_take hv))
theorem concs_part (A : Nat → Nat) (c : List SV) (a b : Nat) : concs A ((c.drop a).take b) = ((concs A c).drop a).take b := by simp [concs_map, List.map_drop, List.map_take]
theorem oks_app {n : Nat} {a b : List SV} (h1 : oks n a) (h2 : oks n b) : oks n (a ++ b) := by
  rw [oks_iff] at *
  intro v hv
  rcases List.mem_append.1 hv with h | h
  · exact h1 v h
  · exact h2 v h

theorem newS_spec (hv : Val t H t' h) {q es : Nat} {x : MO} {f : Sum (List SV) (List AV) → Nat → Prop} (hn : newS (addr H) H q es (x.ev t) f) :
    ∃ new n, f new n ∧ sumOk H.length new ∧ 0 < n ∧ lenOf (x.eval t') = some n ∧ rowOf h es (x.eval t') = some (sumC (addr H) new) := by
  unfold newS at hn
  split at hn
  · rename_i f s o n e1
    obtain ⟨_, e1⟩ := ev_ok hv x e1 (by simp)
    simp only [conc] at e1
    split at hn
    · rename_i c es' hs
      obtain ⟨g1, g2⟩ := con_at hv hs
      split at hn
      · rename_i hc
        refine ⟨_, n, hn, oks_part g2, hc.2.1, by simp [e1, lenOf], ?_⟩
        simp only [e1, rowOf, rdCells, g1, concs_length, if_pos hc.2.2, sumC, concs_part]
      · exact hn.elim
    · rename_i c es' hs
      have g1 := row_at hv hs
      split at hn
      · obtain ⟨h0, hl, hn⟩ := hn
        refine ⟨_, n, hn, trivial, h0, by simp [e1, lenOf], ?_⟩
        simp only [e1, rowOf, rdCells, g1, if_pos hl, sumC]
      · exact hn.elim
    · exact hn.elim
  · rename_i f s e1
    obtain ⟨_, e1⟩ := ev_ok hv x e1 (by simp)
    simp only [conc] at e1
    obtain ⟨h0, new, hr, hf⟩ := hn
    refine ⟨_, _, hf, trivial, h0, ?_, ?_⟩
    · cases hs : s.nil <;> simp [e1, Slc.av, Slc.len, hs, lenOf]
    · rw [e1]
      simp only [sumC]
      cases hs : s.nil with
      | true => simp only [Slc.av, hs, cond_true, rowOf] at hr ⊢; exact hr
      | false =>
        simp only [Slc.av, hs, cond_false, rowOf] at hr ⊢
        rw [hv.heap.1]
        have e : flat (addr H) H = flat (addr H) (H.take q) ++ flat (addr H) (H.drop q) := by rw [← flat_append, List.take_append_drop]
        rw [e]
        exact Ext.rd ⟨_, rfl⟩ hr
  · exact hn.elim

theorem takeS_spec (hv : Val t H t' h) (hz : z ≤ H.length) {q es : Nat} {s : MO} {f : Sum (List SV) (List AV) → Nat → List Seg → Prop} (hn : takeS z W (addr H) H q es (s.ev t) f) :
    ∃ old l H1 h1, f old l H1 ∧ sumOk H.length old ∧ lenOf (s.eval t') = some l ∧ takeRow h es (s.eval t') = some (sumC (addr H) old, h1) ∧ Val t H1 t' h1 ∧ KeepH z W H h H1 h1 ∧ addr H1 = addr H ∧ H1.length = H.length := by
  unfold takeS at hn
  split at hn
  · rename_i f e1
    obtain ⟨_, e1⟩ := ev_ok hv s e1 (by simp)
    simp only [conc] at e1
    exact ⟨_, _, _, h, hn, by simp [sumOk, oks], by simp [e1, lenOf], by simp [e1, takeRow, sumC, concs], hv, KeepH.refl hz, rfl, rfl⟩
  · rename_i f b o n e1
    obtain ⟨_, e1⟩ := ev_ok hv s e1 (by simp)
    simp only [conc] at e1
    split at hn
    · rename_i c es' hs
      obtain ⟨g1, g2⟩ := con_at hv hs
      split at hn
      · rename_i hc
        obtain ⟨v1, v2, v3, v4⟩ := hv.setSeg hz (wr_spec hc.1) hs (y := .obj .dead) rfl (by simp only [Seg.ok])
        refine ⟨_, n, _, _, hn, oks_part g2, by simp [e1, lenOf], ?_, v1, v2, v3, v4⟩
        simp only [e1, takeRow, g1, concs_length, if_pos hc.2, sumC, concs_part]
        rw [set_at hv hs rfl (y := .obj .dead) (by simp only [Seg.heap]) ⟨_, rfl⟩]
      · exact hn.elim
    · rename_i c es' hs
      have g1 := row_at hv hs
      split at hn
      · rename_i hc
        obtain ⟨hl, hn⟩ := hn
        obtain ⟨v1, v2, v3, v4⟩ := hv.setSeg hz (wr_spec hc.1) hs (y := .obj .dead) rfl (by simp only [Seg.ok])
        refine ⟨_, n, _, _, hn, trivial, by simp [e1, lenOf], ?_, v1, v2, v3, v4⟩
        simp only [e1, takeRow, g1, if_pos (And.intro hc.2 hl), sumC]
        rw [set_at hv hs rfl (y := .obj .dead) (by simp only [Seg.heap]) ⟨_, rfl⟩]
      · exact hn.elim
    · exact hn.elim
  · rename_i f sl e1
    obtain ⟨_, e1⟩ := ev_ok hv s e1 (by simp)
    simp only [conc] at e1
    split at hn
    · rename_i hzq
      split at hn
      · rename_i g hs
        obtain ⟨old, g', hcase, hn⟩ := hn
        rcases hcase with ⟨hnil, rfl, rfl⟩ | ⟨hnil, k, c, hb, hg, hl, rfl, rfl⟩
        · have hset : H.set q (.sym g') = H := by
            refine List.ext_getElem? fun i => ?_
            rw [List.getElem?_set]
            by_cases hi : q = i
            · subst hi
              rw [if_pos rfl, hs, if_pos (List.getElem?_eq_some_iff.1 hs).1]
            · rw [if_neg hi]
          rw [hset] at hn
          simp only [Slc.len, hnil, cond_true] at hn
          exact ⟨_, _, _, h, hn, trivial, by simp [e1, Slc.av, hnil, lenOf], by simp [e1, Slc.av, hnil, takeRow, sumC], hv, KeepH.refl hz, rfl, rfl⟩
        · obtain ⟨s1, s2⟩ := sym_map hv hs hg .dead
          obtain ⟨v1, v2, v3, v4⟩ := hv.setSeg hz (wr_spec hzq) hs (y := .sym (g.set k .dead)) (by simp [Seg.len]) (by simp only [Seg.ok])
          simp only [Slc.len, hnil, cond_false] at hn
          refine ⟨_, _, _, _, hn, trivial, by simp [e1, Slc.av, hnil, lenOf], ?_, v1, v2, v3, v4⟩
          simp only [e1, Slc.av, hnil, cond_false, takeRow, hb, s1, sumC]
          rw [if_pos ⟨trivial, hl⟩, s2]
      · exact hn.elim
    · exact hn.elim
  · exact hn.elim

theorem joinRow_spec {A : Nat → Nat} {n es : Nat} {a b : Sum (List SV) (List AV)} (ha : sumOk n a) (hb : sumOk n b) : (joinRow A es a b).ok n ∧ (joinRow A es a b).heap A = [.arr (sumC A a ++ sumC A b) es false] := by
  cases a <;> cases b <;> simp only [joinRow, Seg.ok, Seg.heap, sumC, and_true, true_and]
  refine ⟨oks_app ha hb, ?_⟩
  simp [concs_map]

theorem fin_append (hv : Val t H t' h) (hz : z ≤ H.length) (hK : Posts z W H h t' K Q) {q es bytes n : Nat} {o : MOp} {s : MO} {new : Sum (List SV) (List AV)} (hnew : sumOk H.length new) (h0 : 0 < n)
    (he : evalOp t' h o = appendAV h es bytes (s.eval t') n (sumC (addr H) new))
    (hw : takeS z W (addr H) H q es (s.ev t) fun old l H1 => (l + n) * bytes ≤ 140737488355328 ∧ K (.sln H1.length 0 (l + n)) t (H1 ++ [joinRow (addr H) es old new])) : Runs M (.op o t' Q) h := by
  obtain ⟨old, l, H1, h1, ⟨hsz, hk⟩, hold, hlen, htake, v1, v2, v3, v4⟩ := takeS_spec hv hz hw
  obtain ⟨j1, j2⟩ := joinRow_spec (A := addr H) (es := es) hold hnew
  obtain ⟨p1, p2, p3⟩ := v1.push (z := z) (x := joinRow (addr H) es old new) (by omega) (by rw [v4]; exact j1)
  rw [v3, j2] at p1 p2
  refine .op (v := .slice h1.length 0 (l + n)) (h1 := h1 ++ [.arr (sumC (addr H) old ++ sumC (addr H) new) es false]) ?_ (hK _ _ _ _ _ p1 (.inr ⟨by simp [SV.ok], by simp [conc, p3]⟩) (v2.trans p2) hk)
  rw [he]
  simp only [appendAV, hlen, htake]
  rw [if_neg (by omega), if_pos hsz]

theorem op_append (hv : Val t H t' h) (hz : z ≤ H.length) (hK : Posts z W H h t' K Q) {es bytes : Nat} {s x : MO} (hw : wpOp M z W hi (.append es bytes s x) t H K) : Runs M (.op (.append es bytes s x) t' Q) h := by
  simp only [wpOp] at hw
  obtain ⟨new, n, hw, hok, h0, hl, hr⟩ := newS_spec hv hw
  exact fin_append hv hz hK hok h0 (by simp only [evalOp, hl, hr]) hw

theorem op_appendStr (hv : Val t H t' h) (hz : z ≤ H.length) (hK : Posts z W H h t' K Q) {s x : MO} (hw : wpOp M z W hi (.appendStr s x) t H K) : Runs M (.op (.appendStr s x) t' Q) h := by
  simp only [wpOp] at hw
  split at hw
  · rename_i y e1
    obtain ⟨_, e1⟩ := ev_ok hv x e1 (by simp)
    simp only [conc] at e1
    exact fin_append hv hz hK (new := .inr (y.map fun c => .int .u8 c.toNat)) trivial hw.1 (by simp only [evalOp, e1, sumC]) hw.2
  · exact hw.elim

theorem seg_dem_len (A : Nat → Nat) (J : Nat) (s : Seg) : (s.dem A J).len = s.len := by cases s <;> rfl
theorem seg_dem_heap {A A' : Nat → Nat} {J : Nat} (h : ∀ s, s < J → A' s = A s) (s : Seg) : (s.dem A J).heap A' = s.heap A := by
  cases s <;> simp only [Seg.dem, Seg.heap, dems_conc h]
theorem flat_dem {A A' : Nat → Nat} {J : Nat} (h : ∀ s, s < J → A' s = A s) : ∀ (H : List Seg), flat A' (H.map (Seg.dem A J)) = flat A H
  | [] => by simp [flat]
  | s :: r => by rw [List.map_cons, flat_cons, flat_cons, seg_dem_heap h, flat_dem h r]
theorem seg_dem_ok {A : Nat → Nat} {J n : Nat} {s : Seg} (h : s.ok n) : (s.dem A J).ok J := by
  cases s <;> simp only [Seg.dem, Seg.ok] at h ⊢
  exact dems_ok _ h

/-- The state behind a call that keeps the first j segments. -/
theorem Val.cut (hv : Val t H t' h) {j : Nat} (hj : j ≤ H.length) (hz : z ≤ j) (rest : Heap) :
    Val (t.map (dem (addr H) j)) ((H.take j).map (Seg.dem (addr H) j) ++ [.sym rest]) t' (flat (addr H) (H.take j) ++ rest) ∧
    KeepH z W H h ((H.take j).map (Seg.dem (addr H) j) ++ [.sym rest]) (flat (addr H) (H.take j) ++ rest) := by
  have hl : ((H.take j).map (Seg.dem (addr H) j)).length = j := by simp; omega
  have ha : ∀ s, s ≤ j → addr ((H.take j).map (Seg.dem (addr H) j) ++ [.sym rest]) s = addr H s := by
    intro s hs
    rw [addr_append _ _ s (by rw [hl]; exact hs)]
    have : addr ((H.take j).map (Seg.dem (addr H) j)) s = addr (H.take j) s := addr_lens (by
      rw [List.map_map]
      exact List.map_congr_left fun x _ => seg_dem_len _ _ x)
    rw [this, addr_take hs hj]
  have ha' : ∀ s, s < j → addr ((H.take j).map (Seg.dem (addr H) j) ++ [.sym rest]) s = addr H s := fun s hs => ha s (by omega)
  have hlen : ((H.take j).map (Seg.dem (addr H) j) ++ [Seg.sym rest]).length = j + 1 := by simp [hl]; omega
  refine ⟨⟨⟨?_, ?_⟩, by simp [hv.len], ?_⟩, by rw [hlen]; omega, fun s hs => ha s (by omega), ?_⟩
  · rw [flat_append, flat_dem ha']
    simp [flat, Seg.heap]
  · intro s hs
    rw [hlen]
    rcases List.mem_append.1 hs with h1 | h1
    · obtain ⟨x, hx, rfl⟩ := List.mem_map.1 h1
      have := seg_dem_ok (A := addr H) (J := j) (hv.heap.2 x (List.mem_of_mem_take hx))
      cases hs' : (Seg.dem (addr H) j x) <;> simp only [Seg.ok]
      rw [hs'] at this
      simp only [Seg.ok] at this
      exact oks_mono (by omega) _ this
    · simp at h1
      subst h1
      simp only [Seg.ok]
  · intro i v hi
    simp only [List.getElem?_map, Option.map_eq_some_iff] at hi
    obtain ⟨v0, hi, rfl⟩ := hi
    rcases hv.tok i v0 hi with rfl | ⟨k1, k2⟩
    · exact .inl (by simp [dem])
    · refine .inr ⟨?_, by rw [k2, dem_conc ha']⟩
      rw [hlen]
      exact SV.ok_mono (by omega) _ (dem_ok v0 k1)
  · intro s hs hw k h1 h2
    have hle : addr H (s + 1) ≤ (flat (addr H) (H.take j)).length := by
      rw [flat_length]
      have : (H.take j).length = j := by simp; omega
      rw [this, addr_take (Nat.le_refl j) hj]
      exact addr_mono H (by omega)
    have e : flat (addr H) H = flat (addr H) (H.take j) ++ flat (addr H) (H.drop j) := by rw [← flat_append, List.take_append_drop]
    rw [hv.heap.1, e, List.getElem?_append_left (by omega), List.getElem?_append_left (by omega)]

theorem op_call (hv : Val t H t' h) (hz : z ≤ H.length) (hK : Posts z W H h t' K Q) {f : MO} {args : List MO} (hw : wpOp M z W hi (.call f args) t H K) : Runs M (.op (.call f args) t' Q) h := by
  simp only [wpOp] at hw
  split at hw
  · exact hw.elim
  · rename_i as has
    obtain ⟨ea, _⟩ := evs_spec hv has
    have go : ∀ (g : Nat) (cap : List AV), f.eval t' = .fn g cap → (if hi.mode = 0 then CallE M g (concs (addr H) as ++ cap) (flat (addr H) H) (fun v tail => hi.sh.ex fun x => v = conc (addr H) x ∧ K x t (H ++ [.sym tail]))
        else (if z ≤ hi.seg ∧ hi.seg ≤ H.length then CallP M g (concs (addr H) as ++ cap) (flat (addr H) (H.take hi.seg)) (flat (addr H) (H.drop hi.seg)) (fun v rest => hi.sh.ex fun x => v = conc (addr H) x ∧ K x (t.map (dem (addr H) hi.seg)) ((H.take hi.seg).map (Seg.dem (addr H) hi.seg) ++ [.sym rest])) else False)) → Runs M (.op (.call f args) t' Q) h := by
      intro g cap hf hw
      refine .callOp hf ?_
      rw [ea]
      split at hw
      · have e0 := hv.heap.1
        have hw' : Runs M (.call g (concs (addr H) as ++ cap) Q) (flat (addr H) H) := by
          refine hw Q fun v tail hp => ?_
          obtain ⟨x, ⟨rfl, hk⟩, ok⟩ := ex_spec _ hp
          obtain ⟨p1, p2, p3⟩ := hv.push (z := z) (x := .sym tail) hz (by simp only [Seg.ok])
          simp only [Seg.heap] at p1 p2
          rw [← hv.heap.1]
          refine hK _ _ _ _ _ p1 (.inr ⟨ok _, ?_⟩) p2 hk
          rw [conc_congr (n := 0) (fun s hs => absurd hs (Nat.not_lt_zero s)) x (ok 0)]
        rw [← e0] at hw'
        exact hw'
      · split at hw
        · rename_i hc
          have e : flat (addr H) (H.take hi.seg) ++ flat (addr H) (H.drop hi.seg) = h := by rw [← flat_append, List.take_append_drop]; exact hv.heap.1.symm
          have hw' : Runs M (.call g (concs (addr H) as ++ cap) Q) (flat (addr H) (H.take hi.seg) ++ flat (addr H) (H.drop hi.seg)) := by
            refine hw Q fun v rest hp => ?_
            obtain ⟨x, ⟨rfl, hk⟩, ok⟩ := ex_spec _ hp
            obtain ⟨c1, c2⟩ := hv.cut (z := z) hc.2 hc.1 rest
            refine hK _ _ _ _ _ c1 (.inr ⟨ok _, ?_⟩) c2 hk
            rw [conc_congr (n := 0) (fun s hs => absurd hs (Nat.not_lt_zero s)) x (ok 0)]
          rw [e] at hw'
          exact hw'
        · exact hw.elim
    split at hw
    · rename_i g cap e1
      obtain ⟨_, e1⟩ := ev_ok hv f e1 (by simp)
      simp only [conc] at e1
      exact go g cap e1 hw
    · rename_i g cap e1
      obtain ⟨_, e1⟩ := ev_ok hv f e1 (by simp)
      simp only [conc] at e1
      exact go g _ e1 hw
    · exact hw.elim

theorem op_pure (hv : Val t H t' h) (hz : z ≤ H.length) (hK : Posts z W H h t' K Q) {o : MOp} (hw : match pureS (addr H) t o with
    | some v => K v t H
    | none => False) : Runs M (.op o t' Q) h := by
  split at hw
  · rename_i v hp
    obtain ⟨a, he, hvv⟩ := pureS_sound hv hp
    exact fin_stay hv hz hK he hvv hw
  · exact hw.elim

theorem wpOp_sound (hv : Val t H t' h) (hz : z ≤ H.length) {o : MOp} (hw : wpOp M z W hi o t H K) (hK : Posts z W H h t' K Q) : Runs M (.op o t' Q) h := by
  cases o with
  | alloc => exact op_alloc hv hz hK hw
  | box => exact op_box hv hz hK hw
  | buildSlice => exact op_buildSlice hv hz hK hw
  | load => exact op_load hv hz hK hw
  | store => exact op_store hv hz hK hw
  | indexAddr => exact op_indexAddr hv hz hK hw
  | indexArr => exact op_indexArr hv hz hK hw
  | indexStr => exact op_indexStr hv hz hK hw
  | indexAgg => exact op_indexAgg hv hz hK hw
  | sliceStr => exact op_sliceStr hv hz hK hw
  | sliceSlc => exact op_sliceSlc hv hz hK hw
  | bin => exact op_bin hv hz hK hw
  | mkMap => exact op_mkMap hv hz hK hw
  | mkSlice => exact op_mkSlice hv hz hK hw
  | lookup => exact op_lookup hv hz hK hw
  | mapUpdate => exact op_mapUpdate hv hz hK hw
  | mapDelete => exact op_mapDelete hv hz hK hw
  | lenMap => exact op_lenMap hv hz hK hw
  | append => exact op_append hv hz hK hw
  | appendStr => exact op_appendStr hv hz hK hw
  | rangeStr => exact op_rangeStr hv hz hK hw
  | call => exact op_call hv hz hK hw
  | _ => simp only [wpOp] at hw; exact op_pure hv hz hK hw
end
end Go.Abs
