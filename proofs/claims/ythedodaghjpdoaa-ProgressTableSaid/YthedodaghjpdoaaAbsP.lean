/- append, on the machine. -/
import Derived.Test.YthedodaghjpdoaaAbsH
import Derived.Laws.CopyRow
set_option linter.unusedVariables false
set_option linter.unusedSimpArgs false
namespace Go.Abs
open Go.RowKit
section
variable {P : Program} {o : Oper} {a : Act} {m : Emb} {h : Heap} {base : Nat} {w0 w : World} {t : Tmps} {v : AV} {h' : Heap}

/-- A new row of cells, of which the first are told. -/
theorem push_row (k : HR m h base w0 w) {c : List AV} {cs : Array Value} {ty : TypeId} {es : Nat} (hl : c.length ≤ cs.size) (hv : VRs m c (cs.toList.take c.length)) (hc : ∀ x ∈ cs.toList.take c.length, isCell x = true) :
    ∃ m', m.le m' ∧ HR m' (h ++ [.arr c es false]) base w0 (w.alloc (.cells cs ty)) ∧ m' h.length = some ⟨w.heap.size, 0, cs.size, es⟩ := by
  have hle : m.le (m.upd h.length ⟨w.heap.size, 0, cs.size, es⟩) := Emb.le_upd k.none_of_len
  refine ⟨m.upd h.length ⟨w.heap.size, 0, cs.size, es⟩, hle, k.push _ _ _ _ _ ?_, Emb.upd_same _ _ _⟩
  refine ⟨_, Emb.upd_same _ _ _, rfl, cs, ty, (0, 0), ?_, rfl, ?_, fun i v hi => ?_, fun _ => ⟨rfl, k.size⟩, fun hf => by cases hf⟩
  · show (w.heap.push _)[w.heap.size]? = _
    simp
  · show 0 + c.length ≤ cs.size
    omega
  · obtain ⟨cv, h1, h2⟩ := hv.get i v hi
    refine ⟨cv, ?_, VR.mono hle _ _ h2, hc cv (List.mem_of_getElem? h1)⟩
    show cs[0 + i]? = _
    rw [List.getElem?_take] at h1
    split at h1
    · rw [Nat.zero_add, ← Array.getElem?_toList]
      exact h1
    · cases h1

/-- A block that no living object owns gets a new object, and new cells. -/
theorem HR.adopt {w' : World} (k : HR m h base w0 w) (o : AObj) (g off sz es : Nat) (hfree : ∀ (x : Nat) (ox : AObj) (ex : Ent), h[x]? = some ox → ox.rw = true → m x = some ex → ex.g ≠ g) (hbase : base ≤ g) (hg : g < w.heap.size)
    (hsz : w'.heap.size = w.heap.size) (hos : w'.os = w.os) (ht : w'.tape = w.tape) (hout : w'.output = w.output) (hother : ∀ x, x ≠ g → w'.heap[x]? = w.heap[x]?)
    (ho : ORel (m.upd h.length ⟨g, off, sz, es⟩) base h.length w' o) : HR (m.upd h.length ⟨g, off, sz, es⟩) (h ++ [o]) base w0 w' := by
  have hle : m.le (m.upd h.length ⟨g, off, sz, es⟩) := Emb.le_upd k.none_of_len
  have roo : ∀ (x : Nat) (ox : AObj) (ex : Ent), h[x]? = some ox → m x = some ex → ox ≠ .dead → ex.g ≠ g := by
    intro x ox ex hx hm hd
    by_cases hr : ox.rw = true
    · exact hfree x ox ex hx hr hm
    · cases ox with
      | dead => exact absurd rfl hd
      | map _ => exact absurd rfl hr
      | iter _ _ => exact absurd rfl hr
      | arr c es ro =>
        have hro : ro = true := by simpa [AObj.rw] using hr
        obtain ⟨e', he', _, cc, t, fr, _, _, _, _, _, h7⟩ := k.obj x _ hx
        rw [hm] at he'
        cases he'
        have := h7 hro
        omega
  have low : ∀ (b : Nat) (o' : AObj) (e' : Ent), (h ++ [o])[b]? = some o' → (m.upd h.length ⟨g, off, sz, es⟩) b = some e' → b ≠ h.length → h[b]? = some o' ∧ m b = some e' := by
    intro b o' e' hb he hn
    rw [Emb.upd_ne _ _ hn] at he
    have := (k.lt b e' he).2
    rw [List.getElem?_append_left this] at hb
    exact ⟨hb, he⟩
  refine ⟨k.below.trans ⟨hos, ht, hout, by omega, fun i hi => hother i (by omega)⟩, by have := k.size; omega, fun b o' hb => ?_, fun b e he => ?_, fun b1 b2 o1 o2 e1 e2 h1 h2 r1 r2 m1 m2 hne => ?_⟩
  · rw [List.getElem?_append] at hb
    split at hb
    · rename_i hlt
      by_cases hd : o' = .dead
      · subst hd; trivial
      · exact (k.obj b o' hb).mono hle fun e he => hother _ (roo b o' e hb he hd)
    · rename_i hge
      have : b = h.length := by
        have : b - h.length < [o].length := by
          rcases Nat.lt_or_ge (b - h.length) [o].length with h' | h'
          · exact h'
          · rw [List.getElem?_eq_none h'] at hb; cases hb
        simp at this; omega
      subst this
      simp at hb; subst hb
      exact ho
  · by_cases hb : b = h.length
    · subst hb
      rw [Emb.upd_same] at he
      cases he
      simp
      omega
    · rw [Emb.upd_ne _ _ hb] at he
      have := k.lt b e he
      simp; omega
  · by_cases c1 : b1 = h.length
    · by_cases c2 : b2 = h.length
      · omega
      · obtain ⟨p2, q2⟩ := low b2 o2 e2 h2 m2 c2
        subst c1
        rw [Emb.upd_same] at m1
        cases m1
        exact Ne.symm (hfree b2 o2 e2 p2 r2 q2)
    · by_cases c2 : b2 = h.length
      · obtain ⟨p1, q1⟩ := low b1 o1 e1 h1 m1 c1
        subst c2
        rw [Emb.upd_same] at m2
        cases m2
        exact hfree b1 o1 e1 p1 r1 q1
      · obtain ⟨p1, q1⟩ := low b1 o1 e1 h1 m1 c1
        obtain ⟨p2, q2⟩ := low b2 o2 e2 h2 m2 c2
        exact k.uniq b1 b2 o1 o2 e1 e2 p1 p2 r1 r2 q1 q2 hne

theorem append_eq {args : Array Operand} {argTypes : Array TypeId} {ty u e e2 rt : TypeId} {x y : Value} {vals : Array Value} (h0 : argTypes[0]? = some ty) (h1 : argTypes[1]? = some u) (ht : P.underlying ty = some (.slice e)) (hu : P.underlying u = some (.slice e2)) (hx : vals[0]? = some x) (hy : vals[1]? = some y) :
    (Builtin.append_ argTypes rt vals).run P w = (Builtin.append_ #[ty, ty] rt #[x, y]).run P w := by
  cases x <;> simp [Builtin.append_, h0, h1, hx, hy, run_underlying ht, run_underlying hu]

/-- The cells that are appended. -/
theorem rowOf_sound (k : HR m h base w0 w) {es : Nat} {x : AV} {n : Nat} {new : List AV} {cx : Value} (hn : lenOf x = some n) (hr : rowOf h es x = some new) (h0 : n ≠ 0) (hx : VR m x cx) :
    ∃ ad c cs, cx = .slice (some ad) n c ∧ cs.length = n * es ∧ (∀ j u, cs[j]? = some u → w.cell? (ad.add j) = some u) ∧ VRs m new cs ∧ (∀ c ∈ cs, isCell c = true) := by
  cases x <;> simp only [lenOf, Option.some.injEq, reduceCtorEq] at hn
  · rename_i b off n'
    subst hn
    simp only [rowOf] at hr
    obtain ⟨e, cs, he, hlen, hc, hv, hk⟩ := rdCells_sound k hr
    simp only [VR] at hx
    obtain ⟨e', he', hx⟩ := hx
    rw [he] at he'
    cases he'
    rcases hx with ⟨c, rfl, _, _⟩ | ⟨h1, _⟩
    · exact ⟨_, c, cs, rfl, hlen, fun j u hj => by rw [add_at]; exact hc j u hj, hv, hk⟩
    · exact absurd h1 h0
  · exact absurd hn.symm h0

theorem grown_sound (k : HR m h base w0 w) {es bytes : Nat} {ty rt e : TypeId} {i : TypeInfo} {z : Value} (ht : P.underlying ty = some (.slice e)) (hi : P.info? e = some i) (hz : i.zero = some z) (hes : i.size = es) (hby : i.bytes = bytes) (hzs : z.cells.size = es) (hpos : 0 < es) (hbp : 0 < bytes)
    {hb : Heap} (hkb : HR m hb base w0 w) {old new : List AV} {l n cap c : Nat} {olds news : List Value} {ad0 : Option Addr} {ad : Addr} (hnone : ad0 = none → l = 0 ∧ cap = 0)
    (hol : olds.length = l * es) (ho : ∀ b, ad0 = some b → ∀ j u, olds[j]? = some u → w.cell? (b.add j) = some u) (hov : VRs m old olds) (hoc : ∀ c ∈ olds, isCell c = true)
    (hnl : news.length = n * es) (hnc : ∀ j u, news[j]? = some u → w.cell? (ad.add j) = some u) (hnv : VRs m new news) (hnk : ∀ c ∈ news, isCell c = true)
    (hgrow : cap < l + n) (hbytes : (l + n) * bytes ≤ 140737488355328) :
    ∃ m' w' cv, m.le m' ∧ HR m' (hb ++ [.arr (old ++ new) es false]) base w0 w' ∧ (Builtin.append_ #[ty, ty] rt #[.slice ad0 l cap, .slice (some ad) n c]).run P w = .ok cv w' ∧ VR m' (.slice hb.length 0 (l + n)) cv := by
  subst hes hby
  have hsum : l + n ≤ 140737488355328 := Nat.le_trans (Nat.le_mul_of_pos_right _ hbp) hbytes
  have hlen : (olds ++ news).length = (l + n) * i.size := by rw [List.length_append, hol, hnl, Nat.add_mul]
  have hvv : VRs m (old ++ new) (olds ++ news) := hov.append hnv
  have hcc : ∀ x ∈ olds ++ news, isCell x = true := fun x hx => (List.mem_append.1 hx).elim (hoc x) (hnk x)
  have hab : (old ++ new).length = (olds ++ news).length := hvv.length.symm
  have hge := grownCap_ge w (l + n) cap e
  have key : ∀ cells : Array Value, cells = olds.toArray ++ news.toArray ++ Builtin.zeroCells z.cells (grownCap w (l + n) cap e - (l + n)) →
      cells.size = grownCap w (l + n) cap e * i.size ∧ cells.toList.take (old ++ new).length = olds ++ news := by
    rintro cells rfl
    constructor
    · simp only [Array.size_append, List.size_toArray, size_zeroCells, hzs, hol, hnl, ← Nat.add_mul]
      congr 1
      omega
    · simp only [Array.toList_append, List.append_assoc]
      rw [← List.append_assoc, hab]
      exact List.take_left
  obtain ⟨k1, k2⟩ := key _ rfl
  have hle : (old ++ new).length ≤ (olds.toArray ++ news.toArray ++ Builtin.zeroCells z.cells (grownCap w (l + n) cap e - (l + n))).size := by
    rw [hab, hlen, k1]
    exact Nat.mul_le_mul_right _ hge
  obtain ⟨m', hm, hk', hent⟩ := push_row (hkb.drewN) (ty := e) (es := i.size) hle (by rw [k2]; exact hvv) (by rw [k2]; exact hcc)
  refine ⟨m', _, .slice (some ⟨w.heap.size, 0, none⟩) (l + n) (grownCap w (l + n) cap e), hm, hk', ?_, ?_⟩
  · cases ad0 with
    | none =>
      obtain ⟨rfl, rfl⟩ := hnone rfl
      obtain rfl : olds = [] := List.eq_nil_of_length_eq_zero (by simpa using hol)
      rw [Nat.zero_add] at hbytes
      have := run_append_nil (P := P) (w := w) ty rt e i z ht hi hz ad n c news hnl hnc (by omega) (by omega) (by omega)
      simpa using this
    | some b => exact run_append_grow (P := P) (w := w) ty rt e i z ht hi hz b l cap olds hol (ho b rfl) ad n c news hnl hnc hgrow (by omega) (growslice_fits hgrow hbytes)
  · simp only [VR]
    refine ⟨_, hent, .inl ⟨_, rfl, hge, ?_⟩⟩
    show 0 + 0 + _ * i.size ≤ (olds.toArray ++ news.toArray ++ Builtin.zeroCells z.cells (grownCap w (l + n) cap e - (l + n))).size
    rw [k1]
    exact Nat.le_of_eq (by omega)

theorem room_sound (k : HR m h base w0 w) {es : Nat} {ty rt e0 : TypeId} {i : TypeInfo} (ht : P.underlying ty = some (.slice e0)) (hi : P.info? e0 = some i) (hes : i.size = es)
    {b off l n cap c' : Nat} {c new : List AV} {e : Ent} {news : List Value} {ad : Addr} (hb : h[b]? = some (.arr c es false)) (hcl : off + l * es ≤ c.length) (he : m b = some e) (hcap : e.off + off + cap * es ≤ e.sz) (hroom : l + n ≤ cap)
    (hnl : news.length = n * es) (hnc : ∀ j u, news[j]? = some u → w.cell? (ad.add j) = some u) (hnv : VRs m new news) (hnk : ∀ c ∈ news, isCell c = true) :
    ∃ m' w' cv, m.le m' ∧ HR m' (h.set b .dead ++ [.arr ((c.drop off).take (l * es) ++ new) es false]) base w0 w' ∧ (Builtin.append_ #[ty, ty] rt #[.slice (some ⟨e.g, e.off + off, none⟩) l cap, .slice (some ad) n c']).run P w = .ok cv w' ∧ VR m' (.slice (h.set b .dead).length 0 (l + n)) cv := by
  subst hes
  obtain ⟨e', he', hes, cc, t, fr, hg, hsz, hoff, hcell, hrw, _⟩ := k.arr hb
  rw [he] at he'
  cases he'
  obtain ⟨rfl, hbase⟩ := hrw rfl
  have hmul : (l + n) * i.size = l * i.size + n * i.size := Nat.add_mul _ _ _
  have hmul2 : (l + n) * i.size ≤ cap * i.size := Nat.mul_le_mul_right _ hroom
  have hst := run_storeCells_at P e.g (e.off + off + l * i.size) t news 0 cc w hg (by omega) (fun v hv => oneCell_of (hnk v hv))
  have hfc := run_firstCells_some (P := P) w i.size n ad n c' news hnl hnc
  have hnn := hnv.length
  have kb := k.kill b
  refine ⟨m.upd (h.set b .dead).length ⟨e.g, e.off + off, e.sz, i.size⟩, w.setRow e.g (cc.toList.take (e.off + off + l * i.size + 0) ++ news ++ cc.toList.drop (e.off + off + l * i.size + 0 + news.length)).toArray, .slice (some ⟨e.g, e.off + off, none⟩) (l + n) cap, Emb.le_upd kb.none_of_len,
    kb.adopt (.arr ((c.drop off).take (l * i.size) ++ new) i.size false) e.g (e.off + off) e.sz i.size (fun x ox ex hx hr hm => ?_) hbase (k.lt b e he).1 (by simp [World.setRow]) rfl rfl rfl (fun x hx => setRow_other _ _ _ _ hx) ?_, ?_, ?_⟩
  · rw [List.getElem?_set] at hx
    by_cases hxb : b = x
    · subst hxb
      rw [if_pos rfl] at hx
      split at hx
      · cases hx; cases hr
      · cases hx
    · rw [if_neg hxb] at hx
      exact k.uniq x b ox _ ex e hx hb hr rfl hm he (Ne.symm hxb)
  · refine ⟨_, Emb.upd_same _ _ _, rfl, _, t, (0, 0), setRow_same _ _ _ _ _ _ hg, ?_, ?_, fun j v hj => ?_, fun _ => ⟨rfl, hbase⟩, fun hf => by cases hf⟩
    · simp; omega
    · simp; omega
    · have hle : m.le (m.upd (h.set b .dead).length ⟨e.g, e.off + off, e.sz, i.size⟩) := Emb.le_upd kb.none_of_len
      simp only [List.getElem?_toArray, Nat.add_zero]
      rw [List.getElem?_append] at hj
      split at hj
      · rename_i hlt
        simp only [List.length_take, List.length_drop] at hlt
        rw [List.getElem?_take, if_pos (by omega), List.getElem?_drop] at hj
        obtain ⟨cv, h1, h2, h3⟩ := hcell _ _ hj
        refine ⟨cv, ?_, VR.mono hle _ _ h2, h3⟩
        rw [List.append_assoc, List.getElem?_append_left (by simp; omega), List.getElem?_take, if_pos (by omega), Array.getElem?_toList]
        rw [← h1]
        congr 1
        omega
      · rename_i hge
        simp only [List.length_take, List.length_drop] at hge hj
        obtain ⟨cv, h1, h2⟩ := hnv.get _ _ hj
        refine ⟨cv, ?_, VR.mono hle _ _ h2, hnk cv (List.mem_of_getElem? h1)⟩
        have hlt2 := (List.getElem?_eq_some_iff.1 h1).1
        rw [List.append_assoc, List.getElem?_append_right (by simp; omega), List.getElem?_append_left (by simp; omega)]
        rw [← h1]
        congr 1
        simp
        omega
  · simp only [Nat.add_zero] at hst
    simp [Builtin.append_, run_underlying ht, Go.sizeOf, typeInfo, hi, Builtin.lenOf, hroom, hfc, Addr.add_lit, hst]
  · simp only [VR]
    exact ⟨_, Emb.upd_same _ _ _, .inl ⟨cap, rfl, hroom, by simpa using hcap⟩⟩

theorem call_append {b : Array Operand} {argTypes : Array TypeId} {rt : Value} {w' : World} (ho : o.op = .call { callee := .builtin .append, args := b, argTypes }) (hr : (Builtin.append_ argTypes o.type (b.map a.eval)).run P w = .ok rt w') : (execOp a.eval o).run P w = .ok (.value rt) w' := by
  obtain ⟨cs, hrun⟩ := callB_run (P := P) (w := w) (a := a) ho
  rw [hrun]
  simp [builtin, hr]

theorem append_none {ty rt e : TypeId} {i : TypeInfo} (ht : P.underlying ty = some (.slice e)) (hi : P.info? e = some i) {s x : AV} {cs cx : Value} {l : Nat} (hl : lenOf s = some l) (hn : lenOf x = some 0) (vs : VR m s cs) (vx : VR m x cx) :
    (Builtin.append_ #[ty, ty] rt #[cs, cx]).run P w = .ok cs w := by
  have hfc : (Builtin.firstCells i.size 0 cx).run P w = .ok #[] w ∧ ∃ ax c, cx = .slice ax 0 c := by
    cases x <;> simp only [lenOf, Option.some.injEq, reduceCtorEq] at hn
    · rename_i b off n
      subst hn
      simp only [VR] at vx
      obtain ⟨e, he, ⟨c, rfl, _⟩ | ⟨_, a', rfl⟩⟩ := vx
      · have := run_firstCells_some (P := P) w i.size 0 ⟨e.g, e.off + off, none⟩ 0 c [] (by simp) (by simp)
        exact ⟨by simpa using this, _, _, rfl⟩
      · have := run_firstCells_some (P := P) w i.size 0 a' 0 0 [] (by simp) (by simp)
        exact ⟨by simpa using this, _, _, rfl⟩
    · simp only [VR] at vx
      subst vx
      exact ⟨by simp [Builtin.firstCells], _, _, rfl⟩
  obtain ⟨hfc, ax, c, rfl⟩ := hfc
  have hsl : ∃ as' cp, cs = .slice as' l cp ∧ l ≤ cp := by
    cases s <;> simp only [lenOf, Option.some.injEq, reduceCtorEq] at hl
    · subst hl
      simp only [VR] at vs
      obtain ⟨e, he, ⟨c, rfl, hc, _⟩ | ⟨h0, a', rfl⟩⟩ := vs
      · exact ⟨_, c, rfl, hc⟩
      · subst h0
        exact ⟨_, 0, rfl, Nat.le_refl _⟩
    · subst hl
      simp only [VR] at vs
      subst vs
      exact ⟨_, 0, rfl, Nat.le_refl _⟩
  obtain ⟨as', cp, rfl, hcp⟩ := hsl
  cases as' <;> simp [Builtin.append_, run_underlying ht, Go.sizeOf, typeInfo, hi, Builtin.lenOf, hcp, hfc, storeCells]

theorem sound_append {args : Array Operand} {argTypes : Array TypeId} {ty u e e2 : TypeId} {i : TypeInfo} {z : Value} {ms mx : MO} (ho : o.op = .call { callee := .builtin .append, args, argTypes }) (h0 : argTypes[0]? = some ty) (h1 : argTypes[1]? = some u)
    (hty : P.underlying ty = some (.slice e)) (hu : P.underlying u = some (.slice e2)) (hi : P.info? e = some i) (hsz : ¬ (i.size = 0 ∨ i.bytes = 0)) (hz : i.zero = some z) (hzs : z.cells.size = i.size)
    (hs : args[0]?.bind compO = some ms) (hx : args[1]?.bind compO = some mx) (ht : TR m t a.tmps) (k : HR m h base w0 w) (he : evalOp t h (.append i.size i.bytes ms mx) = some (v, h')) : OpOK P o a m h' base w0 w v := by
  obtain ⟨cs, es1, vs⟩ := args_get hs ht
  obtain ⟨cx, ex1, vx⟩ := args_get hx ht
  have heq := append_eq (P := P) (w := w) (args := args) (rt := o.type) h0 h1 hty hu es1 ex1
  simp only [evalOp] at he
  split at he
  · rename_i n new hn hr
    unfold appendAV at he
    split at he
    · rename_i l old hA hl htk
      by_cases hn0 : n = 0
      · subst hn0
        have hrun := append_none (m := m) (w := w) (rt := o.type) hty hi hl hn vs vx
        rw [if_pos rfl] at he
        refine ⟨m, w, Emb.le.refl m, ?_, .inl ⟨cs, call_append ho (heq.trans hrun), ?_⟩⟩
        · split at he <;> cases he <;> exact k
        · split at he
          · rename_i hss
            cases he
            rw [hss] at vs
            exact vs
          · rename_i hss
            cases he
            rw [hss] at vs
            exact vs
          · cases he
      · rw [if_neg hn0] at he
        split at he
        · rename_i hbytes
          cases he
          obtain ⟨ad, c', news, rfl, hnl, hnc, hnv, hnk⟩ := rowOf_sound k hn hr hn0 vx
          have hpos : 0 < i.size := by omega
          have hbp : 0 < i.bytes := by omega
          generalize ms.eval t = S at hl htk vs
          cases S <;> simp only [lenOf, Option.some.injEq, reduceCtorEq] at hl
          · rename_i b off k'
            subst hl
            simp only [takeRow] at htk
            split at htk
            · rename_i c es' hb
              split at htk
              · rename_i hcond
                obtain ⟨rfl, hcl⟩ := hcond
                cases htk
                simp only [VR] at vs
                obtain ⟨e', hm, hcase⟩ := vs
                have hrd : rdCells h b off (k' * i.size) = some ((c.drop off).take (k' * i.size)) := by simp [rdCells, hb, hcl]
                obtain ⟨e1, olds, he1, hol, ho1, hov, hoc⟩ := rdCells_sound k hrd
                rw [hm] at he1
                cases he1
                obtain ⟨e2', he2, hes, _⟩ := k.arr hb
                rw [hm] at he2
                cases he2
                rcases hcase with ⟨cp, rfl, hlc, hfit⟩ | ⟨rfl, a', rfl⟩
                · by_cases hroom : k' + n ≤ cp
                  · obtain ⟨m', w', cv, h1', h2', h3', h4'⟩ := room_sound (P := P) (rt := o.type) (c' := c') k hty hi rfl hb hcl hm (by rw [← hes]; exact hfit) hroom hnl hnc hnv hnk
                    exact ⟨m', w', h1', h2', .inl ⟨cv, call_append ho (heq.trans h3'), h4'⟩⟩
                  · obtain ⟨m', w', cv, h1', h2', h3', h4'⟩ := grown_sound (P := P) (rt := o.type) (c := c') k hty hi hz rfl rfl hzs hpos hbp (k.kill b) (ad0 := some ⟨e'.g, e'.off + off, none⟩) (cap := cp) (fun hf => by cases hf) hol (fun b' hb' j u' hj => by cases hb'; rw [add_at]; exact ho1 j u' hj) hov hoc hnl hnc hnv hnk (by omega) hbytes
                    exact ⟨m', w', h1', h2', .inl ⟨cv, call_append ho (heq.trans h3'), h4'⟩⟩
                · obtain ⟨m', w', cv, h1', h2', h3', h4'⟩ := grown_sound (P := P) (rt := o.type) (c := c') k hty hi hz rfl rfl hzs hpos hbp (k.kill b) (ad0 := some a') (cap := 0) (l := 0) (olds := olds) (fun hf => by cases hf) hol (fun b' hb' j u' hj => by
                    have : olds.length = 0 := by rw [hol]; simp
                    rw [List.eq_nil_of_length_eq_zero this] at hj
                    simp at hj) hov hoc hnl hnc hnv hnk (by omega) hbytes
                  exact ⟨m', w', h1', h2', .inl ⟨cv, call_append ho (heq.trans h3'), h4'⟩⟩
              · cases htk
            · cases htk
          · subst hl
            simp only [takeRow, Option.some.injEq, Prod.mk.injEq] at htk
            obtain ⟨rfl, rfl⟩ := htk
            simp only [VR] at vs
            subst vs
            obtain ⟨m', w', cv, h1', h2', h3', h4'⟩ := grown_sound (P := P) (rt := o.type) (c := c') k hty hi hz rfl rfl hzs hpos hbp k (ad0 := none) (cap := 0) (l := 0) (old := []) (olds := []) (fun _ => ⟨rfl, rfl⟩) (by simp) (fun b' hb' => by cases hb') (by simp [VRs]) (by simp) hnl hnc hnv hnk (by omega) hbytes
            exact ⟨m', w', h1', h2', .inl ⟨cv, call_append ho (heq.trans h3'), h4'⟩⟩
        · cases he
    · cases he
  · cases he
end
end Go.Abs
