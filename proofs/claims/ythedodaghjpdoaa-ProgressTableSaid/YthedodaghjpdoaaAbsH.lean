/- More operations: literals, lengths, iterators, the smaller and the greater of two. -/
import Derived.Test.YthedodaghjpdoaaAbsG
set_option linter.unusedVariables false
set_option linter.unusedSimpArgs false
namespace Go.Abs
open Go.RowKit
section
variable {P : Program} {o : Oper} {a : Act} {m : Emb} {h : Heap} {base : Nat} {w0 w : World} {t : Tmps} {v : AV} {h' : Heap}

theorem setCells_VRs : ∀ {vs : List AV} {cvs : List Value} {c : List AV} {cc : List Value} {off : Nat}, VRs m c cc → VRs m vs cvs → VRs m (setCells c off vs) (setCells cc off cvs)
  | [], cvs, c, cc, off, hc, hv => by
    simp only [VRs] at hv
    subst hv
    exact hc
  | v :: vs, cvs, c, cc, off, hc, hv => by
    simp only [VRs] at hv
    obtain ⟨u, us, rfl, hu, hus⟩ := hv
    simp only [setCells]
    refine setCells_VRs (VRs.of_get (by simp [hc.length]) fun i x hx => ?_) hus
    rw [List.getElem?_set] at hx ⊢
    split at hx
    · rename_i hi
      subst hi
      rw [if_pos rfl]
      split at hx
      · rename_i hlt
        cases hx
        have := hc.length
        rw [if_pos (by omega)]
        exact ⟨u, rfl, hu⟩
      · cases hx
    · rename_i hi
      rw [if_neg hi]
      exact hc.get i x hx
theorem setCells_mem {α : Type} {p : α → Prop} : ∀ (vs c : List α) (off : Nat), (∀ x ∈ c, p x) → (∀ x ∈ vs, p x) → ∀ x ∈ setCells c off vs, p x
  | [], c, off, hc, hv => hc
  | v :: vs, c, off, hc, hv => by
    simp only [setCells]
    refine setCells_mem vs _ _ (fun x hx => ?_) (fun x hx => hv x (List.mem_cons_of_mem _ hx))
    rcases List.mem_or_eq_of_mem_set hx with h1 | h1
    · exact hc x h1
    · subst h1; exact hv x List.mem_cons_self

theorem foldl_set (off : Nat) : ∀ (vs : List Value) (j : Nat) (cells : Array Value), ((vs.zipIdx j).foldl (fun cs (p : Value × Nat) => cs.setIfInBounds (off + p.2) p.1) cells).toList = setCells cells.toList (off + j) vs
  | [], j, cells => rfl
  | v :: vs, j, cells => by
    simp only [List.zipIdx_cons, List.foldl_cons, setCells]
    rw [foldl_set off vs (j + 1)]
    simp [Nat.add_assoc]

theorem compParts_sound {place : Nat → Option (Nat × Nat)} (ht : TR m t a.tmps) : ∀ {ps : List (Nat × Operand)} {mps : List (Nat × Nat × MO)}, compParts place ps = some mps →
    ∀ {z l : List AV} {zc : Array Value}, VRs m z zc.toList → (∀ c ∈ zc.toList, isCell c = true) → fill z (mps.map fun p => (p.1, p.2.1, p.2.2.eval t)) = some l →
    ∃ cc, Instr.fill place zc (ps.map fun p => (p.1, a.eval p.2)) = some cc ∧ VRs m l cc.toList ∧ (∀ c ∈ cc.toList, isCell c = true)
  | [], mps, hp, z, l, zc, hz, hc, hf => by
    simp [compParts, allM] at hp
    subst hp
    simp [fill] at hf
    subst hf
    exact ⟨zc, by simp [Instr.fill], hz, hc⟩
  | p :: ps, mps, hp, z, l, zc, hz, hc, hf => by
    simp only [compParts, allM] at hp
    split at hp
    · rename_i b bs hb hbs
      cases hp
      split at hb
      · rename_i off sz mx hpl hmx
        cases hb
        have hv := compO_sound hmx ht
        simp only [List.map_cons, fill] at hf
        split at hf
        · rename_i cs hcs
          split at hf
          · rename_i hlen
            obtain ⟨hvv, hcc⟩ := cells_sound hcs hv
            have hl := hvv.length
            have hzl := hz.length
            have hsz : (a.eval p.2).cells.size = sz := by
              have : (a.eval p.2).cells.toList.length = (a.eval p.2).cells.size := by simp
              omega
            have e1 : ((a.eval p.2).cells.zipIdx.foldl (fun cs (c, j) => cs.setIfInBounds (off + j) c) zc).toList = setCells zc.toList off (a.eval p.2).cells.toList := by
              rw [← Array.foldl_toList, Array.toList_zipIdx]
              exact foldl_set off _ 0 zc
            obtain ⟨cc, h1, h2, h3⟩ := compParts_sound ht (place := place) hbs (z := setCells z off cs) (l := l) (zc := (a.eval p.2).cells.zipIdx.foldl (fun cs (c, j) => cs.setIfInBounds (off + j) c) zc)
              (by rw [e1]; exact setCells_VRs hz hvv) (by rw [e1]; exact setCells_mem _ _ _ hc hcc) hf
            refine ⟨cc, ?_, h2, h3⟩
            simp only [List.map_cons, Instr.fill, hpl]
            rw [if_neg]
            · exact h1
            · simp only [Bool.or_eq_true, decide_eq_true_eq, not_or, Decidable.not_not, Nat.not_lt]
              have : zc.toList.length = zc.size := by simp
              exact ⟨hsz, by omega⟩
          · cases hf
        · cases hf
      · cases hb
    · cases hp

theorem places_run {fs : List Field} {pl : List (Nat × Nat)} (hp : structPlaces P fs = some pl) : (fs.mapM fun (f : Field) => do pure (f.offset, ← Go.sizeOf f.type) : Sem (List (Nat × Nat))).run P w = .ok pl w := by
  induction fs generalizing pl with
  | nil => simp [structPlaces, allM] at hp; subst hp; simp
  | cons f fs ih =>
    simp only [structPlaces, allM] at hp
    split at hp
    · rename_i b bs hb hbs
      cases hp
      simp only [Option.map_eq_some_iff] at hb
      obtain ⟨s, hs, rfl⟩ := hb
      simp only [sizeT, Option.map_eq_some_iff] at hs
      obtain ⟨ti, hti, rfl⟩ := hs
      have := ih (pl := bs) hbs
      simp only [bind_pure_comp, Sem.run_map] at this ⊢
      simp [List.mapM_cons, sizeOf_run hti, this]
    · cases hp

theorem sound_build {ty : TypeId} {fs : Array Field} {i : TypeInfo} {z : Value} {pl : List (Nat × Nat)} {ps : Array (Nat × Operand)} {mz : List AV} {mps : List (Nat × Nat × MO)} (ho : o.op = .build ty ps) (hu : P.underlying ty = some (.struct fs)) (hi : P.info? ty = some i) (hz : i.zero = some z)
    (hpl : structPlaces P fs.toList = some pl) (hmz : toCells z.cells.toList = some mz) (hps : compParts (pl[·]?) ps.toList = some mps) (ht : TR m t a.tmps)
    (k : HR m h base w0 w) (he : evalOp t h (.build mz mps) = some (v, h')) : OpOK P o a m h' base w0 w v := by
  simp only [evalOp, Option.map_eq_some_iff, Prod.mk.injEq] at he
  obtain ⟨l, hf, rfl, rfl⟩ := he
  obtain ⟨hv, hc⟩ := toCells_sound (m := m) hmz
  obtain ⟨cc, h1, h2, h3⟩ := compParts_sound ht hps hv hc hf
  refine OpOK.same k (cv := .agg cc) ?_ (by simp only [VR]; exact ⟨cc, rfl, h2, h3⟩)
  have hpr := places_run (w := w) hpl
  have hm : (fs.mapM fun (f : Field) => do pure (f.offset, ← Go.sizeOf f.type) : Sem (Array (Nat × Nat))).run P w = .ok pl.toArray w := by
    rw [Array.mapM_eq_mapM_toList]
    simp only [Sem.run_map, hpr]
    rfl
  have e1 : (ps.map fun (x : Nat × Operand) => (x.1, a.eval x.2)).toList = ps.toList.map fun p => (p.1, a.eval p.2) := by simp
  have h1' : Instr.fill (fun x => pl.toArray[x]?) z.cells (ps.map fun (x : Nat × Operand) => (x.1, a.eval x.2)).toList = some cc := by
    rw [e1]
    simpa using h1
  simp only [execOp, ho, Instr.build, Sem.run_bind, zeroValue_run hi hz, Result.andThen_ok, run_underlying hu, hm, h1', Sem.run_pure]

theorem sound_buildArr {ty e : TypeId} {n s : Nat} {i : TypeInfo} {z : Value} {ps : Array (Nat × Operand)} {mz : List AV} {mps : List (Nat × Nat × MO)} (ho : o.op = .build ty ps) (hu : P.underlying ty = some (.array n e)) (hi : P.info? ty = some i) (hz : i.zero = some z)
    (hs : sizeT P e = some s) (hmz : toCells z.cells.toList = some mz) (hps : compParts (fun j => some (j * s, s)) ps.toList = some mps) (ht : TR m t a.tmps)
    (k : HR m h base w0 w) (he : evalOp t h (.build mz mps) = some (v, h')) : OpOK P o a m h' base w0 w v := by
  simp only [evalOp, Option.map_eq_some_iff, Prod.mk.injEq] at he
  obtain ⟨l, hf, rfl, rfl⟩ := he
  simp only [sizeT, Option.map_eq_some_iff] at hs
  obtain ⟨ti, hti, rfl⟩ := hs
  obtain ⟨hv, hc⟩ := toCells_sound (m := m) hmz
  obtain ⟨cc, h1, h2, h3⟩ := compParts_sound ht hps hv hc hf
  refine OpOK.same k (cv := .agg cc) ?_ (by simp only [VR]; exact ⟨cc, rfl, h2, h3⟩)
  have e1 : (ps.map fun (x : Nat × Operand) => (x.1, a.eval x.2)).toList = ps.toList.map fun p => (p.1, a.eval p.2) := by simp
  rw [← e1] at h1
  simp only [execOp, ho, Instr.build, Sem.run_bind, zeroValue_run hi hz, Result.andThen_ok, run_underlying hu, sizeOf_run hti, h1, Sem.run_pure]

theorem sound_buildSlice {ty e : TypeId} {n : Nat} {i : TypeInfo} {z : Value} {ps : Array (Nat × Operand)} {mz : List AV} {mps : List (Nat × Nat × MO)} (ho : o.op = .buildSlice ty n ps) (hu : P.underlying ty = some (.slice e)) (hi : P.info? e = some i) (hsz : ¬ n * i.size > 2 ^ 24) (hz : i.zero = some z)
    (hmz : toCells ((Array.range (n * i.size)).map (fun j => ((if n * i.size = 0 then #[] else z.cells : Array Value))[j % (if n * i.size = 0 then #[] else z.cells : Array Value).size]!)).toList = some mz)
    (hps : compParts (fun j => some (j * i.size, i.size)) ps.toList = some mps) (ht : TR m t a.tmps)
    (k : HR m h base w0 w) (he : evalOp t h (.buildSlice n i.size mz mps) = some (v, h')) : OpOK P o a m h' base w0 w v := by
  simp only [evalOp, Option.map_eq_some_iff, Prod.mk.injEq] at he
  obtain ⟨l, hf, rfl, rfl⟩ := he
  obtain ⟨hv, hc⟩ := toCells_sound (m := m) hmz
  obtain ⟨cc, h1, h2, h3⟩ := compParts_sound ht hps hv hc hf
  obtain ⟨m', hle, hk, hm⟩ := push_arr k (ty := e) (es := i.size) h2 h3
  have e1 : (ps.map fun (x : Nat × Operand) => (x.1, a.eval x.2)).toList = ps.toList.map fun p => (p.1, a.eval p.2) := by simp
  rw [← e1] at h1
  have hl : l.length = n * i.size := by
    have g := hv.length
    have fl : ∀ (q : List (Nat × Nat × AV)) (z l : List AV), fill z q = some l → l.length = z.length := by
      intro q
      induction q with
      | nil => intro z l hq; simp [fill] at hq; rw [hq]
      | cons x q ih =>
        intro z l hq
        simp only [fill] at hq
        split at hq
        · split at hq
          · rw [ih _ _ hq, setCells_length]
          · cases hq
        · cases hq
    have := fl _ _ _ hf
    simp at g
    omega
  have hcs : cc.size = n * i.size := by
    have := h2.length
    simp at this
    omega
  refine ⟨m', _, hle, hk, .inl ⟨.slice (some ⟨w.heap.size, 0, none⟩) n n, ?_, ?_⟩⟩
  · simp only [execOp, ho, Instr.buildSlice, Sem.run_bind, run_underlying hu, Result.andThen_ok, sizeOf_run hi, if_neg hsz]
    by_cases h0 : n * i.size = 0
    · simp only [h0, if_true] at h1
      simp only [h0, if_true, Sem.run_bind, Sem.run_pure, Result.andThen_ok, h1, newRow, run_newObj, World.alloc_eq]
    · simp only [h0, if_false] at h1
      simp only [h0, if_false, Sem.run_bind, zeroValue_run hi hz, Sem.run_pure, Result.andThen_ok, h1, newRow, run_newObj, World.alloc_eq]
  · simp only [VR]
    exact ⟨_, hm, .inl ⟨n, rfl, Nat.le_refl _, by simp [hcs]⟩⟩

theorem sound_mkMap {ty : TypeId} (ho : o.op = .makeMap ty none) (k : HR m h base w0 w) (he : evalOp t h .mkMap = some (v, h')) : OpOK P o a m h' base w0 w v := by
  simp only [evalOp, Option.some.injEq, Prod.mk.injEq] at he
  obtain ⟨rfl, rfl⟩ := he
  have hle : m.le (m.upd h.length ⟨w.heap.size, 0, 0, 0⟩) := Emb.le_upd k.none_of_len
  refine ⟨_, w.alloc (.map #[] 0), hle, k.push (.map []) (.map #[] 0) 0 0 0 ?_, .inl ⟨.map (some w.heap.size), ?_, ?_⟩⟩
  · refine ⟨_, Emb.upd_same _ _ _, k.size, #[], 0, ?_, by simp [MapR]⟩
    show (w.heap.push _)[w.heap.size]? = _
    simp
  · simp [execOp, ho, Instr.makeMap]
  · simp only [VR]
    exact ⟨_, Emb.upd_same _ _ _, rfl⟩

theorem callB_run {b : Builtin} {args : Array Operand} {argTypes : Array TypeId} (ho : o.op = .call { callee := .builtin b, args, argTypes }) :
    ∃ cs, (execOp a.eval o).run P w = (builtin b argTypes o.type cs (args.map a.eval)).run P w :=
  ⟨_, by simp only [execOp, ho, resolve, invoke, Sem.run_bind, Sem.run_pure, Result.andThen_ok]; rfl⟩

theorem args_get {args : Array Operand} {j : Nat} {mx : MO} (hx : args[j]?.bind compO = some mx) (ht : TR m t a.tmps) : ∃ cv, (args.map a.eval)[j]? = some cv ∧ VR m (mx.eval t) cv := by
  simp only [Option.bind_eq_some_iff] at hx
  obtain ⟨x, hx, hc⟩ := hx
  exact ⟨a.eval x, by simp [hx], compO_sound hc ht⟩

theorem sound_lenStr {args : Array Operand} {argTypes : Array TypeId} {ty : TypeId} {mx : MO} (ho : o.op = .call { callee := .builtin .len, args, argTypes }) (hty : argTypes[0]? = some ty) (hu : P.underlying ty = some .string) (hx : args[0]?.bind compO = some mx) (ht : TR m t a.tmps)
    (k : HR m h base w0 w) (he : evalOp t h (.lenStr mx) = some (v, h')) : OpOK P o a m h' base w0 w v := by
  obtain ⟨cv, h1, vx⟩ := args_get hx ht
  simp only [evalOp] at he
  split at he
  · rename_i s ex
    cases he
    rw [ex] at vx
    simp only [VR] at vx
    refine OpOK.same k (cv := .int .i64 s.length) ?_ (by simp only [VR])
    obtain ⟨cs, hrun⟩ := callB_run (P := P) (w := w) (a := a) ho
    rw [hrun]
    simp [builtin, Builtin.len_, hty, h1, run_underlying hu, vx, goInt, size_ba]
  · cases he

theorem sound_lenSlc {args : Array Operand} {argTypes : Array TypeId} {ty e : TypeId} {mx : MO} (ho : o.op = .call { callee := .builtin .len, args, argTypes }) (hty : argTypes[0]? = some ty) (hu : P.underlying ty = some (.slice e)) (hx : args[0]?.bind compO = some mx) (ht : TR m t a.tmps)
    (k : HR m h base w0 w) (he : evalOp t h (.lenSlc mx) = some (v, h')) : OpOK P o a m h' base w0 w v := by
  obtain ⟨cv, h1, vx⟩ := args_get hx ht
  simp only [evalOp] at he
  split at he
  · rename_i b off n ex
    cases he
    rw [ex] at vx
    simp only [VR] at vx
    obtain ⟨ent, _, ⟨c, vx, _⟩ | ⟨rfl, ad, vx⟩⟩ := vx
    · refine OpOK.same k (cv := .int .i64 n) ?_ (by simp only [VR])
      obtain ⟨cs, hrun⟩ := callB_run (P := P) (w := w) (a := a) ho
      rw [hrun]
      simp [builtin, Builtin.len_, hty, h1, run_underlying hu, vx, goInt]
    · refine OpOK.same k (cv := .int .i64 0) ?_ (by simp [VR])
      obtain ⟨cs, hrun⟩ := callB_run (P := P) (w := w) (a := a) ho
      rw [hrun]
      simp [builtin, Builtin.len_, hty, h1, run_underlying hu, vx, goInt]
  · rename_i ex
    cases he
    rw [ex] at vx
    simp only [VR] at vx
    refine OpOK.same k (cv := .int .i64 0) ?_ (by simp [VR])
    obtain ⟨cs, hrun⟩ := callB_run (P := P) (w := w) (a := a) ho
    rw [hrun]
    simp [builtin, Builtin.len_, hty, h1, run_underlying hu, vx, goInt]
  · cases he

theorem sound_lenConst {args : Array Operand} {argTypes : Array TypeId} {ty e : TypeId} {n : Nat} {mx : MO} (ho : o.op = .call { callee := .builtin .len, args, argTypes }) (hty : argTypes[0]? = some ty) (hu : P.underlying ty = some (.array n e)) (hx : args[0]?.bind compO = some mx) (ht : TR m t a.tmps)
    (k : HR m h base w0 w) (he : evalOp t h (.lenConst n) = some (v, h')) : OpOK P o a m h' base w0 w v := by
  obtain ⟨cv, h1, vx⟩ := args_get hx ht
  simp only [evalOp, Option.some.injEq, Prod.mk.injEq] at he
  obtain ⟨rfl, rfl⟩ := he
  refine OpOK.same k (cv := .int .i64 n) ?_ (by simp only [VR])
  obtain ⟨cs, hrun⟩ := callB_run (P := P) (w := w) (a := a) ho
  rw [hrun]
  simp [builtin, Builtin.len_, hty, h1, run_underlying hu, goInt]

theorem MapR.length : ∀ {l : List (AV × AV)} {es : List MapEntry}, MapR m l es → es.length = l.length
  | [], es, h => by simp only [MapR] at h; subst h; rfl
  | x :: l, es, h => by
    simp only [MapR] at h
    obtain ⟨e, es', rfl, _, _, h⟩ := h
    simp [MapR.length h]

theorem HR.map (k : HR m h base w0 w) {b : Nat} {es : List (AV × AV)} (hb : h[b]? = some (.map es)) : ∃ e, m b = some e ∧ base ≤ e.g ∧ ∃ ents clock, w.heap[e.g]? = some (.map ents clock) ∧ MapR m es ents.toList := k.obj b _ hb

theorem getObj_run {g : Nat} {O : Obj} (hg : w.heap[g]? = some O) (hc : ∀ c t f, O ≠ .cells c t f) : (getObj g).run P w = .ok O w := by
  simp only [getObj, Sem.run, hg]

theorem sound_lenMap {args : Array Operand} {argTypes : Array TypeId} {ty kt vt : TypeId} {mx : MO} (ho : o.op = .call { callee := .builtin .len, args, argTypes }) (hty : argTypes[0]? = some ty) (hu : P.underlying ty = some (.map kt vt)) (hx : args[0]?.bind compO = some mx) (ht : TR m t a.tmps)
    (k : HR m h base w0 w) (he : evalOp t h (.lenMap mx) = some (v, h')) : OpOK P o a m h' base w0 w v := by
  obtain ⟨cv, h1, vx⟩ := args_get hx ht
  simp only [evalOp] at he
  split at he
  · rename_i ex
    cases he
    rw [ex] at vx
    simp only [VR] at vx
    refine OpOK.same k (cv := .int .i64 0) ?_ (by simp [VR])
    obtain ⟨cs, hrun⟩ := callB_run (P := P) (w := w) (a := a) ho
    rw [hrun]
    simp [builtin, Builtin.len_, hty, h1, run_underlying hu, vx, goInt]
  · rename_i r ex
    split at he
    · rename_i es hr
      cases he
      rw [ex] at vx
      simp only [VR] at vx
      obtain ⟨e, hm, vx⟩ := vx
      obtain ⟨e', he', _, ents, clock, hg, hmr⟩ := k.map hr
      rw [hm] at he'
      cases he'
      refine OpOK.same k (cv := .int .i64 es.length) ?_ (by simp only [VR])
      obtain ⟨cs, hrun⟩ := callB_run (P := P) (w := w) (a := a) ho
      rw [hrun]
      have hl := hmr.length
      simp [builtin, Builtin.len_, hty, h1, run_underlying hu, vx, goInt, getObj_run hg]
      have hl2 : ents.size = es.length := by simpa using hl
      omega
    · cases he
  · cases he

theorem two_args {args : Array Operand} {mx my : MO} (hx : args.toList.map compO = [some mx, some my]) : ∃ x y, args.toList = [x, y] ∧ compO x = some mx ∧ compO y = some my := by
  rcases hl : args.toList with _ | ⟨x, _ | ⟨y, _ | ⟨z, r⟩⟩⟩ <;> rw [hl] at hx <;> simp at hx
  exact ⟨x, y, rfl, hx.1, hx.2⟩

theorem sound_min {args : Array Operand} {argTypes : Array TypeId} {mx my : MO} (ho : o.op = .call { callee := .builtin .min, args, argTypes }) (hx : args.toList.map compO = [some mx, some my]) (ht : TR m t a.tmps)
    (k : HR m h base w0 w) (he : evalOp t h (.mini mx my) = some (v, h')) : OpOK P o a m h' base w0 w v := by
  obtain ⟨x, y, hargs, hx⟩ := two_args hx
  · have vx := compO_sound hx.1 ht
    have vy := compO_sound hx.2 ht
    simp only [evalOp] at he
    split at he
    · rename_i k1 n1 k2 n2 e1 e2
      cases he
      rw [e1] at vx
      rw [e2] at vy
      simp only [VR] at vx vy
      refine OpOK.same k (cv := .int k1 (if n2 < n1 then n2 else n1)) ?_ (by simp only [VR])
      obtain ⟨cs, hrun⟩ := callB_run (P := P) (w := w) (a := a) ho
      rw [hrun]
      simp [builtin, Builtin.min_, hargs, vx, vy, Builtin.min2]
    · cases he

theorem sound_max {args : Array Operand} {argTypes : Array TypeId} {mx my : MO} (ho : o.op = .call { callee := .builtin .max, args, argTypes }) (hx : args.toList.map compO = [some mx, some my]) (ht : TR m t a.tmps)
    (k : HR m h base w0 w) (he : evalOp t h (.maxi mx my) = some (v, h')) : OpOK P o a m h' base w0 w v := by
  obtain ⟨x, y, hargs, hx⟩ := two_args hx
  · have vx := compO_sound hx.1 ht
    have vy := compO_sound hx.2 ht
    simp only [evalOp] at he
    split at he
    · rename_i k1 n1 k2 n2 e1 e2
      cases he
      rw [e1] at vx
      rw [e2] at vy
      simp only [VR] at vx vy
      refine OpOK.same k (cv := .int k1 (if n2 > n1 then n2 else n1)) ?_ (by simp only [VR])
      obtain ⟨cs, hrun⟩ := callB_run (P := P) (w := w) (a := a) ho
      rw [hrun]
      simp [builtin, Builtin.max_, hargs, vx, vy, Builtin.max2]
    · cases he

theorem sound_rangeStr {ty : TypeId} {x : Operand} {mx : MO} (ho : o.op = .range ty x) (hu : isStrT P ty = true) (hx : compO x = some mx) (ht : TR m t a.tmps)
    (k : HR m h base w0 w) (he : evalOp t h (.rangeStr mx) = some (v, h')) : OpOK P o a m h' base w0 w v := by
  have vx := compO_sound hx ht
  have hu' : P.underlying ty = some .string := by
    unfold isStrT at hu
    split at hu
    · assumption
    · cases hu
  simp only [evalOp] at he
  split at he
  · rename_i s ex
    cases he
    rw [ex] at vx
    simp only [VR] at vx
    have hle : m.le (m.upd h.length ⟨w.heap.size, 0, 0, 0⟩) := Emb.le_upd k.none_of_len
    refine ⟨_, w.alloc (.stringIter ⟨s.toArray⟩ 0), hle, k.push (.iter s 0) (.stringIter ⟨s.toArray⟩ 0) 0 0 0 ?_, .inl ⟨.pointer (some ⟨w.heap.size, 0, none⟩), ?_, ?_⟩⟩
    · refine ⟨_, Emb.upd_same _ _ _, k.size, ?_, rfl⟩
      show (w.heap.push _)[w.heap.size]? = _
      simp
    · simp [execOp, ho, Instr.range, run_underlying hu', vx]
    · simp only [VR]
      exact ⟨_, Emb.upd_same _ _ _, rfl⟩
  · cases he

theorem sound_nextStr {x : Operand} {mx : MO} (ho : o.op = .next x true) (hx : compO x = some mx) (ht : TR m t a.tmps)
    (k : HR m h base w0 w) (he : evalOp t h (.nextStr mx) = some (v, h')) : OpOK P o a m h' base w0 w v := by
  have vx := compO_sound hx ht
  simp only [evalOp] at he
  split at he
  · rename_i b ex
    split at he
    · rename_i s pos hb
      rw [ex] at vx
      simp only [VR] at vx
      obtain ⟨e, hm, vx⟩ := vx
      obtain ⟨e', he', hbase, hg, hoff⟩ := k.obj b _ hb
      rw [hm] at he'
      cases he'
      have hoff0 : e.off + 0 = 0 := by omega
      rw [hoff0] at vx
      have hget := getObj_run (P := P) hg (by simp)
      split at he
      · rename_i hlt
        cases he
        refine ⟨m, { w with heap := w.heap.setIfInBounds e.g (.stringIter ⟨s.toArray⟩ (pos + (Utf8.decode ⟨s.toArray⟩ pos).2)) }, Emb.le.refl m, ?_, .inl ⟨.tuple #[.bool true, .int .i64 pos, .int .i32 (Utf8.decode ⟨s.toArray⟩ pos).1], ?_, ?_⟩⟩
        · refine k.change b _ _ e hb hm rfl hbase (by simp) rfl rfl rfl (fun g hg' => ?_) ⟨e, hm, hbase, ?_, hoff⟩
          · simp [Array.getElem?_setIfInBounds_ne (Ne.symm hg')]
          · have := (k.lt b e hm).1
            simp [this]
        · have hsz : pos < (⟨s.toArray⟩ : ByteArray).size := by rw [size_ba]; exact hlt
          simp only [execOp, ho, Instr.next, vx, Sem.run_bind, hget, Result.andThen_ok, if_pos hsz]
          simp [setObj, Sem.run, hg, goInt]
        · simp [VR, VRs]
      · rename_i hge
        cases he
        refine OpOK.same k (cv := .tuple #[.bool false]) ?_ (by simp [VR, VRs])
        have hsz : ¬ pos < (⟨s.toArray⟩ : ByteArray).size := by rw [size_ba]; exact hge
        simp only [execOp, ho, Instr.next, vx, Sem.run_bind, hget, Result.andThen_ok, if_neg hsz, Sem.run_pure]
    · cases he
  · cases he
end
end Go.Abs
