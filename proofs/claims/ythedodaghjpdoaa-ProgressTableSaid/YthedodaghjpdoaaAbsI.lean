/- Runs of the abstract machine, with what holds behind them; code compiled; and that the program's runs are these. -/
import Derived.Test.YthedodaghjpdoaaAbsP
import Derived.Orders
set_option linter.unusedVariables false
set_option linter.unusedSimpArgs false
namespace Go.Abs
open Go.RowKit

structure Model where
  fn : Nat → Option MFunc
  prim : Nat → List AV → Heap → (AV → Heap → Prop) → Prop

inductive Job where
  | code (c : MCode) (t : Tmps) (Q : MX → Tmps → Heap → Prop)
  | ops (l : List MOper) (t : Tmps) (Q : Tmps → Heap → Prop)
  | op (o : MOp) (t : Tmps) (Q : AV → Heap → Prop)
  | call (f : Nat) (args : List AV) (Q : AV → Heap → Prop)
  | any (l : List MOper) (pre : List (List Nat)) (done : List Bool) (t : Tmps) (Q : Tmps → Heap → Prop)

/-- Operation i of a region that may come up now. -/
def readyM (pre : List (List Nat)) (done : List Bool) (i : Nat) : Bool :=
  !done.getD i true && (pre.getD i []).all (done.getD · false)

inductive Runs (M : Model) : Job → Heap → Prop
  | call {f : Nat} {args : List AV} {F : MFunc} {h : Heap} {Q : AV → Heap → Prop} : M.fn f = some F →
      Runs M (.code F.body (args ++ List.replicate (F.ntmps - args.length) .undef) fun x t1 h1 => (x = .normal ∨ x = .ret) ∧ ∃ v, Abs.results h1 t1 F.results = some v ∧ Q v h1) h → Runs M (.call f args Q) h
  | prim {f : Nat} {args : List AV} {h : Heap} {Q : AV → Heap → Prop} : M.prim f args h Q → Runs M (.call f args Q) h
  | skip {t h Q} : Q .normal t h → Runs M (.code .skip t Q) h
  | seq {a b t h Q} (Q1 : MX → Tmps → Heap → Prop) : Runs M (.code a t Q1) h → (∀ t1 h1, Q1 .normal t1 h1 → Runs M (.code b t1 Q) h1) → (∀ x t1 h1, x ≠ .normal → Q1 x t1 h1 → Q x t1 h1) → Runs M (.code (.seq a b) t Q) h
  | condT {c a b t h Q} : c.eval t = .bool true → Runs M (.code a t Q) h → Runs M (.code (.cond c a b) t Q) h
  | condF {c a b t h Q} : c.eval t = .bool false → Runs M (.code b t Q) h → Runs M (.code (.cond c a b) t Q) h
  | block {id c t h Q} : Runs M (.code c t fun x t1 h1 => Q (if x = .exit id then .normal else x) t1 h1) h → Runs M (.code (.block id c) t Q) h
  | loop {c t h Q} (Q1 : MX → Tmps → Heap → Prop) : Runs M (.code c t Q1) h → (∀ t1 h1, Q1 .normal t1 h1 → Runs M (.code (.loop c) t1 Q) h1) → (∀ x t1 h1, x ≠ .normal → Q1 x t1 h1 → Q x t1 h1) → Runs M (.code (.loop c) t Q) h
  | exit {id t h Q} : Q (.exit id) t h → Runs M (.code (.exit id) t Q) h
  | ret {t h Q} : Q .ret t h → Runs M (.code .ret t Q) h
  | region {l t h Q} : Runs M (.ops l t (Q .normal)) h → Runs M (.code (.region l) t Q) h
  | nil {t h Q} : Q t h → Runs M (.ops [] t Q) h
  | cons {o l t h Q} (Q1 : AV → Heap → Prop) : wantedM t o.guard = true → Runs M (.op o.op t Q1) h → (∀ v h1, Q1 v h1 → Runs M (.ops l (put t o.dst v) Q) h1) → Runs M (.ops (o :: l) t Q) h
  | off {o l t h Q} : wantedM t o.guard = false → Runs M (.ops l (put t o.dst .undef) Q) h → Runs M (.ops (o :: l) t Q) h
  | draw {l pre t h Q} : Runs M (.any l pre (List.replicate l.length false) t (Q .normal)) h → Runs M (.code (.draw l pre) t Q) h
  | anyDone {l pre done t h Q} : (∀ i, i < l.length → readyM pre done i = false) → Q t h → Runs M (.any l pre done t Q) h
  | anyStep {l pre done t h Q} (Q1 : Nat → AV → Heap → Prop) : (∃ i, i < l.length ∧ readyM pre done i = true) →
      (∀ i o, l[i]? = some o → readyM pre done i = true → wantedM t o.guard = true → Runs M (.op o.op t (Q1 i)) h) →
      (∀ i o, l[i]? = some o → readyM pre done i = true → wantedM t o.guard = true → ∀ v h1, Q1 i v h1 → Runs M (.any l pre (done.set i true) (put t o.dst v) Q) h1) →
      (∀ i o, l[i]? = some o → readyM pre done i = true → wantedM t o.guard = false → Runs M (.any l pre (done.set i true) (put t o.dst .undef) Q) h) → Runs M (.any l pre done t Q) h
  | op {o t h v h1 Q} : evalOp t h o = some (v, h1) → Q v h1 → Runs M (.op o t Q) h
  | callOp {f args t h g cap Q} : MO.eval t f = .fn g cap → Runs M (.call g (args.map (·.eval t) ++ cap) Q) h → Runs M (.op (.call f args) t Q) h

/-! ### Code, compiled -/
def isTodo : MOp → Bool := fun _ => false

def isCallM : MOp → Bool
  | .call _ _ => true
  | _ => false

def compCall (c : Call) : Option MOp :=
  match c.callee with
  | .value f => match compO f, compOs c.args.toList with
    | some f, some args => some (.call f args)
    | _, _ => none
  | _ => none

/-- A call of a value, else what 'compOp' says. -/
def compOp2 (P : Program) (op : Op) : Option MOp :=
  match op with
  | .call c => match compCall c with
    | some m => some m
    | none => (compOp P op).filter fun m => !isCallM m && !isTodo m
  | _ => (compOp P op).filter fun m => !isCallM m && !isTodo m

theorem compOp2_inv {P : Program} {op : Op} {mo : MOp} (h : compOp2 P op = some mo) :
    (∃ c fo f args, op = .call c ∧ c.callee = .value fo ∧ compO fo = some f ∧ compOs c.args.toList = some args ∧ mo = .call f args) ∨ (compOp P op = some mo ∧ isCallM mo = false ∧ isTodo mo = false) := by
  have key : (compOp P op).filter (fun m => !isCallM m && !isTodo m) = some mo → compOp P op = some mo ∧ isCallM mo = false ∧ isTodo mo = false := by
    intro hh
    rw [Option.filter_eq_some_iff] at hh
    exact ⟨hh.1, by simpa using hh.2⟩
  unfold compOp2 at h
  split at h
  · rename_i c
    split at h
    · rename_i m hm
      cases h
      unfold compCall at hm
      split at hm
      · rename_i f hf
        split at hm
        · rename_i f' args hf' hargs
          cases hm
          exact .inl ⟨c, f, f', args, rfl, hf, hf', hargs, rfl⟩
        · cases hm
      · cases hm
    · exact .inr (key h)
  · exact .inr (key h)

def compGuard (ops : Array Oper) : Option (Nat × Bool) → Option (Option (Nat × Bool))
  | none => some none
  | some (j, want) => ((ops[j]?).bind (·.dst)).map fun d => some (d, want)

def compOper (P : Program) (ops : Array Oper) (o : Oper) : Option MOper :=
  match compOp2 P o.op, compGuard ops o.guard with
  | some op, some g => some ⟨o.dst, op, g⟩
  | _, _ => none

def compOps (P : Program) (ops : Array Oper) : Option (List MOper) := allM (compOper P ops) ops.toList

/-- What binds in every order. -/
def edgesOf (ops : Array Oper) : List (List Nat) := ops.toList.map fun o => (o.after.toList.filter (Region.binds .any)).map (·.on)

def compC (P : Program) : Code → Option MCode
  | .skip => some .skip
  | .region _ ops false => (compOps P ops).map .region
  | .region _ ops true => (compOps P ops).map fun l => .draw l (edgesOf ops)
  | .seq a b => match compC P a, compC P b with
    | some a, some b => some (.seq a b)
    | _, _ => none
  | .cond c a b => match compO c, compC P a, compC P b with
    | some c, some a, some b => some (.cond c a b)
    | _, _, _ => none
  | .block id c => (compC P c).map (.block id)
  | .loop c => (compC P c).map .loop
  | .exit id => some (.exit id)
  | .ret => some .ret
  | _ => none

def compRes (P : Program) : ResultVar → Option MRes
  | .tmp t => some (.tmp t)
  | .cell a t => (aggT P t).map fun agg => .cell agg a

def compF (P : Program) (fn : Func) : Option MFunc :=
  if fn.name == "runtime.NumGoroutine" then none else
  match fn.body with
  | some c => match compC P c, allM (compRes P) fn.results.toList with
    | some body, some rs => some ⟨fn.ntmps, body, rs⟩
    | _, _ => none
  | none => none

/-! ### What is shown of a job -/
def toX : Exit → Option MX
  | .normal => some .normal
  | .exit id => some (.exit id)
  | .ret => some .ret
  | _ => none

section
variable (P : Program) (base : Nat) (w0 : World) (out : Prop)

def PostC (m : Emb) (Q : MX → Tmps → Heap → Prop) : Exit → Act → World → Prop
  | .outgrown, _, _ => out
  | e, a, w => ∃ x t h m', toX e = some x ∧ Q x t h ∧ m.le m' ∧ TR m' t a.tmps ∧ a.defers = [] ∧ HR m' h base w0 w

def LoopWp (c : Code) (Q : Exit → Act → World → Prop) (a : Act) (w : World) : Prop :=
  ∀ (b : Frame) (k : List Item) (cs : List Frame), ∃ e a' w', Q e a' w' ∧ Arrives P (lone (b.at a (.inLoop c :: k)) cs w) b k cs e a' w'

def PostO (m : Emb) (Q : Tmps → Heap → Prop) : Exit → Act → World → Prop := PostC base w0 out m fun x t h => x = .normal ∧ Q t h

def Good : Job → Heap → Prop
  | .code c t Q, h => ∀ C, compC P C = some c → ∀ (m : Emb) (w : World) (a : Act), TR m t a.tmps → a.defers = [] → HR m h base w0 w →
      C.wp P (PostC base w0 out m Q) a w ∧ ∀ body, C = .loop body → LoopWp P body (PostC base w0 out m Q) a w
  | .ops l t Q, h => ∀ (ops : Array Oper) (n : Nat), allM (compOper P ops) (ops.toList.drop n) = some l → ∀ (m : Emb) (w : World) (a : Act), TR m t a.tmps → a.defers = [] → HR m h base w0 w →
      ∀ Q' : Exit → Act → World → Prop, (∀ e a' w', PostC base w0 out m (fun x t h => x = .normal ∧ Q t h) e a' w' → Q' e a' w') → wpOps P ops Q' (List.range' n (ops.size - n)) a w
  | .any l pre done t Q, h => ∀ (ops : Array Oper) (listed : Array Bool) (fuel : Nat), compOps P ops = some l → pre = edgesOf ops → done = listed.toList → listed.size = ops.size → done.count false ≤ fuel → ∀ (m : Emb) (w : World) (a : Act), TR m t a.tmps → a.defers = [] → HR m h base w0 w →
      ∀ Q' : Exit → Act → World → Prop, (∀ e a' w', PostC base w0 out m (fun x t h => x = .normal ∧ Q t h) e a' w' → Q' e a' w') → wpAny P .any ops Q' fuel listed a w
  | .op o t Q, h => ∀ O : Oper, compOp2 P O.op = some o → ∀ (m : Emb) (w : World) (a : Act), TR m t a.tmps → HR m h base w0 w → ∀ (next : Act → World → Prop) (Q' : Exit → Act → World → Prop),
      (∀ v h1 m' cv w', Q v h1 → m.le m' → VR m' v cv → HR m' h1 base w0 w' → next (a.put O.dst cv) w') → (out → LetsOut Q') → Oper.wp P O a w next Q'
  | .call f args Q, h => ∀ (m : Emb) (w : World) (cargs : Array Value), VRs m args cargs.toList → HR m h base w0 w → ∀ (O : Oper) (a : Act) (next : Act → World → Prop) (Q' : Exit → Act → World → Prop),
      (∀ v h1 m' cv w', Q v h1 → m.le m' → VR m' v cv → HR m' h1 base w0 w' → next (a.put O.dst cv) w') → (out → LetsOut Q') → O.upon P a next Q' ((callFunc f cargs).run P w)

structure Fits (M : Model) : Prop where
  mixed : P.follows .mixedOrders = true
  fn : ∀ f F, M.fn f = some F → ∃ fn, P.funcs[f]? = some fn ∧ compF P fn = some F
  prim : ∀ f args h Q, M.prim f args h Q → Good P base w0 out (.call f args Q) h
  ops : ∀ (O : Oper) mo, compOp P O.op = some mo → isTodo mo = false → ∀ (a : Act) (m : Emb) (h h' : Heap) (w : World) (t : Tmps) (v : AV), TR m t a.tmps → HR m h base w0 w → evalOp t h mo = some (v, h') → OpOK P O a m h' base w0 w v
end

section
variable {P : Program} {base : Nat} {w0 : World} {out : Prop}

theorem PostC.mono {m m1 : Emb} {Q Q1 : MX → Tmps → Heap → Prop} {e : Exit} {a : Act} {w : World} (hm : m.le m1) (h : PostC base w0 out m1 Q1 e a w) (hq : ∀ x t h, toX e = some x → Q1 x t h → Q x t h) : PostC base w0 out m Q e a w := by
  cases e <;> first
    | exact h
    | (obtain ⟨x, t, hh, m', hx, hQ, hle, hr⟩ := h
       exact ⟨x, t, hh, m', hx, hq _ _ _ hx hQ, hm.trans hle, hr⟩)

theorem PostC.lets {m : Emb} {Q : MX → Tmps → Heap → Prop} (h : out) (a : Act) (w : World) : LetsOut (PostC base w0 out m Q) := ⟨a, w, h⟩

theorem wanted_sound {m : Emb} {t : Tmps} {a : Act} {ops : Array Oper} {o : Oper} {g : Option (Nat × Bool)} (hg : compGuard ops o.guard = some g) (ht : TR m t a.tmps) : Region.wanted o (yielded ops a.tmps) = wantedM t g := by
  unfold compGuard at hg
  unfold Region.wanted wantedM
  split at hg
  · rename_i hn
    cases hg
    simp [hn]
  · rename_i j want hn
    simp only [Option.map_eq_some_iff] at hg
    obtain ⟨d, hd, rfl⟩ := hg
    simp only [hn, yielded, hd, Option.bind_some]
    have hv := ht.get d
    have hl := ht.vals.length
    simp only [Array.length_toList] at hl
    have key : ∀ b, a.tmps[d]? = some (.bool b) ↔ t.getD d .undef = .bool b := by
      intro b
      rcases Nat.lt_or_ge d a.tmps.size with hlt | hge
      · have e1 : a.tmps.getD d undef = a.tmps[d] := by simp [Array.getD, hlt]
        rw [e1] at hv
        simp only [Array.getElem?_eq_getElem hlt, Option.some.injEq]
        constructor
        · intro hb
          rw [hb] at hv
          generalize t.getD d .undef = x at hv
          cases x <;> simp [VR] at hv
          rw [hv]
        · intro hb
          rw [hb] at hv
          simpa [VR] using hv
      · have e1 : t.getD d .undef = .undef := by simp [List.getD, List.getElem?_eq_none (by omega : t.length ≤ d)]
        rw [e1]
        simp [Array.getElem?_eq_none hge]
    by_cases hb : ∃ b, t.getD d .undef = .bool b
    · obtain ⟨b, hb⟩ := hb
      rw [(key b).2 hb, hb]
      cases b <;> cases want <;> rfl
    · split
      · rename_i b hx
        exact absurd ⟨b, (key b).1 hx⟩ hb
      · split
        · rename_i b hx
          exact absurd ⟨b, hx⟩ hb
        · rfl

def resVal (tmps : Array Value) : ResultVar → Sem Value
  | .tmp t => pure (tmps.getD t undef)
  | .cell a t => do loadVar t (← asAddr (tmps.getD a undef))

theorem results_eq (fn : Func) (tmps : Array Value) : Go.results fn tmps = (do
    let vs ← fn.results.mapM (resVal tmps)
    pure (if h : vs.size = 1 then vs[0] else .tuple vs)) := by
  unfold Go.results
  congr 1

theorem resOf_sound {m : Emb} {h : Heap} {w : World} {t : Tmps} {tmps : Array Value} (k : HR m h base w0 w) (ht : TR m t tmps) {r : ResultVar} {mr : MRes} {v : AV} (hc : compRes P r = some mr) (hr : resOf h t mr = some v) :
    ∃ cv, (resVal tmps r).run P w = .ok cv w ∧ VR m v cv := by
  cases r with
  | tmp i =>
    simp only [compRes, Option.some.injEq] at hc
    subst hc
    simp only [resOf, Option.some.injEq] at hr
    subst hr
    exact ⟨_, rfl, ht.get i⟩
  | cell a ty =>
    simp only [compRes, Option.map_eq_some_iff] at hc
    obtain ⟨agg, hagg, rfl⟩ := hc
    simp only [resOf] at hr
    split at hr
    · rename_i b off hb
      have hv := ht.get a
      rw [hb] at hv
      obtain ⟨ad, cv, hp, hrun, hvv⟩ := loadVar_sound k hagg hr hv
      exact ⟨cv, by simp [resVal, hp, asAddr, hrun], hvv⟩
    · cases hr

theorem results_sound {m : Emb} {h : Heap} {w : World} {t : Tmps} {tmps : Array Value} (k : HR m h base w0 w) (ht : TR m t tmps) {fn : Func} {rs : List MRes} {v : AV} (hc : allM (compRes P) fn.results.toList = some rs) (hr : Abs.results h t rs = some v) :
    ∃ cv, (Go.results fn tmps).run P w = .ok cv w ∧ VR m v cv := by
  have key : ∀ (l : List ResultVar) (rs : List MRes) (vs : List AV), allM (compRes P) l = some rs → resAll h t rs = some vs →
      ∃ cvs, (l.mapM (resVal tmps)).run P w = .ok cvs w ∧ VRs m vs cvs := by
    intro l
    induction l with
    | nil =>
      intro rs vs h1 h2
      simp [allM] at h1
      subst h1
      simp [resAll] at h2
      subst h2
      exact ⟨[], by simp, by simp [VRs]⟩
    | cons r l ih =>
      intro rs vs h1 h2
      simp only [allM] at h1
      split at h1
      · rename_i b bs hb hbs
        cases h1
        simp only [resAll] at h2
        split at h2
        · rename_i v vs hv hvs
          cases h2
          obtain ⟨cv, e1, e2⟩ := resOf_sound k ht hb hv
          obtain ⟨cvs, e3, e4⟩ := ih _ _ hbs hvs
          refine ⟨cv :: cvs, ?_, by simp only [VRs]; exact ⟨_, _, rfl, e2, e4⟩⟩
          simp only [List.mapM_cons, Sem.run_bind, e1, Result.andThen_ok, e3, Sem.run_pure]
        · cases h2
      · cases h1
  unfold Abs.results at hr
  have hres : ∀ vs cvs, resAll h t rs = some vs → VRs m vs cvs → (fn.results.toList.mapM (resVal tmps)).run P w = .ok cvs w → (Go.results fn tmps).run P w = .ok (if h : cvs.toArray.size = 1 then cvs.toArray[0] else .tuple cvs.toArray) w := by
    intro vs cvs h1 h2 h3
    rw [results_eq, Array.mapM_eq_mapM_toList]
    simp only [Sem.run_bind, Sem.run_map, h3]
    rfl
  split at hr
  · rename_i v1 hv
    cases hr
    obtain ⟨cvs, e1, e2⟩ := key _ _ _ hc hv
    have := hres _ _ hv e2 e1
    simp only [VRs] at e2
    obtain ⟨c, cs, rfl, e2, rfl⟩ := e2
    exact ⟨c, by simpa using this, e2⟩
  · rename_i vs hne hv
    cases hr
    obtain ⟨cvs, e1, e2⟩ := key _ _ _ hc hv
    have := hres _ _ hv e2 e1
    have hl := e2.length
    refine ⟨.tuple cvs.toArray, ?_, by simp only [VR]; exact ⟨_, rfl, by simpa using e2⟩⟩
    rw [this, dif_neg]
    simp only [List.size_toArray]
    intro h1
    rw [h1] at hl
    match vs, hl with
    | [x], _ => exact hne x rfl
    | [], hl => simp at hl
    | x :: y :: r, hl => simp at hl
  · cases hr
end
end Go.Abs
