import Derived.Test.YtcjhjphmlfkikaaDoorAbsG1
import Derived.Orders
set_option linter.unusedVariables false
set_option linter.unusedSimpArgs false
namespace Go.Abs
open Go.RowKit

structure Model where
  fn : Nat → Option MFunc
  prim : Nat → List AV → Heap → (AV → Heap → Prop) → Prop

inductive Job where
  | code (c : MCode) (t : Tmps) (Q : MX → Tmps → Heap → Prop)
  | ops (l : List MOper) (t : Tmps) (Q : Tmps → Heap → Prop)
  | op (o : MOp) (t : Tmps) (Q : AV → Heap → Prop)
  | call (f : Nat) (args : List AV) (Q : AV → Heap → Prop)
  | any (l : List MOper) (pre : List (List Nat)) (done : List Bool) (t : Tmps) (Q : Tmps → Heap → Prop)

def readyM (pre : List (List Nat)) (done : List Bool) (i : Nat) : Bool :=
  !done.getD i true && (pre.getD i []).all (done.getD · false)

inductive Runs (M : Model) : Job → Heap → Prop
  | call {f : Nat} {args : List AV} {F : MFunc} {h : Heap} {Q : AV → Heap → Prop} : M.fn f = some F →
      Runs M (.code F.body (args ++ List.replicate (F.ntmps - args.length) .undef) fun x t1 h1 => (x = .normal ∨ x = .ret) ∧ ∃ v, Abs.results h1 t1 F.results = some v ∧ Q v h1) h → Runs M (.call f args Q) h
  | prim {f : Nat} {args : List AV} {h : Heap} {Q : AV → Heap → Prop} : M.prim f args h Q → Runs M (.call f args Q) h
  | skip {t h Q} : Q .normal t h → Runs M (.code .skip t Q) h
  | seq {a b t h Q} (Q1 : MX → Tmps → Heap → Prop) : Runs M (.code a t Q1) h → (∀ t1 h1, Q1 .normal t1 h1 → Runs M (.code b t1 Q) h1) → (∀ x t1 h1, x ≠ .normal → Q1 x t1 h1 → Q x t1 h1) → Runs M (.code (.seq a b) t Q) h
  | condT {c a b t h Q} : c.eval t = .bool true → Runs M (.code a t Q) h → Runs M (.code (.cond c a b) t Q) h
  | condF {c a b t h Q} : c.eval t = .bool false → Runs M (.code b t Q) h → Runs M (.code (.cond c a b) t Q) h
  | block {id c t h Q} : Runs M (.code c t fun x t1 h1 => Q (if x = .exit id then .normal else x) t1 h1) h → Runs M (.code (.block id c) t Q) h
  | loop {c t h Q} (Q1 : MX → Tmps → Heap → Prop) : Runs M (.code c t Q1) h → (∀ t1 h1, Q1 .normal t1 h1 → Runs M (.code (.loop c) t1 Q) h1) → (∀ x t1 h1, x ≠ .normal → Q1 x t1 h1 → Q x t1 h1) → Runs M (.code (.loop c) t Q) h
  | exit {id t h Q} : Q (.exit id) t h → Runs M (.code (.exit id) t Q) h
  | ret {t h Q} : Q .ret t h → Runs M (.code .ret t Q) h
  | region {l t h Q} : Runs M (.ops l t (Q .normal)) h → Runs M (.code (.region l) t Q) h
  | nil {t h Q} : Q t h → Runs M (.ops [] t Q) h
  | cons {o l t h Q} (Q1 : AV → Heap → Prop) : wantedM t o.guard = true → Runs M (.op o.op t Q1) h → (∀ v h1, Q1 v h1 → Runs M (.ops l (put t o.dst v) Q) h1) → Runs M (.ops (o :: l) t Q) h
  | off {o l t h Q} : wantedM t o.guard = false → Runs M (.ops l (put t o.dst .undef) Q) h → Runs M (.ops (o :: l) t Q) h
  | draw {l pre t h Q} : Runs M (.any l pre (List.replicate l.length false) t (Q .normal)) h → Runs M (.code (.draw l pre) t Q) h
  | anyDone {l pre done t h Q} : (∀ i, i < l.length → readyM pre done i = false) → Q t h → Runs M (.any l pre done t Q) h
  | anyStep {l pre done t h Q} (Q1 : Nat → AV → Heap → Prop) : (∃ i, i < l.length ∧ readyM pre done i = true) →
      (∀ i o, l[i]? = some o → readyM pre done i = true → wantedM t o.guard = true → Runs M (.op o.op t (Q1 i)) h) →
      (∀ i o, l[i]? = some o → readyM pre done i = true → wantedM t o.guard = true → ∀ v h1, Q1 i v h1 → Runs M (.any l pre (done.set i true) (put t o.dst v) Q) h1) →
      (∀ i o, l[i]? = some o → readyM pre done i = true → wantedM t o.guard = false → Runs M (.any l pre (done.set i true) (put t o.dst .undef) Q) h) → Runs M (.any l pre done t Q) h
  | op {o t h v h1 Q} : evalOp t h o = some (v, h1) → Q v h1 → Runs M (.op o t Q) h
  | callOp {f args t h g cap Q} : MO.eval t f = .fn g cap → Runs M (.call g (args.map (·.eval t) ++ cap) Q) h → Runs M (.op (.call f args) t Q) h

def isTodo : MOp → Bool := fun _ => false

def isCallM : MOp → Bool
  | .call _ _ => true
  | _ => false

def compCall (c : Call) : Option MOp :=
  match c.callee with
  | .value f => match compO f, compOs c.args.toList with
    | some f, some args => some (.call f args)
    | _, _ => none
  | _ => none

def compOp2 (P : Program) (op : Op) : Option MOp :=
  match op with
  | .call c => match compCall c with
    | some m => some m
    | none => (compOp P op).filter fun m => !isCallM m && !isTodo m
  | _ => (compOp P op).filter fun m => !isCallM m && !isTodo m

theorem compOp2_inv {P : Program} {op : Op} {mo : MOp} (h : compOp2 P op = some mo) :
    (∃ c fo f args, op = .call c ∧ c.callee = .value fo ∧ compO fo = some f ∧ compOs c.args.toList = some args ∧ mo = .call f args) ∨ (compOp P op = some mo ∧ isCallM mo = false ∧ isTodo mo = false) := by
  have key : (compOp P op).filter (fun m => !isCallM m && !isTodo m) = some mo → compOp P op = some mo ∧ isCallM mo = false ∧ isTodo mo = false := by
    intro hh
    rw [Option.filter_eq_some_iff] at hh
    exact ⟨hh.1, by simpa using hh.2⟩
  unfold compOp2 at h
  split at h
  · rename_i c
    split at h
    · rename_i m hm
      cases h
      unfold compCall at hm
      split at hm
      · rename_i f hf
        split at hm
        · rename_i f' args hf' hargs
          cases hm
          exact .inl ⟨c, f, f', args, rfl, hf, hf', hargs, rfl⟩
        · cases hm
      · cases hm
    · exact .inr (key h)
  · exact .inr (key h)

def compGuard (ops : Array Oper) : Option (Nat × Bool) → Option (Option (Nat × Bool))
  | none => some none
  | some (j, want) => ((ops[j]?).bind (·.dst)).map fun d => some (d, want)

def stuckOp : MOp := .call (.const .nilfn) []
def compOp3 (P : Program) (op : Op) : MOp := (compOp2 P op).getD stuckOp

theorem compOp3_eval {P : Program} {op : Op} {o : MOp} {t : Tmps} {h : Heap} {r : AV × Heap} (hc : compOp3 P op = o) (he : evalOp t h o = some r) : compOp2 P op = some o := by
  unfold compOp3 at hc
  cases h2 : compOp2 P op with
  | none =>
    rw [h2] at hc
    simp only [Option.getD_none] at hc
    subst hc
    simp [stuckOp, evalOp] at he
  | some m =>
    rw [h2] at hc
    simp only [Option.getD_some] at hc
    rw [hc]
theorem compOp3_call {P : Program} {op : Op} {f : MO} {args : List MO} {t : Tmps} {g : Nat} {cap : List AV} (hc : compOp3 P op = .call f args) (hf : f.eval t = .fn g cap) : compOp2 P op = some (.call f args) := by
  unfold compOp3 at hc
  cases h2 : compOp2 P op with
  | none =>
    rw [h2] at hc
    simp only [Option.getD_none, stuckOp, MOp.call.injEq] at hc
    rw [← hc.1] at hf
    simp [MO.eval] at hf
  | some m =>
    rw [h2] at hc
    simp only [Option.getD_some] at hc
    rw [hc]

def compOper (P : Program) (ops : Array Oper) (o : Oper) : Option MOper := (compGuard ops o.guard).map fun g => ⟨o.dst, compOp3 P o.op, g⟩

def compOps (P : Program) (ops : Array Oper) : Option (List MOper) := allM (compOper P ops) ops.toList

def edgesOf (ops : Array Oper) : List (List Nat) := ops.toList.map fun o => (o.after.toList.filter (Region.binds .any)).map (·.on)

def compC (P : Program) : Code → Option MCode
  | .skip => some .skip
  | .region _ ops false => (compOps P ops).map .region
  | .region _ ops true => (compOps P ops).map fun l => .draw l (edgesOf ops)
  | .seq a b => match compC P a, compC P b with
    | some a, some b => some (.seq a b)
    | _, _ => none
  | .cond c a b => match compO c, compC P a, compC P b with
    | some c, some a, some b => some (.cond c a b)
    | _, _, _ => none
  | .block id c => (compC P c).map (.block id)
  | .loop c => (compC P c).map .loop
  | .exit id => some (.exit id)
  | .ret => some .ret
  | _ => none

def compRes (P : Program) : ResultVar → Option MRes
  | .tmp t => some (.tmp t)
  | .cell a t => (aggT P t).map fun agg => .cell agg a

def compF (P : Program) (fn : Func) : Option MFunc :=
  if fn.name == "runtime.NumGoroutine" then none else
  match fn.body with
  | some c => match compC P c, allM (compRes P) fn.results.toList with
    | some body, some rs => some ⟨fn.ntmps, body, rs⟩
    | _, _ => none
  | none => none

def toX : Exit → Option MX
  | .normal => some .normal
  | .exit id => some (.exit id)
  | .ret => some .ret
  | _ => none

section
variable (P : Program) (base : Nat) (w0 : World) (out : Prop)

def PostC (m : Emb) (Q : MX → Tmps → Heap → Prop) : Exit → Act → World → Prop
  | .outgrown, _, _ => out
  | e, a, w => ∃ x t h m', toX e = some x ∧ Q x t h ∧ m.le m' ∧ TR m' t a.tmps ∧ a.defers = [] ∧ HR m' h base w0 w

def LoopWp (c : Code) (Q : Exit → Act → World → Prop) (a : Act) (w : World) : Prop :=
  ∀ (b : Frame) (k : List Item) (cs : List Frame), ∃ e a' w', Q e a' w' ∧ Arrives P (lone (b.at a (.inLoop c :: k)) cs w) b k cs e a' w'

def Good : Job → Heap → Prop
  | .code c t Q, h => ∀ C, compC P C = some c → ∀ (m : Emb) (w : World) (a : Act), TR m t a.tmps → a.defers = [] → HR m h base w0 w →
      C.wp P (PostC base w0 out m Q) a w ∧ ∀ body, C = .loop body → LoopWp P body (PostC base w0 out m Q) a w
  | .ops l t Q, h => ∀ (ops : Array Oper) (n : Nat), allM (compOper P ops) (ops.toList.drop n) = some l → ∀ (m : Emb) (w : World) (a : Act), TR m t a.tmps → a.defers = [] → HR m h base w0 w →
      ∀ Q' : Exit → Act → World → Prop, (∀ e a' w', PostC base w0 out m (fun x t h => x = .normal ∧ Q t h) e a' w' → Q' e a' w') → wpOps P ops Q' (List.range' n (ops.size - n)) a w
  | .any l pre done t Q, h => ∀ (ops : Array Oper) (listed : Array Bool) (fuel : Nat), compOps P ops = some l → pre = edgesOf ops → done = listed.toList → listed.size = ops.size → done.count false ≤ fuel → ∀ (m : Emb) (w : World) (a : Act), TR m t a.tmps → a.defers = [] → HR m h base w0 w →
      ∀ Q' : Exit → Act → World → Prop, (∀ e a' w', PostC base w0 out m (fun x t h => x = .normal ∧ Q t h) e a' w' → Q' e a' w') → wpAny P .any ops Q' fuel listed a w
  | .op o t Q, h => ∀ O : Oper, compOp3 P O.op = o → ∀ (m : Emb) (w : World) (a : Act), TR m t a.tmps → HR m h base w0 w → ∀ (next : Act → World → Prop) (Q' : Exit → Act → World → Prop),
      (∀ v h1 m' cv w', Q v h1 → m.le m' → VR m' v cv → HR m' h1 base w0 w' → next (a.put O.dst cv) w') → (out → LetsOut Q') → Oper.wp P O a w next Q'
  | .call f args Q, h => ∀ (m : Emb) (w : World) (cargs : Array Value), VRs m args cargs.toList → HR m h base w0 w → ∀ (O : Oper) (a : Act) (next : Act → World → Prop) (Q' : Exit → Act → World → Prop),
      (∀ v h1 m' cv w', Q v h1 → m.le m' → VR m' v cv → HR m' h1 base w0 w' → next (a.put O.dst cv) w') → (out → LetsOut Q') → O.upon P a next Q' ((callFunc f cargs).run P w)

structure Fits (M : Model) : Prop where
  mixed : P.follows .mixedOrders = true
  fn : ∀ f F, M.fn f = some F → ∃ fn, P.funcs[f]? = some fn ∧ compF P fn = some F
  prim : ∀ f args h Q, M.prim f args h Q → Good P base w0 out (.call f args Q) h
  ops : ∀ (O : Oper) mo, compOp P O.op = some mo → isTodo mo = false → ∀ (a : Act) (m : Emb) (h h' : Heap) (w : World) (t : Tmps) (v : AV), TR m t a.tmps → HR m h base w0 w → evalOp t h mo = some (v, h') → OpOK P O a m h' base w0 w v
end

section
variable {P : Program} {base : Nat} {w0 : World} {out : Prop}

theorem PostC.mono {m m1 : Emb} {Q Q1 : MX → Tmps → Heap → Prop} {e : Exit} {a : Act} {w : World} (hm : m.le m1) (h : PostC base w0 out m1 Q1 e a w) (hq : ∀ x t h, toX e = some x → Q1 x t h → Q x t h) : PostC base w0 out m Q e a w := by
  cases e <;> first
    | exact h
    | (obtain ⟨x, t, hh, m', hx, hQ, hle, hr⟩ := h
       exact ⟨x, t, hh, m', hx, hq _ _ _ hx hQ, hm.trans hle, hr⟩)

theorem wanted_sound {m : Emb} {t : Tmps} {a : Act} {ops : Array Oper} {o : Oper} {g : Option (Nat × Bool)} (hg : compGuard ops o.guard = some g) (ht : TR m t a.tmps) : Region.wanted o (yielded ops a.tmps) = wantedM t g := by
  unfold compGuard at hg
  unfold Region.wanted wantedM
  split at hg
  · rename_i hn
    cases hg
    simp [hn]
  · rename_i j want hn
    simp only [Option.map_eq_some_iff] at hg
    obtain ⟨d, hd, rfl⟩ := hg
    simp only [hn, yielded, hd, Option.bind_some]
    have hv := ht.get d
    have hl := ht.vals.length
    simp only [Array.length_toList] at hl
    have key : ∀ b, a.tmps[d]? = some (.bool b) ↔ t.getD d .undef = .bool b := by
      intro b
      rcases Nat.lt_or_ge d a.tmps.size with hlt | hge
      · have e1 : a.tmps.getD d undef = a.tmps[d] := by simp [Array.getD, hlt]
        rw [e1] at hv
        simp only [Array.getElem?_eq_getElem hlt, Option.some.injEq]
        constructor
        · intro hb
          rw [hb] at hv
          generalize t.getD d .undef = x at hv
          cases x <;> simp [VR] at hv
          rw [hv]
        · intro hb
          rw [hb] at hv
          simpa [VR] using hv
      · have e1 : t.getD d .undef = .undef := by simp [List.getD, List.getElem?_eq_none (by omega : t.length ≤ d)]
        rw [e1]
        simp [Array.getElem?_eq_none hge]
    by_cases hb : ∃ b, t.getD d .undef = .bool b
    · obtain ⟨b, hb⟩ := hb
      rw [(key b).2 hb, hb]
      cases b <;> cases want <;> rfl
    · split
      · rename_i b hx
        exact absurd ⟨b, (key b).1 hx⟩ hb
      · split
        · rename_i b hx
          exact absurd ⟨b, hx⟩ hb
        · rfl

def resVal (tmps : Array Value) : ResultVar → Sem Value
  | .tmp t => pure (tmps.getD t undef)
  | .cell a t => do loadVar t (← asAddr (tmps.getD a undef))

theorem results_eq (fn : Func) (tmps : Array Value) : Go.results fn tmps = (do
    let vs ← fn.results.mapM (resVal tmps)
    pure (if h : vs.size = 1 then vs[0] else .tuple vs)) := by
  unfold Go.results
  congr 1

theorem resOf_sound {m : Emb} {h : Heap} {w : World} {t : Tmps} {tmps : Array Value} (k : HR m h base w0 w) (ht : TR m t tmps) {r : ResultVar} {mr : MRes} {v : AV} (hc : compRes P r = some mr) (hr : resOf h t mr = some v) :
    ∃ cv, (resVal tmps r).run P w = .ok cv w ∧ VR m v cv := by
  cases r with
  | tmp i =>
    simp only [compRes, Option.some.injEq] at hc
    subst hc
    simp only [resOf, Option.some.injEq] at hr
    subst hr
    exact ⟨_, rfl, ht.get i⟩
  | cell a ty =>
    simp only [compRes, Option.map_eq_some_iff] at hc
    obtain ⟨agg, hagg, rfl⟩ := hc
    simp only [resOf] at hr
    split at hr
    · rename_i b off hb
      have hv := ht.get a
      rw [hb] at hv
      obtain ⟨ad, cv, hp, hrun, hvv⟩ := loadVar_sound k hagg hr hv
      exact ⟨cv, by simp [resVal, hp, asAddr, hrun], hvv⟩
    · cases hr

theorem results_sound {m : Emb} {h : Heap} {w : World} {t : Tmps} {tmps : Array Value} (k : HR m h base w0 w) (ht : TR m t tmps) {fn : Func} {rs : List MRes} {v : AV} (hc : allM (compRes P) fn.results.toList = some rs) (hr : Abs.results h t rs = some v) :
    ∃ cv, (Go.results fn tmps).run P w = .ok cv w ∧ VR m v cv := by
  have key : ∀ (l : List ResultVar) (rs : List MRes) (vs : List AV), allM (compRes P) l = some rs → resAll h t rs = some vs →
      ∃ cvs, (l.mapM (resVal tmps)).run P w = .ok cvs w ∧ VRs m vs cvs := by
    intro l
    induction l with
    | nil =>
      intro rs vs h1 h2
      simp [allM] at h1
      subst h1
      simp [resAll] at h2
      subst h2
      exact ⟨[], by simp, by simp [VRs]⟩
    | cons r l ih =>
      intro rs vs h1 h2
      simp only [allM] at h1
      split at h1
      · rename_i b bs hb hbs
        cases h1
        simp only [resAll] at h2
        split at h2
        · rename_i v vs hv hvs
          cases h2
          obtain ⟨cv, e1, e2⟩ := resOf_sound k ht hb hv
          obtain ⟨cvs, e3, e4⟩ := ih _ _ hbs hvs
          refine ⟨cv :: cvs, ?_, by simp only [VRs]; exact ⟨_, _, rfl, e2, e4⟩⟩
          simp only [List.mapM_cons, Sem.run_bind, e1, Result.andThen_ok, e3, Sem.run_pure]
        · cases h2
      · cases h1
  unfold Abs.results at hr
  have hres : ∀ vs cvs, resAll h t rs = some vs → VRs m vs cvs → (fn.results.toList.mapM (resVal tmps)).run P w = .ok cvs w → (Go.results fn tmps).run P w = .ok (if h : cvs.toArray.size = 1 then cvs.toArray[0] else .tuple cvs.toArray) w := by
    intro vs cvs h1 h2 h3
    rw [results_eq, Array.mapM_eq_mapM_toList]
    simp only [Sem.run_bind, Sem.run_map, h3]
    rfl
  split at hr
  · rename_i v1 hv
    cases hr
    obtain ⟨cvs, e1, e2⟩ := key _ _ _ hc hv
    have := hres _ _ hv e2 e1
    simp only [VRs] at e2
    obtain ⟨c, cs, rfl, e2, rfl⟩ := e2
    exact ⟨c, by simpa using this, e2⟩
  · rename_i vs hne hv
    cases hr
    obtain ⟨cvs, e1, e2⟩ := key _ _ _ hc hv
    have := hres _ _ hv e2 e1
    have hl := e2.length
    refine ⟨.tuple cvs.toArray, ?_, by simp only [VR]; exact ⟨_, rfl, by simpa using e2⟩⟩
    rw [this, dif_neg]
    simp only [List.size_toArray]
    intro h1
    rw [h1] at hl
    match vs, hl with
    | [x], _ => exact hne x rfl
    | [], hl => simp at hl
    | x :: y :: r, hl => simp at hl
  · cases hr
end
end Go.Abs

set_option linter.unusedVariables false
set_option linter.unusedSimpArgs false
namespace Go.Abs
open Go.RowKit
section
variable {P : Program} {base : Nat} {w0 : World} {out : Prop}

theorem PostC.normal {m : Emb} {Q : MX → Tmps → Heap → Prop} {a : Act} {w : World} (h : PostC base w0 out m Q .normal a w) : ∃ t h m', Q .normal t h ∧ m.le m' ∧ TR m' t a.tmps ∧ a.defers = [] ∧ HR m' h base w0 w := by
  obtain ⟨x, t, hh, m', hx, hr⟩ := h
  cases hx
  exact ⟨t, hh, m', hr⟩

theorem loop_of {c : Code} {Q : Exit → Act → World → Prop} {a : Act} {w : World} (h : c.wp P (Exit.then (LoopWp P c Q) Q) a w) : (Code.loop c).wp P Q a w ∧ LoopWp P c Q a w := by
  have key : ∀ (b : Frame) (k : List Item) (cs : List Frame), ∃ e a' w', Q e a' w' ∧ Arrives P (lone (b.at a (.code c :: .inLoop c :: k)) cs w) b k cs e a' w' := by
    intro b k cs
    obtain ⟨e, a1, w1, hq, harr⟩ := h b (.inLoop c :: k) cs
    cases e with
    | normal =>
      obtain ⟨e2, a2, w2, hq2, harr2⟩ := hq b k cs
      exact ⟨e2, a2, w2, hq2, .of_steps harr harr2⟩
    | exit id => exact ⟨_, a1, w1, hq, .pass (x := .inLoop c) rfl (fun _ _ => .inl (by simp)) harr⟩
    | goto l => exact ⟨_, a1, w1, hq, .pass (x := .inLoop c) rfl (fun _ _ => .inl (by simp)) harr⟩
    | ret => exact ⟨_, a1, w1, hq, .pass (x := .inLoop c) rfl (fun _ _ => .inl (by simp)) harr⟩
    | panic ch => exact ⟨_, a1, w1, hq, .pass (x := .inLoop c) rfl (fun _ _ => .inl (by simp)) harr⟩
    | outgrown => exact ⟨_, a1, w1, hq, .pass (x := .inLoop c) rfl (fun _ _ => .inl (by simp)) harr⟩
  refine ⟨fun b k cs => ?_, fun b k cs => ?_⟩
  · obtain ⟨e, a', w', hq, harr⟩ := key b k cs
    exact ⟨e, a', w', hq, .of_steps (.one step_loop) harr⟩
  · obtain ⟨e, a', w', hq, harr⟩ := key b k cs
    exact ⟨e, a', w', hq, .of_steps (.one step_inLoop) harr⟩

theorem callFunc_run {f : Nat} {fn : Func} {c : Code} {cargs : Array Value} {w : World} (hf : P.funcs[f]? = some fn) (hn : (fn.name == "runtime.NumGoroutine") = false) (hb : fn.body = some c) : (callFunc f cargs).run P w = .ok (.enter f cargs) w := by
  have hn' : ¬ fn.name = "runtime.NumGoroutine" := by simpa using hn
  simp [callFunc, hf, hn', hb]

theorem compC_skip {C : Code} (h : compC P C = some .skip) : C = .skip := by
  unfold compC at h
  split at h <;> first
    | rfl
    | cases h
    | (simp only [Option.map_eq_some_iff] at h; obtain ⟨_, _, h⟩ := h; cases h)
    | (split at h <;> cases h)
theorem compC_ret {C : Code} (h : compC P C = some .ret) : C = .ret := by
  unfold compC at h
  split at h <;> first
    | rfl
    | cases h
    | (simp only [Option.map_eq_some_iff] at h; obtain ⟨_, _, h⟩ := h; cases h)
    | (split at h <;> cases h)
theorem compC_exit {C : Code} {id : Nat} (h : compC P C = some (.exit id)) : C = .exit id := by
  unfold compC at h
  split at h <;> first
    | (cases h; rfl)
    | cases h
    | (simp only [Option.map_eq_some_iff] at h; obtain ⟨_, _, h⟩ := h; cases h)
    | (split at h <;> cases h)
theorem compC_region {C : Code} {l : List MOper} (h : compC P C = some (.region l)) : ∃ id ops, C = .region id ops false ∧ compOps P ops = some l := by
  unfold compC at h
  split at h <;> first
    | (simp only [Option.map_eq_some_iff] at h; obtain ⟨_, hx, h⟩ := h; cases h; exact ⟨_, _, rfl, hx⟩)
    | cases h
    | (simp only [Option.map_eq_some_iff] at h; obtain ⟨_, _, h⟩ := h; cases h)
    | (split at h <;> cases h)
theorem compC_draw {C : Code} {l : List MOper} {pre : List (List Nat)} (h : compC P C = some (.draw l pre)) : ∃ id ops, C = .region id ops true ∧ compOps P ops = some l ∧ pre = edgesOf ops := by
  unfold compC at h
  split at h <;> first
    | (simp only [Option.map_eq_some_iff] at h; obtain ⟨_, hx, h⟩ := h; cases h; exact ⟨_, _, rfl, hx, rfl⟩)
    | cases h
    | (simp only [Option.map_eq_some_iff] at h; obtain ⟨_, _, h⟩ := h; cases h)
    | (split at h <;> cases h)
theorem compC_block {C : Code} {id : Nat} {c : MCode} (h : compC P C = some (.block id c)) : ∃ x, C = .block id x ∧ compC P x = some c := by
  unfold compC at h
  split at h <;> first
    | (simp only [Option.map_eq_some_iff] at h; obtain ⟨_, hx, h⟩ := h; cases h; exact ⟨_, rfl, hx⟩)
    | cases h
    | (simp only [Option.map_eq_some_iff] at h; obtain ⟨_, _, h⟩ := h; cases h)
    | (split at h <;> cases h)
theorem compC_loop {C : Code} {c : MCode} (h : compC P C = some (.loop c)) : ∃ x, C = .loop x ∧ compC P x = some c := by
  unfold compC at h
  split at h <;> first
    | (simp only [Option.map_eq_some_iff] at h; obtain ⟨_, hx, h⟩ := h; cases h; exact ⟨_, rfl, hx⟩)
    | cases h
    | (simp only [Option.map_eq_some_iff] at h; obtain ⟨_, _, h⟩ := h; cases h)
    | (split at h <;> cases h)
theorem compC_seq {C : Code} {a b : MCode} (h : compC P C = some (.seq a b)) : ∃ x y, C = .seq x y ∧ compC P x = some a ∧ compC P y = some b := by
  unfold compC at h
  split at h <;> first
    | cases h
    | (simp only [Option.map_eq_some_iff] at h; obtain ⟨_, _, h⟩ := h; cases h)
    | (split at h <;> first
        | (cases h; exact ⟨_, _, rfl, by assumption, by assumption⟩)
        | cases h)
    | (split at h <;> cases h)
theorem compC_cond {C : Code} {c : MO} {a b : MCode} (h : compC P C = some (.cond c a b)) : ∃ o x y, C = .cond o x y ∧ compO o = some c ∧ compC P x = some a ∧ compC P y = some b := by
  unfold compC at h
  split at h <;> first
    | cases h
    | (simp only [Option.map_eq_some_iff] at h; obtain ⟨_, _, h⟩ := h; cases h)
    | (split at h <;> first
        | (cases h; exact ⟨_, _, _, rfl, by assumption, by assumption, by assumption⟩)
        | cases h)
    | (split at h <;> cases h)

theorem compOper_inv {ops : Array Oper} {o : Oper} {mo : MOper} (h : compOper P ops o = some mo) : mo.dst = o.dst ∧ compOp3 P o.op = mo.op ∧ compGuard ops o.guard = some mo.guard := by
  unfold compOper at h
  simp only [Option.map_eq_some_iff] at h
  obtain ⟨g, hg, rfl⟩ := h
  exact ⟨rfl, rfl, hg⟩

theorem compOps_get {ops : Array Oper} {l : List MOper} (h : compOps P ops = some l) : l.length = ops.size ∧ ∀ (i : Nat) (o : Oper), ops[i]? = some o → ∃ mo, l[i]? = some mo ∧ compOper P ops o = some mo := by
  obtain ⟨h1, h2⟩ := allM_spec h
  simp only [Array.length_toList] at h1
  refine ⟨h1, fun i o ho => ?_⟩
  have hi : i < ops.size := (Array.getElem?_eq_some_iff.1 ho).1
  obtain ⟨o', h3, h4⟩ := h2 i _ (List.getElem?_eq_getElem (by omega))
  have : ops.toList[i]? = some o := by simpa using ho
  rw [this] at h3
  cases h3
  exact ⟨_, List.getElem?_eq_getElem (by omega), h4⟩

theorem ready_iff {ops : Array Oper} {listed : Array Bool} {i : Nat} (hs : listed.size = ops.size) : i ∈ Region.ready .any ops listed ↔ i < ops.size ∧ readyM (edgesOf ops) listed.toList i = true := by
  have e1 : ∀ j b, listed.toList.getD j b = listed.getD j b := by
    intro j b
    simp only [List.getD_eq_getElem?_getD, Array.getD_eq_getD_getElem?, Array.getElem?_toList]
  unfold Region.ready readyM
  simp only [List.mem_filter, List.mem_range, e1]
  constructor
  · rintro ⟨h1, h2⟩
    refine ⟨h1, ?_⟩
    simp only [Bool.and_eq_true] at h2 ⊢
    refine ⟨h2.1, ?_⟩
    have h3 := h2.2
    have h4 : (edgesOf ops).getD i [] = (ops[i].after.toList.filter (Region.binds .any)).map (·.on) := by
      simp [edgesOf, List.getD_eq_getElem?_getD, h1]
    rw [h4]
    simp only [Array.getElem?_eq_getElem h1, Option.map_some, Option.getD_some] at h3
    simp only [List.all_map, List.all_filter]
    rw [← Array.all_toList] at h3
    rw [List.all_eq_true] at h3 ⊢
    intro e he
    have := h3 e he
    simpa [Function.comp, e1] using this
  · rintro ⟨h1, h2⟩
    refine ⟨h1, ?_⟩
    simp only [Bool.and_eq_true] at h2 ⊢
    refine ⟨h2.1, ?_⟩
    have h3 := h2.2
    have h4 : (edgesOf ops).getD i [] = (ops[i].after.toList.filter (Region.binds .any)).map (·.on) := by
      simp [edgesOf, List.getD_eq_getElem?_getD, h1]
    rw [h4] at h3
    simp only [Array.getElem?_eq_getElem h1, Option.map_some, Option.getD_some]
    simp only [List.all_map, List.all_filter] at h3
    rw [← Array.all_toList]
    rw [List.all_eq_true] at h3 ⊢
    intro e he
    have := h3 e he
    simpa [Function.comp, e1] using this

theorem count_set_lt : ∀ (l : List Bool) (i : Nat), l.getD i true = false → (l.set i true).count false + 1 = l.count false
  | [], i, h => by simp at h
  | b :: l, 0, h => by
    simp at h
    subst h
    simp
  | b :: l, i + 1, h => by
    have := count_set_lt l i (by simpa using h)
    cases b <;> simp <;> omega

theorem drop_step {ops : Array Oper} {n : Nat} {x : MOper} {l : List MOper} (h : allM (compOper P ops) (ops.toList.drop n) = some (x :: l)) :
    ∃ o, ops[n]? = some o ∧ compOper P ops o = some x ∧ allM (compOper P ops) (ops.toList.drop (n + 1)) = some l ∧ List.range' n (ops.size - n) = n :: List.range' (n + 1) (ops.size - (n + 1)) := by
  cases hd : ops.toList.drop n with
  | nil => rw [hd] at h; simp [allM] at h
  | cons o r =>
    rw [hd] at h
    simp only [allM] at h
    split at h
    · rename_i b bs hb hbs
      cases h
      have hlt : n < ops.toList.length := by
        rcases Nat.lt_or_ge n ops.toList.length with h' | h'
        · exact h'
        · rw [List.drop_eq_nil_of_le h'] at hd; cases hd
      have e := List.drop_eq_getElem_cons hlt
      rw [hd] at e
      injection e with e1 e2
      simp only [Array.length_toList] at hlt
      refine ⟨o, ?_, hb, by rw [← e2]; exact hbs, ?_⟩
      · rw [Array.getElem?_eq_getElem hlt, e1]; simp
      · obtain ⟨k, hk⟩ : ∃ k, ops.size - n = k + 1 := ⟨ops.size - n - 1, by omega⟩
        rw [hk, List.range'_succ]
        congr 2
        omega
    · cases h

theorem sound {M : Model} (hM : Fits P base w0 out M) {j : Job} {h : Heap} (hr : Runs M j h) : Good P base w0 out j h := by
  induction hr with
  | @call f args F h Q hF hbody ih =>
    intro m w cargs hv hk O a next Q' hnext hout
    obtain ⟨fn, hfn, hcomp⟩ := hM.fn f F hF
    unfold compF at hcomp
    split at hcomp
    · cases hcomp
    · rename_i hname
      split at hcomp
      · rename_i c hc
        split at hcomp
        · rename_i body rs hbd hrs
          cases hcomp
          rw [callFunc_run hfn (by simpa using hname) hc, Oper.upon_enter]
          refine calls_of_wp hfn hc ?_
          have hl := hv.length
          simp only [Array.length_toList] at hl
          have htr : TR m (args ++ List.replicate (fn.ntmps - args.length) .undef) (cargs ++ Array.replicate (fn.ntmps - cargs.size) undef) := by
            refine ⟨?_⟩
            rw [Array.toList_append, Array.toList_replicate, hl]
            refine hv.append (VRs.of_get (by simp) fun i x hx => ?_)
            rw [List.getElem?_replicate] at hx ⊢
            split at hx
            · rename_i hi
              cases hx
              rw [if_pos hi]
              exact ⟨_, rfl, by simp [VR, undef]⟩
            · cases hx
          refine wp_mono (ih c hbd m w { tmps := cargs ++ Array.replicate (fn.ntmps - cargs.size) undef, defers := [] } htr rfl hk).1 fun e a' w' hp => ?_
          cases e with
          | normal =>
            obtain ⟨x, t, h1, m', hx, ⟨hx2, v, hres, hQ⟩, hle, ht, hd, hk'⟩ := hp
            obtain ⟨cv, hrun, hvv⟩ := results_sound hk' ht hrs hres
            exact ⟨hd, cv, hrun, hnext v h1 m' cv w' hQ hle hvv hk'⟩
          | ret =>
            obtain ⟨x, t, h1, m', hx, ⟨hx2, v, hres, hQ⟩, hle, ht, hd, hk'⟩ := hp
            obtain ⟨cv, hrun, hvv⟩ := results_sound hk' ht hrs hres
            exact ⟨hd, cv, hrun, hnext v h1 m' cv w' hQ hle hvv hk'⟩
          | outgrown => exact hout hp
          | exit id =>
            obtain ⟨x, t, h1, m', hx, ⟨hx2, _⟩, _⟩ := hp
            cases hx
            rcases hx2 with hx2 | hx2 <;> cases hx2
          | goto l =>
            obtain ⟨x, t, h1, m', hx, _⟩ := hp
            cases hx
          | panic ch =>
            obtain ⟨x, t, h1, m', hx, _⟩ := hp
            cases hx
        · cases hcomp
      · cases hcomp
  | prim hp => exact hM.prim _ _ _ _ hp
  | @skip t h Q hQ =>
    intro C hC m w a ht hd hk
    obtain rfl := compC_skip hC
    exact ⟨wp_skip ⟨.normal, t, h, m, rfl, hQ, Emb.le.refl m, ht, hd, hk⟩, by simp⟩
  | @seq c1 c2 t h Q Q1 _ _ hx ih1 ih2 =>
    intro C hC m w a ht hd hk
    obtain ⟨x, y, rfl, hx1, hy1⟩ := compC_seq hC
    refine ⟨wp_seq (wp_mono (ih1 x hx1 m w a ht hd hk).1 fun e a' w' hp => ?_), by simp⟩
    cases e with
    | normal =>
      obtain ⟨t1, h1, m', hQ, hle, ht1, hd1, hk1⟩ := hp.normal
      exact wp_mono (ih2 t1 h1 hQ y hy1 m' w' a' ht1 hd1 hk1).1 fun e a' w' hp => hp.mono hle fun _ _ _ _ h => h
    | outgrown => exact hp
    | exit id => exact PostC.mono (Emb.le.refl m) hp fun x t h hx' hq => hx x t h (by rintro rfl; simp [toX] at hx') hq
    | ret => exact PostC.mono (Emb.le.refl m) hp fun x t h hx' hq => hx x t h (by rintro rfl; simp [toX] at hx') hq
    | goto l => exact PostC.mono (Emb.le.refl m) hp fun x t h hx' hq => by simp [toX] at hx'
    | panic l => exact PostC.mono (Emb.le.refl m) hp fun x t h hx' hq => by simp [toX] at hx'
  | @condT c c1 c2 t h Q hc _ ih =>
    intro C hC m w a ht hd hk
    obtain ⟨o, x, y, rfl, ho, hx1, hy1⟩ := compC_cond hC
    have hv := compO_sound ho ht
    rw [hc] at hv
    simp only [VR] at hv
    exact ⟨wp_cond_true hv (ih x hx1 m w a ht hd hk).1, by simp⟩
  | @condF c c1 c2 t h Q hc _ ih =>
    intro C hC m w a ht hd hk
    obtain ⟨o, x, y, rfl, ho, hx1, hy1⟩ := compC_cond hC
    have hv := compO_sound ho ht
    rw [hc] at hv
    simp only [VR] at hv
    exact ⟨wp_cond_false hv (ih y hy1 m w a ht hd hk).1, by simp⟩
  | @block id c t h Q _ ih =>
    intro C hC m w a ht hd hk
    obtain ⟨x, rfl, hx1⟩ := compC_block hC
    refine ⟨wp_block (wp_mono (ih x hx1 m w a ht hd hk).1 fun e a' w' hp => ?_), by simp⟩
    cases e with
    | outgrown => exact hp
    | normal =>
      obtain ⟨t1, h1, m', hQ, hr⟩ := hp.normal
      exact ⟨.normal, t1, h1, m', rfl, by simpa using hQ, hr⟩
    | ret =>
      obtain ⟨x, t1, h1, m', hx, hQ, hr⟩ := hp
      cases hx
      exact ⟨.ret, t1, h1, m', rfl, by simpa using hQ, hr⟩
    | exit id' =>
      obtain ⟨x, t1, h1, m', hx, hQ, hr⟩ := hp
      cases hx
      simp only [Exit.inBlock]
      by_cases hid : id' = id
      · subst hid
        rw [if_pos rfl]
        exact ⟨.normal, t1, h1, m', rfl, by simpa using hQ, hr⟩
      · rw [if_neg hid]
        exact ⟨.exit id', t1, h1, m', rfl, by simpa [hid] using hQ, hr⟩
    | goto l =>
      obtain ⟨x, t1, h1, m', hx, _⟩ := hp
      cases hx
    | panic l =>
      obtain ⟨x, t1, h1, m', hx, _⟩ := hp
      cases hx
  | @loop c t h Q Q1 _ _ hx ih1 ih2 =>
    intro C hC m w a ht hd hk
    obtain ⟨x, rfl, hx1⟩ := compC_loop hC
    have key := loop_of (Q := PostC base w0 out m Q) (wp_mono (ih1 x hx1 m w a ht hd hk).1 fun e a' w' hp => ?_)
    · exact ⟨key.1, fun body hb => by cases hb; exact key.2⟩
    · cases e with
      | normal =>
        obtain ⟨t1, h1, m', hQ, hle, ht1, hd1, hk1⟩ := hp.normal
        have hl := (ih2 t1 h1 hQ (.loop x) hC m' w' a' ht1 hd1 hk1).2 x rfl
        exact fun b k cs => let ⟨e, a2, w2, q, r⟩ := hl b k cs; ⟨e, a2, w2, q.mono hle fun _ _ _ _ h => h, r⟩
      | outgrown => exact hp
      | exit id => exact PostC.mono (Emb.le.refl m) hp fun x t h hx' hq => hx x t h (by rintro rfl; simp [toX] at hx') hq
      | ret => exact PostC.mono (Emb.le.refl m) hp fun x t h hx' hq => hx x t h (by rintro rfl; simp [toX] at hx') hq
      | goto l => exact PostC.mono (Emb.le.refl m) hp fun x t h hx' hq => by simp [toX] at hx'
      | panic l => exact PostC.mono (Emb.le.refl m) hp fun x t h hx' hq => by simp [toX] at hx'
  | @exit id t h Q hQ =>
    intro C hC m w a ht hd hk
    obtain rfl := compC_exit hC
    exact ⟨wp_exit ⟨.exit id, t, h, m, rfl, hQ, Emb.le.refl m, ht, hd, hk⟩, by simp⟩
  | @ret t h Q hQ =>
    intro C hC m w a ht hd hk
    obtain rfl := compC_ret hC
    exact ⟨wp_ret ⟨.ret, t, h, m, rfl, hQ, Emb.le.refl m, ht, hd, hk⟩, by simp⟩
  | @region l t h Q _ ih =>
    intro C hC m w a ht hd hk
    obtain ⟨id, ops, rfl, hops⟩ := compC_region hC
    have := ih ops 0 (by simpa [compOps] using hops) m w a ht hd hk _ fun _ _ _ h => h
    rw [Nat.sub_zero, ← List.range_eq_range'] at this
    refine ⟨wp_mono (wp_region this) fun e a' w' hp => PostC.mono (Emb.le.refl m) hp fun x t h _ hq => ?_, by simp⟩
    obtain ⟨rfl, hq⟩ := hq
    exact hq
  | @draw l pre t h Q _ ih =>
    intro C hC m w a ht hd hk
    obtain ⟨id, ops, rfl, hops, hpre⟩ := compC_draw hC
    have hl := (compOps_get hops).1
    have := ih ops (Array.replicate ops.size false) ops.size hops hpre (by simp [hl]) (by simp) (by simp [hl]) m { w with drawn := w.drawn + 1 } a ht hd hk.drewN _ fun _ _ _ h => h
    refine ⟨wp_mono (wp_region_any hM.mixed this) fun e a' w' hp => PostC.mono (Emb.le.refl m) hp fun x t h _ hq => ?_, by simp⟩
    obtain ⟨rfl, hq⟩ := hq
    exact hq
  | @anyDone l pre done t h Q hno hQ =>
    intro ops listed fuel hops hpre hdone hsz hf m w a ht hd hk Q' hQ'
    have hl := (compOps_get hops).1
    subst hpre hdone
    refine wpAny_done (List.eq_nil_iff_forall_not_mem.2 fun i hi => ?_) (hQ' _ _ _ ⟨.normal, t, h, m, rfl, ⟨rfl, hQ⟩, Emb.le.refl m, ht, hd, hk⟩) fuel
    rw [ready_iff hsz] at hi
    rw [hno i (by omega)] at hi
    exact absurd hi.2 (by simp)
  | @anyStep l pre done t h Q Q1 hex _ _ _ ih1 ih2 ih3 =>
    intro ops listed fuel hops hpre hdone hsz hf m w a ht hd hk Q' hQ'
    obtain ⟨hl, hget⟩ := compOps_get hops
    subst hpre hdone
    obtain ⟨i0, hi0, hr0⟩ := hex
    have hnd : ∀ i, readyM (edgesOf ops) listed.toList i = true → listed.toList.getD i true = false := by
      intro i hr
      unfold readyM at hr
      simp only [Bool.and_eq_true, Bool.not_eq_true'] at hr
      exact hr.1
    cases fuel with
    | zero =>
      have := count_set_lt _ _ (hnd i0 hr0)
      omega
    | succ fuel =>
      refine ⟨fun hnil => ?_, fun i hi => ?_⟩
      · have : i0 ∈ Region.ready .any ops listed := (ready_iff hsz).2 ⟨by omega, hr0⟩
        rw [hnil] at this
        cases this
      · rw [ready_iff hsz] at hi
        obtain ⟨hi1, hr⟩ := hi
        have ho : ops[i]? = some ops[i] := Array.getElem?_eq_getElem hi1
        obtain ⟨mo, hmo, hcomp⟩ := hget i _ ho
        obtain ⟨hdst, hop, hg⟩ := compOper_inv hcomp
        have hcnt := count_set_lt _ _ (hnd i hr)
        have hset : listed.toList.set i true = (listed.setIfInBounds i true).toList := by simp
        unfold wpOp
        simp only [ho]
        rw [wanted_sound hg ht]
        cases hw : wantedM t mo.guard with
        | true =>
          rw [if_pos rfl]
          refine .inl (ih1 i mo hmo hr hw _ hop m w a ht hk _ _ (fun v h1 m' cv w' hQ hle hv hk1 => ?_) fun ho => ⟨a, w, hQ' _ _ _ ho⟩)
          have := ih2 i mo hmo hr hw v h1 hQ ops (listed.setIfInBounds i true) fuel hops rfl hset (by simpa using hsz) (by omega) m' w'
          rw [hdst] at this
          exact this (a.put ops[i].dst cv) ((ht.mono hle).put _ hv) (by cases ops[i].dst <;> exact hd) hk1 Q' fun e a' w' hp => hQ' e a' w' (hp.mono hle fun _ _ _ _ h => h)
        | false =>
          rw [if_neg (by simp)]
          have := ih3 i mo hmo hr hw ops (listed.setIfInBounds i true) fuel hops rfl hset (by simpa using hsz) (by omega) m w
          rw [hdst] at this
          exact this (a.put ops[i].dst undef) (ht.put _ (by simp [VR, undef])) (by cases ops[i].dst <;> exact hd) hk Q' hQ'
  | @nil t h Q hQ =>
    intro ops n hl m w a ht hd hk Q' hQ'
    have hn : ops.size - n = 0 := by
      have := (allM_spec hl).1
      simp at this
      omega
    rw [hn]
    exact hQ' _ _ _ ⟨.normal, t, h, m, rfl, ⟨rfl, hQ⟩, Emb.le.refl m, ht, hd, hk⟩
  | @cons o l t h Q Q1 hw _ _ ih1 ih2 =>
    intro ops n hl m w a ht hd hk Q' hQ'
    obtain ⟨O, hO, hcomp, hrest, hrange⟩ := drop_step hl
    obtain ⟨hdst, hop, hg⟩ := compOper_inv hcomp
    rw [hrange]
    simp only [wpOps, hO]
    rw [wanted_sound hg ht, hw, if_pos rfl]
    refine .inl (ih1 O hop m w a ht hk _ _ (fun v h1 m' cv w' hQ hle hv hk1 => ?_) fun ho => ?_)
    · rw [hdst] at ih2
      exact ih2 v h1 hQ ops (n + 1) hrest m' w' (a.put O.dst cv) ((ht.mono hle).put O.dst hv) (by cases O.dst <;> exact hd) hk1 Q' fun e a' w' hp => hQ' e a' w' (hp.mono hle fun _ _ _ _ h => h)
    · exact ⟨a, w, hQ' _ _ _ ho⟩
  | @off o l t h Q hw _ ih =>
    intro ops n hl m w a ht hd hk Q' hQ'
    obtain ⟨O, hO, hcomp, hrest, hrange⟩ := drop_step hl
    obtain ⟨hdst, hop, hg⟩ := compOper_inv hcomp
    rw [hrange]
    simp only [wpOps, hO]
    rw [wanted_sound hg ht, hw, if_neg (by simp)]
    rw [hdst] at ih
    have := ih ops (n + 1) hrest m w (a.put O.dst undef) (ht.put O.dst (by simp [VR, undef])) (by cases O.dst <;> exact hd) hk Q' hQ'
    exact this
  | @op o t h v h1 Q he hQ =>
    intro O hO m w a ht hk next Q' hnext hout
    have hO := (compOp2_inv (compOp3_eval hO he)).resolve_left (by rintro ⟨_, _, _, _, _, _, _, _, rfl⟩; simp [evalOp] at he)
    obtain ⟨m', w', hle, hk', hrun⟩ := hM.ops O o hO.1 hO.2.2 a m h h1 w t v ht hk he
    rcases hrun with ⟨cv, hrun, hv⟩ | ⟨hrun, rfl⟩
    · rw [Oper.wp, hrun, Oper.upon_value]
      exact hnext v h1 m' cv w' hQ hle hv hk'
    · rw [Oper.wp, hrun, Oper.upon_skip]
      exact hnext .undef h1 m' undef w' hQ hle (by simp [VR, undef]) hk'
  | @callOp f args t h g cap Q hf _ ih =>
    intro O hO m w a ht hk next Q' hnext hout
    have hO := (compOp2_inv (compOp3_call hO hf)).resolve_right (by simp [isCallM])
    obtain ⟨c, fo, f', args', hc, hcal, hfo, hargs, he⟩ := hO
    cases he
    have hv := compO_sound hfo ht
    rw [hf] at hv
    simp only [VR] at hv
    obtain ⟨cs, hfv, hcap⟩ := hv
    have e : (execOp a.eval O).run P w = (callFunc g (c.args.map a.eval ++ cs)).run P w := by
      simp [execOp, hc, resolve, hcal, Deferred.ofValue, hfv, invoke]
    rw [Oper.wp, e]
    refine ih m w (c.args.map a.eval ++ cs) ?_ hk O a next Q' hnext hout
    rw [Array.toList_append, Array.toList_map]
    exact (compOs_sound hargs ht).append hcap
end
end Go.Abs

set_option linter.unusedVariables false
set_option linter.unusedSimpArgs false
namespace Go.Abs
open Go.RowKit
section
variable {P : Program} {o : Oper} {a : Act} {m : Emb} {h : Heap} {base : Nat} {w0 w : World} {t : Tmps} {v : AV} {h' : Heap}

theorem op_sound {mo : MOp} (hc : compOp P o.op = some mo) (htodo : isTodo mo = false) (ht : TR m t a.tmps) (k : HR m h base w0 w) (he : evalOp t h mo = some (v, h')) : OpOK P o a m h' base w0 w v := by
  unfold compOp at hc
  split at hc
  · rename_i x hop
    simp only [Option.map_eq_some_iff] at hc
    obtain ⟨mx, hx, rfl⟩ := hc
    exact sound_move (.inl hop) hx ht k he
  · rename_i x hop
    simp only [Option.map_eq_some_iff] at hc
    obtain ⟨mx, hx, rfl⟩ := hc
    exact sound_move (.inr hop) hx ht k he
  · rename_i c x y hop
    split at hc
    · rename_i mc mx my h1 h2 h3
      cases hc
      exact sound_pick hop h1 h2 h3 ht k he
    · cases hc
  · rename_i ty hop
    split at hc
    · rename_i i hi
      split at hc
      · rename_i z hz
        split at hc
        · split at hc
          · rename_i hl
            cases hc
            exact sound_newB hop hi hz hl k he
          · cases hc
        · simp only [Option.map_eq_some_iff] at hc
          obtain ⟨l, hl, rfl⟩ := hc
          exact sound_alloc hop hi hz hl k he
      · cases hc
    · cases hc
  · rename_i ty x hop
    split at hc
    · rename_i n mx hn hx
      cases hc
      exact sound_box hop hx ht k he
    · cases hc
  · rename_i ty ps hop
    split at hc
    · rename_i fs i hu hi
      split at hc
      · rename_i z pl hz hpl
        split at hc
        · rename_i mz mps hmz hmps
          cases hc
          exact sound_build hop hu hi hz hpl hmz hmps ht k he
        · cases hc
      · cases hc
    · rename_i n e i hu hi
      split at hc
      · rename_i z s hz hs
        split at hc
        · rename_i mz mps hmz hmps
          cases hc
          exact sound_buildArr hop hu hi hz hs hmz hmps ht k he
        · cases hc
      · cases hc
    · cases hc
  · rename_i ty n ps hop
    split at hc
    · rename_i e hu
      split at hc
      · rename_i i hi
        split at hc
        · cases hc
        · rename_i hsz
          split at hc
          · rename_i z hz
            split at hc
            · rename_i l mps hl hmps
              cases hc
              exact sound_buildSlice hop hu hi hsz hz hl hmps ht k he
            · cases hc
          · cases hc
      · cases hc
    · cases hc
  · rename_i ty x hop
    split at hc
    · rename_i agg mx hagg hx
      cases hc
      exact sound_load hop hagg hx ht k he
    · cases hc
  · rename_i ty x y hop
    split at hc
    · rename_i n mx my hn hx hy
      cases hc
      exact sound_store hop hn hx hy ht k he
    · cases hc
  · rename_i x hop
    simp only [Option.map_eq_some_iff] at hc
    obtain ⟨mx, hx, rfl⟩ := hc
    exact sound_nilCheck hop hx ht k he
  · rename_i op ty x y ty' hop
    split at hc
    · rename_i hif
      split at hc
      · rename_i neg hneg
        split at hc
        · rename_i hny
          simp only [Option.map_eq_some_iff] at hc
          obtain ⟨mx, hx, rfl⟩ := hc
          exact sound_isNil hop hif hneg (.inl ⟨hny, hx⟩) ht k he
        · split at hc
          · rename_i hnx
            simp only [Option.map_eq_some_iff] at hc
            obtain ⟨mx, hx, rfl⟩ := hc
            exact sound_isNil hop hif hneg (.inr ⟨hnx, hx⟩) ht k he
          · cases hc
      · cases hc
    · split at hc
      · rename_i mx my hx hy
        split at hc
        · cases hc
          exact sound_bin hop hx hy ht k he
        · split at hc
          · rename_i neg hneg
            split at hc
            · rename_i kk hk
              cases hc
              exact sound_eqv hop hk hneg hx hy ht k he
            · split at hc
              · rename_i ks n hks hagg
                split at hc
                · rename_i hg
                  cases hc
                  exact sound_eqAgg hop hks hagg (ck_guard 5 hks (Nat.le_of_ble_eq_true hg)) hneg hx hy ht k he
                · cases hc
              · cases hc
          · cases hc
      · cases hc
  · rename_i op ty x hop
    simp only [Option.map_eq_some_iff] at hc
    obtain ⟨mx, hx, rfl⟩ := hc
    exact sound_un hop hx ht k he
  · rename_i src dst x hop
    split at hc
    · rename_i d kk mx hs hd hx
      cases hc
      exact sound_convInt hop hs hd hx ht k he
    · rename_i mx hs hd hx _
      cases hc
      exact sound_convStr hop ‹_› ‹_› ‹_› ht k he
    · split at hc
      · cases hc
        exact sound_runes hop ‹_› ‹_› ‹_› ‹_› ht k he
      · cases hc
    · cases hc
  · rename_i ty x hop
    split at hc
    · rename_i hcon
      simp only [Option.map_eq_some_iff] at hc
      obtain ⟨mx, hx, rfl⟩ := hc
      exact sound_mkIface hop hcon hx ht k he
    · cases hc
  · rename_i f first cap hop
    split at hc
    · rename_i hf
      simp only [Option.map_eq_some_iff] at hc
      obtain ⟨mx, hx, rfl⟩ := hc
      exact sound_mkFn hop hf hx ht k he
    · cases hc
  · rename_i ty hop
    cases hc
    exact sound_mkMap hop k he
  · rename_i ty x y ok hop
    split at hc
    · rename_i kt et mx my hu hx hy
      split at hc
      · rename_i i hkt hi
        split at hc
        · rename_i z hz
          split at hc
          · rename_i zv hzv
            cases hc
            exact sound_lookup hop hu hkt hi hz hzv hx hy ht k he
          · cases hc
        · cases hc
      · cases hc
    · cases hc
  · rename_i ty x y u hop
    split at hc
    · rename_i kt et mx my mu hu hx hy hw
      split at hc
      · rename_i hkt
        cases hc
        exact sound_mapUpdate hop hu hkt hx hy hw ht k he
      · cases hc
    · cases hc
  · rename_i ty x y hop
    split at hc
    · rename_i e mx my hu hx hy
      split at hc
      · rename_i i hi
        split at hc
        · rename_i z hz
          split at hc
          · rename_i mz hmz
            split at hc
            · rename_i hzs
              cases hc
              exact sound_mkSlice hop hu hi hz hmz hzs hx hy ht k he
            · cases hc
          · cases hc
        · cases hc
      · cases hc
    · cases hc
  · rename_i ty x lo hi hop
    split at hc
    · rename_i mx mlo mhi hu hx hlo hhi
      cases hc
      exact sound_sliceStr hop hu hx hlo hhi ht k he
    · rename_i e mx mlo mhi hu hx hlo hhi
      simp only [Option.map_eq_some_iff] at hc
      obtain ⟨s, hs, rfl⟩ := hc
      exact sound_sliceSlc hop hu hs hx hlo hhi ht k he
    · cases hc
  · rename_i s x f hop
    split at hc
    · rename_i fs mx hu hx
      split at hc
      · rename_i fd hf
        split at hc
        · rename_i n hn
          split at hc
          · cases hc
          · rename_i hn0
            cases hc
            exact sound_fieldAddr hop hu hf hn hn0 hx ht k he
        · cases hc
      · cases hc
    · cases hc
  · rename_i s x f hop
    split at hc
    · rename_i fs mx hu hx
      split at hc
      · rename_i fd hf
        simp only [Option.map_eq_some_iff] at hc
        obtain ⟨agg, hagg, rfl⟩ := hc
        exact sound_field hop hu hf hagg hx ht k he
      · cases hc
    · cases hc
  · rename_i ty x i hop
    split at hc
    · rename_i e mx mi hu hx hi
      simp only [Option.map_eq_some_iff] at hc
      obtain ⟨s, hs, rfl⟩ := hc
      exact sound_indexAddr hop hu hs hx hi ht k he
    · rename_i n e mx mi hu hx hi
      simp only [Option.map_eq_some_iff] at hc
      obtain ⟨s, hs, rfl⟩ := hc
      exact sound_indexArr hop hu hs hx hi ht k he
    · cases hc
  · rename_i ty x i hop
    split at hc
    · rename_i mx mi hu hx hi
      cases hc
      exact sound_indexStr hop hu hx hi ht k he
    · rename_i n e mx mi hu hx hi
      split at hc
      · rename_i s agg hs hagg
        cases hc
        exact sound_indexAgg hop hu hs hagg hx hi ht k he
      · cases hc
    · cases hc
  · rename_i x i hop
    simp only [Option.map_eq_some_iff] at hc
    obtain ⟨mx, hx, rfl⟩ := hc
    exact sound_extract hop hx ht k he
  · rename_i ty x hop
    split at hc
    · rename_i hu
      simp only [Option.map_eq_some_iff] at hc
      obtain ⟨mx, hx, rfl⟩ := hc
      exact sound_rangeStr hop hu hx ht k he
    · cases hc
  · rename_i x hop
    simp only [Option.map_eq_some_iff] at hc
    obtain ⟨mx, hx, rfl⟩ := hc
    exact sound_nextStr hop hx ht k he
  · split at hc
    · cases hc
      simp [evalOp] at he
    · cases hc
  · rename_i args argTypes hop
    split at hc
    · rename_i ty mx hty hx
      split at hc
      · rename_i hu
        cases hc
        exact sound_lenStr hop hty hu hx ht k he
      · rename_i e hu
        cases hc
        exact sound_lenSlc hop hty hu hx ht k he
      · rename_i n e hu
        cases hc
        exact sound_lenConst hop hty hu hx ht k he
      · rename_i kt vt hu
        cases hc
        exact sound_lenMap hop hty hu hx ht k he
      · cases hc
    · cases hc
  · rename_i args argTypes hop
    split at hc
    · rename_i ty mx my hty hx hy
      split at hc
      · rename_i kt et hu
        split at hc
        · rename_i hkt
          cases hc
          exact sound_mapDelete hop hty hu hkt hx hy ht k he
        · cases hc
      · cases hc
    · cases hc
  · rename_i args argTypes hop
    split at hc
    · rename_i ty u ms mx h0 h1 hs hx
      split at hc
      · rename_i e e2 hty hu
        simp only [Option.bind_eq_some_iff] at hc
        obtain ⟨i, hi, hc⟩ := hc
        split at hc
        · cases hc
        · rename_i hsz
          simp only [Option.bind_eq_some_iff] at hc
          obtain ⟨z, hz, hc⟩ := hc
          split at hc
          · rename_i hzs
            cases hc
            exact sound_append hop h0 h1 hty hu hi hsz hz hzs hs hx ht k he
          · cases hc
      · cases hc
    · cases hc
  · rename_i args argTypes hop
    split at hc
    · rename_i mx my hx
      cases hc
      exact sound_min hop hx ht k he
    · cases hc
  · rename_i args argTypes hop
    split at hc
    · rename_i mx my hx
      cases hc
      exact sound_max hop hx ht k he
    · cases hc
  · cases hc
end
end Go.Abs

set_option linter.unusedVariables false
set_option linter.unusedSimpArgs false
namespace Go.Abs

inductive Tok where
  | val (v : AV)
  | full (v : AV) (h : Heap)
  | call (v : AV) (h : Heap)

abbrev Orc := List (Nat × Tok)

structure St where
  orc : Orc
  ps : List Prop

def tokAt (d : Nat) : Orc → Option Tok
  | [] => none
  | (k, tok) :: _ => if Nat.beq k d then some tok else none

def MO.longs : MO → List (List UInt8)
  | .const (.str l) => if 24 < l.length then [l] else []
  | _ => []
def MOp.longs : MOp → List (List UInt8)
  | .build _ ps => ps.flatMap (·.2.2.longs)
  | .mov x => x.longs
  | .bin _ x y => x.longs ++ y.longs
  | .call _ args => args.flatMap (·.longs)
  | .indexStr x _ => x.longs
  | .sliceStr x _ _ => x.longs
  | _ => []
def MCode.longs : MCode → List (List UInt8)
  | .region l => l.flatMap (·.op.longs)
  | .draw l _ => l.flatMap (·.op.longs)
  | .seq a b => a.longs ++ b.longs
  | .cond _ a b => a.longs ++ b.longs
  | .block _ c => c.longs
  | .loop c => c.longs
  | _ => []

def MOp.opnds : MOp → List MO
  | .mov x => [x]
  | .pick c a b => [c, a, b]
  | .load _ a => [a]
  | .nilCheck x => [x]
  | .bin _ x y => [x, y]
  | .eqv _ _ x y => [x, y]
  | .eqAgg _ _ x y => [x, y]
  | .isNil _ x => [x]
  | .un _ x => [x]
  | .convInt _ x => [x]
  | .convStr x => [x]
  | .mkIface _ x => [x]
  | .mkFn _ cap => cap
  | .build _ ps => ps.map (·.2.2)
  | .sliceStr x lo hi => x :: (lo.toList ++ hi.toList)
  | .sliceSlc _ x lo hi => x :: (lo.toList ++ hi.toList)
  | .fieldAddr _ x => [x]
  | .field _ _ x => [x]
  | .indexAddr _ x i => [x, i]
  | .indexArr _ _ x i => [x, i]
  | .indexStr x i => [x, i]
  | .indexAgg _ _ _ x i => [x, i]
  | .lenStr x => [x]
  | .lenSlc x => [x]
  | .lenMap x => [x]
  | .lenConst _ => []
  | .mini x y => [x, y]
  | .maxi x y => [x, y]
  | .extract _ x => [x]
  | _ => []

def MOp.still : MOp → Bool
  | .mov _ | .pick .. | .load .. | .nilCheck _ | .bin .. | .eqv .. | .eqAgg .. | .isNil .. | .un .. | .convInt .. | .convStr _ | .mkIface .. | .mkFn .. | .build .. | .sliceStr .. | .sliceSlc .. | .fieldAddr .. | .field .. | .indexAddr ..
  | .indexArr .. | .indexStr .. | .indexAgg .. | .lenStr _ | .lenSlc _ | .lenMap _ | .lenConst _ | .mini .. | .maxi .. | .extract .. => true
  | _ => false

def MOp.tmps (o : MOp) : List Nat := o.opnds.filterMap fun
  | .tmp t => some t
  | _ => none

def MOper.reads (o : MOper) : List Nat := o.op.tmps ++ (match o.guard with
  | some (g, _) => [g]
  | none => [])

def drawOK (l : List MOper) (pre : List (List Nat)) : Bool :=
  l.all (·.op.still) && pre.length == l.length && (List.range l.length).all fun i => (pre.getD i []).all (fun j => decide (j < i)) && (List.range l.length).all fun j =>
    match l[i]?, l[j]? with
    | some x, some y => (i == j || x.dst.isNone || x.dst != y.dst) && (match y.dst with
      | some d => !x.reads.contains d || ((pre.getD i []).contains j)
      | none => true)
    | _, _ => false

def exec (M : Model) : Nat → Task → Heap → St → Option (Res × St)
  | 0, _, _, _ => none
  | n + 1, .code c t, h, s => match c with
    | .skip => some (.code .normal t h, s)
    | .seq a b => match exec M n (.code a t) h s with
      | some (.code .normal t1 h1, s1) => exec M n (.code b t1) h1 s1
      | r => r
    | .cond c a b => match c.eval t with
      | .bool true => exec M n (.code a t) h s
      | .bool false => exec M n (.code b t) h s
      | _ => none
    | .block id c => match exec M n (.code c t) h s with
      | some (.code x t1 h1, s1) => some (.code (if x = .exit id then .normal else x) t1 h1, s1)
      | _ => none
    | .loop c => match exec M n (.code c t) h s with
      | some (.code .normal t1 h1, s1) => exec M n (.code (.loop c) t1) h1 s1
      | r => r
    | .exit id => some (.code (.exit id) t h, s)
    | .ret => some (.code .ret t h, s)
    | .region l => exec M n (.ops l t) h s
    | .draw l pre => if drawOK l pre then exec M n (.ops l t) h s else none
  | n + 1, .ops l t, h, s => match l with
    | [] => some (.code .normal t h, s)
    | o :: l =>
      if wantedM t o.guard then
        match tokAt (o.dst.getD 9999) s.orc with
        | some (.full v' h') => exec M n (.ops l (put t o.dst v')) h' ⟨s.orc.tail, (evalOp t h o.op = some (v', h')) :: s.ps⟩
        | some (.call v' h') => match o.op with
          | .call f args => match f.eval t with
            | .fn g cap => exec M n (.ops l (put t o.dst v')) h' ⟨s.orc.tail, (∀ Q : AV → Heap → Prop, Q v' h' → Runs M (.call g (args.map (·.eval t) ++ cap) Q) h) :: s.ps⟩
            | _ => none
          | _ => none
        | some (.val v') => match evalOp t h o.op with
          | some (v, h1) => exec M n (.ops l (put t o.dst v')) h1 ⟨s.orc.tail, (v = v') :: s.ps⟩
          | none => none
        | none => match o.op with
          | .call f args => match f.eval t with
            | .fn g cap => match exec M n (.call g (args.map (·.eval t) ++ cap)) h s with
              | some (.val v h1, s1) => exec M n (.ops l (put t o.dst v)) h1 s1
              | _ => none
            | _ => none
          | op => match evalOp t h op with
            | some (v, h1) => exec M n (.ops l (put t o.dst v)) h1 s
            | none => none
      else exec M n (.ops l (put t o.dst .undef)) h s
  | n + 1, .call f args, h, s => match M.fn f with
    | some F => match exec M n (.code F.body (args ++ List.replicate (F.ntmps - args.length) .undef)) h s with
      | some (.code x t1 h1, s1) => if x = .normal ∨ x = .ret then (Abs.results h1 t1 F.results).map fun v => (.val v h1, s1) else none
      | _ => none
    | none => none
  | n + 1, .op _ _, _, _ => none

def Says (M : Model) (T : Task) (h : Heap) : Res → Prop
  | .code x t1 h1 => match T with
    | .code c t => ∀ Q : MX → Tmps → Heap → Prop, Q x t1 h1 → Runs M (.code c t Q) h
    | .ops l t => x = .normal ∧ ∀ Q : Tmps → Heap → Prop, Q t1 h1 → Runs M (.ops l t Q) h
    | _ => False
  | .val v h1 => match T with
    | .call f args => ∀ Q : AV → Heap → Prop, Q v h1 → Runs M (.call f args Q) h
    | _ => False

theorem still_heap {t : Tmps} {h h' : Heap} {o : MOp} {v : AV} (hs : o.still = true) (he : evalOp t h o = some (v, h')) : h' = h := by
  cases o <;> simp only [MOp.still, Bool.false_eq_true] at hs <;> simp only [evalOp] at he <;> (repeat' split at he) <;> simp_all <;> (try (obtain ⟨_, he⟩ := he)) <;> (try simp_all) <;> (obtain ⟨_, _, _, he⟩ := he; exact he.symm)

theorem eval_congr {t t' : Tmps} {x : MO} (h : ∀ i, x = .tmp i → t.getD i .undef = t'.getD i .undef) : x.eval t = x.eval t' := by
  cases x with
  | tmp i => exact h i rfl
  | const v => rfl

theorem still_congr {t t' : Tmps} {h : Heap} {o : MOp} (hs : o.still = true) (ha : ∀ i ∈ o.tmps, t.getD i .undef = t'.getD i .undef) : evalOp t h o = evalOp t' h o := by
  have hx : ∀ x ∈ o.opnds, x.eval t = x.eval t' := fun x hx => eval_congr fun i hi => ha i (List.mem_filterMap.2 ⟨x, hx, by rw [hi]⟩)
  have hopt : ∀ (y : Option MO), (∀ x ∈ y.toList, x.eval t = x.eval t') → y.map (·.eval t) = y.map (·.eval t') := by
    intro y hy
    cases y with
    | none => rfl
    | some y => simp [hy y (by simp)]
  cases o <;> simp only [MOp.still, Bool.false_eq_true] at hs <;> simp only [MOp.opnds, List.mem_cons, List.not_mem_nil, or_false, forall_eq_or_imp, forall_eq, List.mem_append, List.mem_map] at hx <;> first
    | (simp only [evalOp, hx]; done)
    | (simp only [evalOp]; congr 1; done)
    | skip
  case build z ps =>
    have : (ps.map fun p => (p.1, p.2.1, p.2.2.eval t)) = ps.map fun p => (p.1, p.2.1, p.2.2.eval t') := List.map_congr_left fun p hp => by rw [hx _ ⟨p, hp, rfl⟩]
    simp only [evalOp, this]
  case mkFn f cap =>
    have : cap.map (·.eval t) = cap.map (·.eval t') := List.map_congr_left hx
    simp only [evalOp, this]
  case sliceStr x lo hi =>
    have h1 := hopt lo fun y hy => hx.2 y (.inl hy)
    have h2 := hopt hi fun y hy => hx.2 y (.inr hy)
    simp only [evalOp, hx.1, h1, h2]
  case sliceSlc es x lo hi =>
    have h1 := hopt lo fun y hy => hx.2 y (.inl hy)
    have h2 := hopt hi fun y hy => hx.2 y (.inr hy)
    simp only [evalOp, hx.1, h1, h2]

def runVals (h : Heap) : List MOper → Tmps → Option (List AV × Tmps)
  | [], t => some ([], t)
  | o :: l, t =>
    if wantedM t o.guard then match evalOp t h o.op with
      | some (v, _) => (runVals h l (put t o.dst v)).map fun r => (v :: r.1, r.2)
      | none => none
    else (runVals h l (put t o.dst .undef)).map fun r => (.undef :: r.1, r.2)

theorem still_op {M : Model} {h : Heap} {Q : AV → Heap → Prop} {o : MOp} {t : Tmps} (hs : o.still = true) (hr : Runs M (.op o t Q) h) : ∃ v, evalOp t h o = some (v, h) ∧ Q v h := by
  cases hr with
  | op he hQ =>
    have hh := still_heap hs he
    subst hh
    exact ⟨_, he, hQ⟩
  | callOp hf _ => simp [MOp.still] at hs

theorem still_runs {M : Model} {h : Heap} {Q : Tmps → Heap → Prop} : ∀ {l : List MOper} {t : Tmps}, l.all (·.op.still) = true → Runs M (.ops l t Q) h → ∃ vs t1, runVals h l t = some (vs, t1) ∧ Q t1 h
  | [], t, hs, hr => by
    cases hr with
    | nil hQ => exact ⟨[], t, rfl, hQ⟩
  | o :: l, t, hs, hr => by
    simp only [List.all_cons, Bool.and_eq_true] at hs
    cases hr with
    | cons Q1 hw h1 h2 =>
      obtain ⟨v, he, hQ⟩ := still_op hs.1 h1
      obtain ⟨vs, t1, h3, h4⟩ := still_runs hs.2 (h2 _ _ hQ)
      refine ⟨v :: vs, t1, ?_, h4⟩
      simp only [runVals, hw, if_true, he, h3, Option.map_some]
    | off hw h1 =>
      obtain ⟨vs, t1, h3, h4⟩ := still_runs hs.2 h1
      refine ⟨.undef :: vs, t1, ?_, h4⟩
      simp [runVals, hw, h3]

theorem getD_put {t : Tmps} {d : Option Nat} {v : AV} {x : Nat} : (put t d v).getD x .undef = if d = some x ∧ x < t.length then v else t.getD x .undef := by
  cases d with
  | none => simp [put]
  | some d =>
    simp only [put, List.getD_eq_getElem?_getD, List.getElem?_set, Option.some.injEq]
    by_cases h1 : d = x
    · subst h1
      by_cases h2 : d < t.length
      · simp [h2]
      · simp [h2, List.getElem?_eq_none (Nat.le_of_not_lt h2)]
    · simp [h1]

theorem length_put {t : Tmps} {d : Option Nat} {v : AV} : (put t d v).length = t.length := by
  cases d <;> simp [put]

structure Shape (l : List MOper) (vs : List AV) (t : Tmps) (D : Nat → Prop) (s : Tmps) : Prop where
  len : s.length = t.length
  old : ∀ x, (∀ j o, l[j]? = some o → D j → o.dst ≠ some x) → s.getD x .undef = t.getD x .undef
  new : ∀ j o x, l[j]? = some o → D j → o.dst = some x → x < t.length → s.getD x .undef = vs.getD j .undef

def Distinct (l : List MOper) : Prop := ∀ (i j : Nat) (x y : MOper) (d : Nat), l[i]? = some x → l[j]? = some y → x.dst = some d → y.dst = some d → i = j

theorem Shape.put {l : List MOper} {vs : List AV} {t s : Tmps} {D : Nat → Prop} (hd : Distinct l) (k : Shape l vs t D s) {i : Nat} {o : MOper} (ho : l[i]? = some o) (hi : ¬ D i) {v : AV} (hv : vs.getD i .undef = v) :
    Shape l vs t (fun j => D j ∨ j = i) (Abs.put s o.dst v) := by
  refine ⟨by rw [length_put, k.len], fun x hx => ?_, fun j o' x hj hD hdx hxl => ?_⟩
  · rw [getD_put, if_neg (fun h => hx i o ho (.inr rfl) h.1)]
    exact k.old x fun j o' hj hD => hx j o' hj (.inl hD)
  · rw [getD_put]
    by_cases hji : j = i
    · subst hji
      rw [ho] at hj
      cases hj
      rw [if_pos ⟨hdx, by rw [k.len]; exact hxl⟩, hv]
    · rw [if_neg (fun h => hji (hd j i o' o x hj ho hdx h.1))]
      exact k.new j o' x hj (hD.resolve_right hji) hdx hxl

theorem Shape.ext {l : List MOper} {vs : List AV} {t s s' : Tmps} {D D' : Nat → Prop} (hD : ∀ j, j < l.length → (D j ↔ D' j)) (k : Shape l vs t D s) (k' : Shape l vs t D' s') : s = s' := by
  refine List.ext_getElem (by rw [k.len, k'.len]) fun x h1 h2 => ?_
  have e : s.getD x .undef = s'.getD x .undef := by
    by_cases hx : ∃ j o, l[j]? = some o ∧ D j ∧ o.dst = some x
    · obtain ⟨j, o, hj, hDj, hd⟩ := hx
      have hxl : x < t.length := by rw [← k.len]; exact h1
      rw [k.new j o x hj hDj hd hxl, k'.new j o x hj ((hD j (List.getElem?_eq_some_iff.1 hj).1).1 hDj) hd hxl]
    · rw [k.old x fun j o hj hDj hd => hx ⟨j, o, hj, hDj, hd⟩, k'.old x fun j o hj hDj hd => hx ⟨j, o, hj, (hD j (List.getElem?_eq_some_iff.1 hj).1).2 hDj, hd⟩]
  simpa [List.getD_eq_getElem?_getD, h1, h2] using e

theorem runVals_spec {h : Heap} {l : List MOper} (hd : Distinct l) {t : Tmps} : ∀ (suf : List MOper) (n : Nat) (s : Tmps) (vs0 vs1 : List AV) (t1 : Tmps), l.drop n = suf → vs0.length = n → Shape l (vs0 ++ vs1) t (· < n) s → runVals h suf s = some (vs1, t1) →
    vs1.length = suf.length ∧ Shape l (vs0 ++ vs1) t (· < l.length) t1 ∧ ∀ i o, n ≤ i → l[i]? = some o → ∃ ti, Shape l (vs0 ++ vs1) t (· < i) ti ∧
      (wantedM ti o.guard = true → ∃ h', evalOp ti h o.op = some ((vs0 ++ vs1).getD i .undef, h')) ∧ (wantedM ti o.guard = false → (vs0 ++ vs1).getD i .undef = .undef)
  | [], n, s, vs0, vs1, t1, hdrop, hlen, hs, hr => by
    simp only [runVals, Option.some.injEq, Prod.mk.injEq] at hr
    obtain ⟨rfl, rfl⟩ := hr
    have hn : l.length ≤ n := List.drop_eq_nil_iff.1 hdrop
    refine ⟨rfl, ⟨hs.len, fun x hx => hs.old x fun j o hj hD => hx j o hj (List.getElem?_eq_some_iff.1 hj).1, fun j o x hj hD hdx hxl => hs.new j o x hj (Nat.lt_of_lt_of_le (List.getElem?_eq_some_iff.1 hj).1 hn) hdx hxl⟩, fun i o hi ho => ?_⟩
    have := (List.getElem?_eq_some_iff.1 ho).1
    omega
  | o :: suf, n, s, vs0, vs1, t1, hdrop, hlen, hs, hr => by
    have hn : n < l.length := by
      rcases Nat.lt_or_ge n l.length with h' | h'
      · exact h'
      · rw [List.drop_eq_nil_of_le h'] at hdrop; cases hdrop
    have e := List.drop_eq_getElem_cons hn
    rw [hdrop] at e
    injection e with e1 e2
    have hon : l[n]? = some o := by rw [List.getElem?_eq_getElem hn, e1]
    obtain ⟨v, vs2, hw1, hw2, rfl, hr2⟩ : ∃ v vs2, (wantedM s o.guard = true → ∃ h', evalOp s h o.op = some (v, h')) ∧ (wantedM s o.guard = false → v = .undef) ∧ vs1 = v :: vs2 ∧ runVals h suf (Abs.put s o.dst v) = some (vs2, t1) := by
      simp only [runVals] at hr
      split at hr
      · rename_i hw
        split at hr
        · rename_i v h' he
          simp only [Option.map_eq_some_iff, Prod.mk.injEq] at hr
          obtain ⟨r, hr, rfl, rfl⟩ := hr
          refine ⟨v, r.1, fun _ => ⟨h', he⟩, ?_, rfl, hr⟩
          intro hf
          rw [hw] at hf
          cases hf
        · cases hr
      · rename_i hw
        simp only [Option.map_eq_some_iff, Prod.mk.injEq] at hr
        obtain ⟨r, hr, rfl, rfl⟩ := hr
        refine ⟨.undef, r.1, ?_, fun _ => rfl, rfl, hr⟩
        intro hf
        exact absurd hf hw
    have hvn : (vs0 ++ v :: vs2).getD n .undef = v := by
      simp [List.getD_eq_getElem?_getD, ← hlen]
    have hs' : Shape l (vs0 ++ v :: vs2) t (· < n + 1) (Abs.put s o.dst v) := by
      have := hs.put hd hon (by omega) hvn
      refine ⟨this.len, fun x hx => this.old x fun j o' hj hD => hx j o' hj (by omega), fun j o' x hj hD => this.new j o' x hj (by omega)⟩
    have happ : vs0 ++ v :: vs2 = (vs0 ++ [v]) ++ vs2 := by simp
    obtain ⟨g1, g2, g3⟩ := runVals_spec hd suf (n + 1) (Abs.put s o.dst v) (vs0 ++ [v]) vs2 t1 e2.symm (by simp [hlen]) (by rw [← happ]; exact hs') hr2
    refine ⟨by simp [g1], by rw [happ]; exact g2, fun i o' hi ho' => ?_⟩
    by_cases hin : i = n
    · subst hin
      rw [hon] at ho'
      cases ho'
      exact ⟨s, hs, fun hw => by rw [hvn]; exact hw1 hw, fun hw => by rw [hvn]; exact hw2 hw⟩
    · rw [happ]
      exact g3 i o' (by omega) ho'

structure DrawSpec (l : List MOper) (pre : List (List Nat)) : Prop where
  still : l.all (·.op.still) = true
  less : ∀ i j, i < l.length → j ∈ pre.getD i [] → j < i
  distinct : Distinct l
  reads : ∀ (i j : Nat) (x y : MOper) (d : Nat), l[i]? = some x → l[j]? = some y → y.dst = some d → d ∈ x.reads → j ∈ pre.getD i []

theorem drawOK_spec {l : List MOper} {pre : List (List Nat)} (h : drawOK l pre = true) : DrawSpec l pre := by
  unfold drawOK at h
  simp only [Bool.and_eq_true] at h
  obtain ⟨⟨h1, h2⟩, h3⟩ := h
  rw [List.all_eq_true] at h3
  have key : ∀ (i j : Nat) (x y : MOper), l[i]? = some x → l[j]? = some y → (i == j || x.dst.isNone || x.dst != y.dst) = true ∧ (match y.dst with
      | some d => !x.reads.contains d || ((pre.getD i []).contains j)
      | none => true) = true := by
    intro i j x y hx hy
    have := h3 i (List.mem_range.2 (List.getElem?_eq_some_iff.1 hx).1)
    simp only [Bool.and_eq_true] at this
    have := List.all_eq_true.1 this.2 j (List.mem_range.2 (List.getElem?_eq_some_iff.1 hy).1)
    rw [hx, hy] at this
    simpa only [Bool.and_eq_true] using this
  refine ⟨h1, fun i j hi hj => ?_, fun i j x y d hx hy hdx hdy => ?_, fun i j x y d hx hy hdy hr => ?_⟩
  · have := h3 i (List.mem_range.2 hi)
    simp only [Bool.and_eq_true] at this
    have := List.all_eq_true.1 this.1 j hj
    simpa using this
  · have := (key i j x y hx hy).1
    rw [hdx, hdy] at this
    simpa using this
  · have := (key i j x y hx hy).2
    rw [hdy] at this
    simp only [Bool.or_eq_true, Bool.not_eq_true', List.contains_iff_mem] at this
    rcases this with h' | h'
    · have : x.reads.contains d = true := by simpa using hr
      rw [this] at h'
      cases h'
    · exact h'

theorem least (p : Nat → Prop) : ∀ n, p n → ∃ i, i ≤ n ∧ p i ∧ ∀ j, j < i → ¬ p j := by
  intro n
  induction n using Nat.strongRecOn with
  | _ n ih =>
    intro hn
    by_cases hx : ∃ j, j < n ∧ p j
    · obtain ⟨j, hj, hpj⟩ := hx
      obtain ⟨i, hi, h1, h2⟩ := ih j hj hpj
      exact ⟨i, by omega, h1, h2⟩
    · exact ⟨n, Nat.le_refl n, hn, fun j hj hp => hx ⟨j, hj, hp⟩⟩

theorem getD_set_self {l : List Bool} {i j : Nat} (hi : i < l.length) : ((l.set i true).getD j false = true) ↔ (l.getD j false = true ∨ j = i) := by
  simp only [List.getD_eq_getElem?_getD, List.getElem?_set]
  by_cases h : i = j
  · subst h
    simp [hi]
  · have : ¬ j = i := fun h' => h h'.symm
    simp [h, this]

theorem draw_runs {M : Model} {l : List MOper} {pre : List (List Nat)} {t : Tmps} {Q : Tmps → Heap → Prop} {h : Heap} (hok : drawOK l pre = true) (hr : Runs M (.ops l t Q) h) : Runs M (.any l pre (List.replicate l.length false) t Q) h := by
  have S := drawOK_spec hok
  obtain ⟨vs, t1, hv, hQ⟩ := still_runs S.still hr
  have s0 : ∀ D, (∀ j, ¬ D j) → Shape l vs t D t := fun D hD => ⟨rfl, fun _ _ => rfl, fun j _ _ _ h => absurd h (hD j)⟩
  obtain ⟨g1, g2, g3⟩ := runVals_spec S.distinct l 0 t [] vs t1 rfl rfl (s0 _ (by omega)) hv
  simp only [List.nil_append] at g2 g3
  have key : ∀ (k : Nat) (done : List Bool) (s : Tmps), done.count false = k → done.length = l.length → Shape l vs t (fun j => done.getD j false = true) s → Runs M (.any l pre done s Q) h := by
    intro k
    induction k with
    | zero =>
      intro done s hk hl hs
      have hall : ∀ j, j < l.length → done.getD j false = true := by
        intro j hj
        have : done[j]'(by omega) ≠ false := by
          intro hf
          have := List.count_pos_iff.2 (hf ▸ List.getElem_mem (l := done) (by omega : j < done.length))
          omega
        simp only [List.getD_eq_getElem?_getD, List.getElem?_eq_getElem (by omega : j < done.length), Option.getD_some]
        simpa using this
      refine .anyDone (fun i hi => ?_) ?_
      · have := hall i hi
        have h2 : done.getD i true = true := by
          simp only [List.getD_eq_getElem?_getD, List.getElem?_eq_getElem (by omega : i < done.length), Option.getD_some] at this ⊢
          exact this
        unfold readyM
        rw [h2]
        rfl
      · have : s = t1 := Shape.ext (D' := (· < l.length)) (fun j hj => ⟨fun _ => hj, fun _ => hall j hj⟩) hs g2
        rw [this]
        exact hQ
    | succ k ih =>
      intro done s hk hl hs
      have hund : ∀ i, i < l.length → (done.getD i true = false ↔ ¬ done.getD i false = true) := by
        intro i hi
        simp only [List.getD_eq_getElem?_getD, List.getElem?_eq_getElem (by omega : i < done.length), Option.getD_some]
        simp
      have agree : ∀ i o ti, l[i]? = some o → readyM pre done i = true → Shape l vs t (· < i) ti → ∀ x ∈ o.reads, s.getD x .undef = ti.getD x .undef := by
        intro i o ti ho hr hti x hx
        have hi := (List.getElem?_eq_some_iff.1 ho).1
        simp only [readyM, Bool.and_eq_true, List.all_eq_true] at hr
        by_cases hj : ∃ (j : Nat) (y : MOper), l[j]? = some y ∧ y.dst = some x
        · obtain ⟨j, y, hy, hd⟩ := hj
          have hpre := S.reads i j o y x ho hy hd hx
          by_cases hxl : x < t.length
          · rw [hs.new j y x hy (hr.2 j hpre) hd hxl, hti.new j y x hy (S.less i j hi hpre) hd hxl]
          · simp [List.getD_eq_getElem?_getD, List.getElem?_eq_none (by rw [hs.len]; omega : s.length ≤ x), List.getElem?_eq_none (by rw [hti.len]; omega : ti.length ≤ x)]
        · rw [hs.old x fun j y hy _ hd => hj ⟨j, y, hy, hd⟩, hti.old x fun j y hy _ hd => hj ⟨j, y, hy, hd⟩]
      have wsame : ∀ i o ti, l[i]? = some o → readyM pre done i = true → Shape l vs t (· < i) ti → wantedM s o.guard = wantedM ti o.guard := by
        intro i o ti ho hr hti
        cases hg : o.guard with
        | none => rfl
        | some g =>
          obtain ⟨g, want⟩ := g
          have := agree i o ti ho hr hti g (by simp [MOper.reads, hg])
          simp only [wantedM, this]
      have next : ∀ i o v, l[i]? = some o → readyM pre done i = true → vs.getD i .undef = v → Runs M (.any l pre (done.set i true) (Abs.put s o.dst v) Q) h := by
        intro i o v ho hr hvi
        have hi := (List.getElem?_eq_some_iff.1 ho).1
        have hnd : done.getD i true = false := by
          simp only [readyM, Bool.and_eq_true, Bool.not_eq_true'] at hr
          exact hr.1
        have hcnt := count_set_lt done i hnd
        refine ih _ _ (by omega) (by simp [hl]) ?_
        have := hs.put S.distinct ho ((hund i hi).1 hnd) hvi
        refine ⟨this.len, fun x hx => this.old x fun j o' hj hD => hx j o' hj ((getD_set_self (by omega)).2 hD), fun j o' x hj hD => this.new j o' x hj ((getD_set_self (by omega)).1 hD)⟩
      refine .anyStep (fun i v h' => vs.getD i .undef = v ∧ h' = h) ?_ ?_ ?_ ?_
      · have : false ∈ done := List.count_pos_iff.1 (by omega)
        obtain ⟨n, hn, hf⟩ := List.mem_iff_getElem.1 this
        obtain ⟨i, hi, h1, h2⟩ := least (fun i => i < l.length ∧ done.getD i true = false) n ⟨by omega, by simp [List.getD_eq_getElem?_getD, hn, hf]⟩
        refine ⟨i, h1.1, ?_⟩
        simp only [readyM, Bool.and_eq_true, List.all_eq_true, h1.2, Bool.not_false, true_and]
        intro j hj
        have hlt := S.less i j h1.1 hj
        have := h2 j hlt
        by_cases hd : done.getD j false = true
        · exact hd
        · exact absurd ⟨by omega, (hund j (by omega)).2 hd⟩ this
      · intro i o ho hr hw
        obtain ⟨ti, hti, e1, e2⟩ := g3 i o (Nat.zero_le i) ho
        rw [wsame i o ti ho hr hti] at hw
        obtain ⟨h', he⟩ := e1 hw
        have hst : o.op.still = true := List.all_eq_true.1 S.still o (List.mem_of_getElem? ho)
        rw [← still_congr hst fun x hx => agree i o ti ho hr hti x (by simp [MOper.reads, hx])] at he
        have := still_heap hst he
        exact .op he ⟨rfl, this⟩
      · intro i o ho hrd hw v h1 hq
        rw [hq.2]
        exact next i o v ho hrd hq.1
      · intro i o ho hr hw
        obtain ⟨ti, hti, e1, e2⟩ := g3 i o (Nat.zero_le i) ho
        rw [wsame i o ti ho hr hti] at hw
        exact next i o _ ho hr (e2 hw)
  exact key _ _ _ rfl (by simp) (s0 _ (by
    intro j hj
    simp only [List.getD_eq_getElem?_getD, List.getElem?_replicate] at hj
    split at hj <;> simp at hj))
end Go.Abs

set_option linter.unusedVariables false
set_option linter.unusedSimpArgs false
namespace Go.Abs

theorem exec_sound {M : Model} : ∀ (n : Nat) (T : Task) (h : Heap) (s : St) (r : Res) (s' : St), exec M n T h s = some (r, s') → ∃ e, s'.ps = e ++ s.ps ∧ ((∀ p ∈ e, p) → Says M T h r) := by
  intro n
  induction n with
  | zero => intro T h s r s' hx; simp [exec] at hx
  | succ n ih =>
    intro T h s r s' hx
    cases T with
    | op o t => simp [exec] at hx
    | code c t =>
      cases c with
      | skip =>
        simp only [exec, Option.some.injEq, Prod.mk.injEq] at hx
        obtain ⟨rfl, rfl⟩ := hx
        exact ⟨[], rfl, fun _ Q hQ => .skip hQ⟩
      | exit id =>
        simp only [exec, Option.some.injEq, Prod.mk.injEq] at hx
        obtain ⟨rfl, rfl⟩ := hx
        exact ⟨[], rfl, fun _ Q hQ => .exit hQ⟩
      | ret =>
        simp only [exec, Option.some.injEq, Prod.mk.injEq] at hx
        obtain ⟨rfl, rfl⟩ := hx
        exact ⟨[], rfl, fun _ Q hQ => .ret hQ⟩
      | seq a b =>
        simp only [exec] at hx
        split at hx
        · rename_i t1 h1 s1 h2
          obtain ⟨e1, g1, k1⟩ := ih _ _ _ _ _ h2
          obtain ⟨e2, g2, k2⟩ := ih _ _ _ _ _ hx
          refine ⟨e2 ++ e1, by rw [g2, g1, List.append_assoc], fun hp => ?_⟩
          have f1 := k1 fun p hp' => hp p (List.mem_append_right _ hp')
          have f2 := k2 fun p hp' => hp p (List.mem_append_left _ hp')
          cases r with
          | code x t2 h2 =>
            exact fun Q hQ => .seq (fun x t h => x = .normal ∧ t = t1 ∧ h = h1) (f1 _ ⟨rfl, rfl, rfl⟩) (by rintro t' h' ⟨_, rfl, rfl⟩; exact f2 Q hQ) (by rintro x t' h' hx ⟨hx', _⟩; exact absurd hx' hx)
          | val v h2 => exact f2.elim
        · rename_i hne
          obtain ⟨e1, g1, k1⟩ := ih _ _ _ _ _ hx
          refine ⟨e1, g1, fun hp => ?_⟩
          have f1 := k1 hp
          cases r with
          | code x t2 h2 =>
            have hxn : x ≠ .normal := by
              rintro rfl
              exact hne _ _ _ hx
            exact fun Q hQ => .seq (fun x' t h => x' = x ∧ t = t2 ∧ h = h2) (f1 _ ⟨rfl, rfl, rfl⟩) (by rintro t' h' ⟨hx', _⟩; exact absurd hx'.symm hxn) (by rintro x' t' h' _ ⟨rfl, rfl, rfl⟩; exact hQ)
          | val v h2 => exact f1.elim
      | cond c a b =>
        simp only [exec] at hx
        split at hx
        · rename_i hc
          obtain ⟨e1, g1, k1⟩ := ih _ _ _ _ _ hx
          refine ⟨e1, g1, fun hp => ?_⟩
          have f1 := k1 hp
          cases r with
          | code x t2 h2 => exact fun Q hQ => .condT hc (f1 Q hQ)
          | val v h2 => exact f1.elim
        · rename_i hc
          obtain ⟨e1, g1, k1⟩ := ih _ _ _ _ _ hx
          refine ⟨e1, g1, fun hp => ?_⟩
          have f1 := k1 hp
          cases r with
          | code x t2 h2 => exact fun Q hQ => .condF hc (f1 Q hQ)
          | val v h2 => exact f1.elim
        · cases hx
      | block id c =>
        simp only [exec] at hx
        split at hx
        · rename_i x t1 h1 s1 h2
          simp only [Option.some.injEq, Prod.mk.injEq] at hx
          obtain ⟨rfl, rfl⟩ := hx
          obtain ⟨e1, g1, k1⟩ := ih _ _ _ _ _ h2
          refine ⟨e1, g1, fun hp => ?_⟩
          have f1 := k1 hp
          exact fun Q hQ => .block (f1 _ hQ)
        · cases hx
      | loop c =>
        simp only [exec] at hx
        split at hx
        · rename_i t1 h1 s1 h2
          obtain ⟨e1, g1, k1⟩ := ih _ _ _ _ _ h2
          obtain ⟨e2, g2, k2⟩ := ih _ _ _ _ _ hx
          refine ⟨e2 ++ e1, by rw [g2, g1, List.append_assoc], fun hp => ?_⟩
          have f1 := k1 fun p hp' => hp p (List.mem_append_right _ hp')
          have f2 := k2 fun p hp' => hp p (List.mem_append_left _ hp')
          cases r with
          | code x t2 h2 =>
            exact fun Q hQ => .loop (fun x t h => x = .normal ∧ t = t1 ∧ h = h1) (f1 _ ⟨rfl, rfl, rfl⟩) (by rintro t' h' ⟨_, rfl, rfl⟩; exact f2 Q hQ) (by rintro x t' h' hx ⟨hx', _⟩; exact absurd hx' hx)
          | val v h2 => exact f2.elim
        · rename_i hne
          obtain ⟨e1, g1, k1⟩ := ih _ _ _ _ _ hx
          refine ⟨e1, g1, fun hp => ?_⟩
          have f1 := k1 hp
          cases r with
          | code x t2 h2 =>
            have hxn : x ≠ .normal := by
              rintro rfl
              exact hne _ _ _ hx
            exact fun Q hQ => .loop (fun x' t h => x' = x ∧ t = t2 ∧ h = h2) (f1 _ ⟨rfl, rfl, rfl⟩) (by rintro t' h' ⟨hx', _⟩; exact absurd hx'.symm hxn) (by rintro x' t' h' _ ⟨rfl, rfl, rfl⟩; exact hQ)
          | val v h2 => exact f1.elim
      | region l =>
        simp only [exec] at hx
        obtain ⟨e1, g1, k1⟩ := ih _ _ _ _ _ hx
        refine ⟨e1, g1, fun hp => ?_⟩
        have f1 := k1 hp
        cases r with
        | code x t2 h2 =>
          obtain ⟨rfl, f1⟩ := f1
          exact fun Q hQ => .region (f1 _ hQ)
        | val v h2 => exact f1.elim
      | draw l pre =>
        simp only [exec] at hx
        split at hx
        · rename_i hok
          obtain ⟨e1, g1, k1⟩ := ih _ _ _ _ _ hx
          refine ⟨e1, g1, fun hp => ?_⟩
          have f1 := k1 hp
          cases r with
          | code x t2 h2 =>
            obtain ⟨rfl, f1⟩ := f1
            exact fun Q hQ => .draw (draw_runs hok (f1 _ hQ))
          | val v h2 => exact f1.elim
        · cases hx
    | ops l t =>
      cases l with
      | nil =>
        simp only [exec, Option.some.injEq, Prod.mk.injEq] at hx
        obtain ⟨rfl, rfl⟩ := hx
        exact ⟨[], rfl, fun _ => ⟨rfl, fun Q hQ => .nil hQ⟩⟩
      | cons o l =>
        have fin : ∀ (v v' : AV) (h1 : Heap) (s1 : St) (e0 : List Prop), s1.ps = e0 ++ s.ps → wantedM t o.guard = true → ((∀ p ∈ e0, p) → v' = v ∧ ∀ Q : AV → Heap → Prop, Q v h1 → Runs M (.op o.op t Q) h) →
            exec M n (.ops l (put t o.dst v')) h1 s1 = some (r, s') → ∃ e, s'.ps = e ++ s.ps ∧ ((∀ p ∈ e, p) → Says M (.ops (o :: l) t) h r) := by
          intro v v' h1 s1 e0 he0 hw hop hx
          obtain ⟨e2, g2, k2⟩ := ih _ _ _ _ _ hx
          refine ⟨e2 ++ e0, by rw [g2, he0]; simp, fun hp => ?_⟩
          obtain ⟨rfl, f0⟩ := hop fun p hp' => hp p (List.mem_append_right _ hp')
          have f2 := k2 fun p hp' => hp p (List.mem_append_left _ hp')
          cases r with
          | code x t2 h2 =>
            obtain ⟨rfl, f2⟩ := f2
            refine ⟨rfl, fun Q hQ => .cons (fun v'' h' => v'' = v' ∧ h' = h1) hw (f0 _ ⟨rfl, rfl⟩) ?_⟩
            rintro v'' h' ⟨rfl, rfl⟩
            exact f2 Q hQ
          | val v h2 => exact f2.elim
        simp only [exec] at hx
        split at hx
        · rename_i hw
          split at hx
          · rename_i v' h1 htok
            exact fin v' v' h1 _ [_] rfl hw (fun hp => ⟨rfl, fun Q hQ => .op (hp _ (List.mem_singleton.2 rfl)) hQ⟩) hx
          · rename_i v' h1 htok
            split at hx
            · rename_i f args hop
              split at hx
              · rename_i g cap hf
                exact fin v' v' h1 _ [_] rfl hw (fun hp => ⟨rfl, fun Q hQ => by rw [hop]; exact .callOp hf (hp _ (List.mem_singleton.2 rfl) Q hQ)⟩) hx
              · cases hx
            · cases hx
          · rename_i v' htok
            split at hx
            · rename_i v h1 he
              exact fin v v' h1 _ [_] rfl hw (fun hp => ⟨(hp _ (List.mem_singleton.2 rfl)).symm, fun Q hQ => .op he hQ⟩) hx
            · cases hx
          · split at hx
            · rename_i f args hop
              split at hx
              · rename_i g cap hf
                split at hx
                · rename_i v h1 s1 hcall
                  obtain ⟨e1, g1, k1⟩ := ih _ _ _ _ _ hcall
                  exact fin v v h1 s1 e1 g1 hw (fun hp => ⟨rfl, fun Q hQ => by rw [hop]; exact .callOp hf (k1 hp Q hQ)⟩) hx
                · cases hx
              · cases hx
            · split at hx
              · rename_i v h1 he
                exact fin v v h1 s [] rfl hw (fun _ => ⟨rfl, fun Q hQ => .op he hQ⟩) hx
              · cases hx
        · rename_i hw
          obtain ⟨e1, g1, k1⟩ := ih _ _ _ _ _ hx
          refine ⟨e1, g1, fun hp => ?_⟩
          have f1 := k1 hp
          cases r with
          | code x t2 h2 =>
            obtain ⟨rfl, f1⟩ := f1
            exact ⟨rfl, fun Q hQ => .off (by simpa using hw) (f1 Q hQ)⟩
          | val v h2 => exact f1.elim
    | call f args =>
      simp only [exec] at hx
      split at hx
      · rename_i F hF
        split at hx
        · rename_i x t1 h1 s1 hbody
          split at hx
          · rename_i hxx
            simp only [Option.map_eq_some_iff, Prod.mk.injEq] at hx
            obtain ⟨v, hv, rfl, rfl⟩ := hx
            obtain ⟨e1, g1, k1⟩ := ih _ _ _ _ _ hbody
            exact ⟨e1, g1, fun hp Q hQ => .call hF (k1 hp _ ⟨hxx, v, hv, hQ⟩)⟩
          · cases hx
        · cases hx
      · cases hx

theorem call_of_exec {M : Model} {n : Nat} {f : Nat} {args : List AV} {h : Heap} {orc : Orc} {Q : AV → Heap → Prop} {v : AV} {h' : Heap} {o' : Orc} {ps : List Prop} (hx : exec M n (.call f args) h ⟨orc, []⟩ = some (.val v h', ⟨o', ps⟩)) (hp : ∀ p ∈ ps, p) (hQ : Q v h') : Runs M (.call f args Q) h := by
  obtain ⟨e, g, k⟩ := exec_sound n _ _ _ _ _ hx
  simp only [List.append_nil] at g
  exact k (g ▸ hp) Q hQ
end Go.Abs

namespace Go.Abs
def modelOf (P : Program) (prim : Nat → List AV → Heap → (AV → Heap → Prop) → Prop) : Model := ⟨fun f => (P.funcs[f]?).bind (compF P), prim⟩
def noPrim : Nat → List AV → Heap → (AV → Heap → Prop) → Prop := fun _ _ _ _ => False

end Go.Abs

set_option linter.unusedVariables false
set_option linter.unusedSimpArgs false
namespace Go.Abs
open Go.RowKit

theorem HR.start (W : World) : HR (fun _ => none) [] W.heap.size W W where
  below := Below.refl _ _
  size := Nat.le_refl _
  obj := fun b o h => by simp at h
  lt := fun b e h => by cases h
  uniq := fun b1 b2 o1 o2 e1 e2 h => by simp at h

theorem calls_of_runs {P : Program} {M : Model} {base : Nat} {W w : World} {f : Nat} {fn : Func} {c : Code} {avs : List AV} {h : Heap} {Q : AV → Heap → Prop} {m : Emb} {args : Array Value}
    (hM : Fits P base W False M) (hfn : P.funcs[f]? = some fn) (hn : (fn.name == "runtime.NumGoroutine") = false) (hb : fn.body = some c) (hr : Runs M (.call f avs Q) h) (hv : VRs m avs args.toList) (hk : HR m h base W w) :
    Calls P f args w fun e W' => ∃ v h1 m' cv, e = .returned cv ∧ Q v h1 ∧ m.le m' ∧ VR m' v cv ∧ HR m' h1 base W W' := by
  have g := sound hM hr m w args hv hk ({ (default : Oper) with dst := some 0 }) { tmps := #[undef], defers := [] }
    (fun a W' => ∃ v h1 m', Q v h1 ∧ m.le m' ∧ VR m' v (a.tmps.getD 0 undef) ∧ HR m' h1 base W W') (fun _ _ _ => False)
    (fun v h1 m' cv w' hQ hle hv hk => ⟨v, h1, m', hQ, hle, by simpa [Act.put] using hv, hk⟩) (fun h => h.elim)
  rw [callFunc_run hfn hn hb, Oper.upon_enter] at g
  refine g.mono fun e W' hh => ?_
  cases e with
  | returned cv =>
    obtain ⟨v, h1, m', hQ, hle, hv, hk⟩ := hh
    exact ⟨v, h1, m', cv, rfl, hQ, hle, by simpa [Act.put] using hv, hk⟩
  | panicked ch => exact hh.elim
  | outgrown =>
    obtain ⟨_, _, hf⟩ := hh
    exact hf.elim
end Go.Abs

set_option linter.unusedVariables false
set_option linter.unusedSimpArgs false
namespace Go.Abs

def fnOf : List (Nat × MFunc) → Nat → Option MFunc
  | [], _ => none
  | (k, F) :: r, f => cond (Nat.beq k f) (some F) (fnOf r f)

theorem fnOf_mem : ∀ {l : List (Nat × MFunc)} {f : Nat} {F : MFunc}, fnOf l f = some F → (f, F) ∈ l
  | [], f, F, h => by simp [fnOf] at h
  | (k, G) :: r, f, F, h => by
    simp only [fnOf] at h
    cases hb : Nat.beq k f with
    | true =>
      have := Nat.eq_of_beq_eq_true hb
      subst this
      rw [hb] at h
      cases h
      exact List.mem_cons_self
    | false =>
      rw [hb] at h
      exact List.mem_cons_of_mem _ (fnOf_mem h)

def Does (M : Model) (f : Nat) (args : List AV) (h : Heap) (v : AV) (h' : Heap) : Prop := ∀ Q : AV → Heap → Prop, Q v h' → Runs M (.call f args Q) h
variable {M : Model}

theorem does_of_exec {n : Nat} {f : Nat} {args : List AV} {h : Heap} {v : AV} {h' : Heap} (orc : Orc) (ps : List Prop) (hx : exec M n (.call f args) h ⟨orc, []⟩ = some (.val v h', ⟨[], ps⟩)) (hp : ∀ p ∈ ps, p) : Does M f args h v h' := fun Q hQ => call_of_exec hx hp hQ
def Ext (h h' : Heap) : Prop := ∃ l, h' = h ++ l
theorem Ext.refl (h : Heap) : Ext h h := ⟨[], by simp⟩
theorem Ext.trans {a b c : Heap} (h : Ext a b) (k : Ext b c) : Ext a c := by
  obtain ⟨l, rfl⟩ := h
  obtain ⟨l', rfl⟩ := k
  exact ⟨l ++ l', by simp⟩
theorem Ext.get {a b : Heap} (h : Ext a b) {i : Nat} {o : AObj} (hi : a[i]? = some o) : b[i]? = some o := by
  obtain ⟨l, rfl⟩ := h
  have := (List.getElem?_eq_some_iff.1 hi).1
  rw [List.getElem?_append_left this, hi]
theorem Ext.rd {a b : Heap} (h : Ext a b) {i o n : Nat} {l : List AV} (hi : rdCells a i o n = some l) : rdCells b i o n = some l := by
  unfold rdCells at hi ⊢
  split at hi
  · rename_i c es ro hc
    rw [h.get hc]
    exact hi
  · cases hi
theorem Ext.rdVar {a b : Heap} (h : Ext a b) {agg : Option Nat} {i o : Nat} {v : AV} (hi : Abs.rdVar a agg i o = some v) : Abs.rdVar b agg i o = some v := by
  unfold Abs.rdVar at hi ⊢
  split at hi
  · simp only [Option.bind_eq_some_iff] at hi ⊢
    obtain ⟨l, h1, h2⟩ := hi
    exact ⟨l, h.rd h1, h2⟩
  · simp only [Option.map_eq_some_iff] at hi ⊢
    obtain ⟨l, h1, h2⟩ := hi
    exact ⟨l, h.rd h1, h2⟩

end Go.Abs

