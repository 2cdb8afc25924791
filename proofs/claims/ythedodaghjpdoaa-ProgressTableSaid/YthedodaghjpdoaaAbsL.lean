/- An executor of the abstract machine, for kernel reckoning, with an oracle that puts simpler values in the place of results and asks for the equations. -/
import Derived.Test.YthedodaghjpdoaaAbsK
set_option linter.unusedVariables false
set_option linter.unusedSimpArgs false
namespace Go.Abs

/-- What is put in the place of the next operation whose target is the given place (9999: of one without a target): its value (the equation is asked for), its value and the heap behind it (it is asked that the operation does so), what the call answers (it is asked that the call does so). -/
inductive Tok where
  | val (v : AV)
  | full (v : AV) (h : Heap)
  | call (v : AV) (h : Heap)

abbrev Orc := List (Nat × Tok)

structure St where
  orc : Orc
  ps : List Prop

def tokAt (d : Nat) : Orc → Option Tok
  | [] => none
  | (k, tok) :: _ => if Nat.beq k d then some tok else none

/-- The long strings of a code, in order. -/
def MO.longs : MO → List (List UInt8)
  | .const (.str l) => if 24 < l.length then [l] else []
  | _ => []
def MOp.longs : MOp → List (List UInt8)
  | .build _ ps => ps.flatMap (·.2.2.longs)
  | .mov x => x.longs
  | .bin _ x y => x.longs ++ y.longs
  | .call _ args => args.flatMap (·.longs)
  | _ => []
def MCode.longs : MCode → List (List UInt8)
  | .region l => l.flatMap (·.op.longs)
  | .draw l _ => l.flatMap (·.op.longs)
  | .seq a b => a.longs ++ b.longs
  | .cond _ a b => a.longs ++ b.longs
  | .block _ c => c.longs
  | .loop c => c.longs
  | _ => []

def MOp.opnds : MOp → List MO
  | .mov x => [x]
  | .pick c a b => [c, a, b]
  | .load _ a => [a]
  | .nilCheck x => [x]
  | .bin _ x y => [x, y]
  | .eqv _ _ x y => [x, y]
  | .eqAgg _ _ x y => [x, y]
  | .isNil _ x => [x]
  | .un _ x => [x]
  | .convInt _ x => [x]
  | .convStr x => [x]
  | .mkIface _ x => [x]
  | .mkFn _ cap => cap
  | .build _ ps => ps.map (·.2.2)
  | .sliceStr x lo hi => x :: (lo.toList ++ hi.toList)
  | .sliceSlc _ x lo hi => x :: (lo.toList ++ hi.toList)
  | .fieldAddr _ x => [x]
  | .field _ _ x => [x]
  | .indexAddr _ x i => [x, i]
  | .indexArr _ _ x i => [x, i]
  | .indexStr x i => [x, i]
  | .indexAgg _ _ _ x i => [x, i]
  | .lenStr x => [x]
  | .lenSlc x => [x]
  | .lenMap x => [x]
  | .lenConst _ => []
  | .mini x y => [x, y]
  | .maxi x y => [x, y]
  | .extract _ x => [x]
  | _ => []

/-- An operation that leaves the heap, and whose operands are told above. -/
def MOp.still : MOp → Bool
  | .mov _ | .pick .. | .load .. | .nilCheck _ | .bin .. | .eqv .. | .eqAgg .. | .isNil .. | .un .. | .convInt .. | .convStr _ | .mkIface .. | .mkFn .. | .build .. | .sliceStr .. | .sliceSlc .. | .fieldAddr .. | .field .. | .indexAddr ..
  | .indexArr .. | .indexStr .. | .indexAgg .. | .lenStr _ | .lenSlc _ | .lenMap _ | .lenConst _ | .mini .. | .maxi .. | .extract .. => true
  | _ => false

def MOp.tmps (o : MOp) : List Nat := o.opnds.filterMap fun
  | .tmp t => some t
  | _ => none

def MOper.reads (o : MOper) : List Nat := o.op.tmps ++ (match o.guard with
  | some (g, _) => [g]
  | none => [])

/-- No two of a region's operations write one place; what one reads of another's it has behind it by an edge from an earlier row. -/
def drawOK (l : List MOper) (pre : List (List Nat)) : Bool :=
  l.all (·.op.still) && pre.length == l.length && (List.range l.length).all fun i => (pre.getD i []).all (fun j => decide (j < i)) && (List.range l.length).all fun j =>
    match l[i]?, l[j]? with
    | some x, some y => (i == j || x.dst.isNone || x.dst != y.dst) && (match y.dst with
      | some d => !x.reads.contains d || ((pre.getD i []).contains j)
      | none => true)
    | _, _ => false

def exec (M : Model) : Nat → Task → Heap → St → Option (Res × St)
  | 0, _, _, _ => none
  | n + 1, .code c t, h, s => match c with
    | .skip => some (.code .normal t h, s)
    | .seq a b => match exec M n (.code a t) h s with
      | some (.code .normal t1 h1, s1) => exec M n (.code b t1) h1 s1
      | r => r
    | .cond c a b => match c.eval t with
      | .bool true => exec M n (.code a t) h s
      | .bool false => exec M n (.code b t) h s
      | _ => none
    | .block id c => match exec M n (.code c t) h s with
      | some (.code x t1 h1, s1) => some (.code (if x = .exit id then .normal else x) t1 h1, s1)
      | _ => none
    | .loop c => match exec M n (.code c t) h s with
      | some (.code .normal t1 h1, s1) => exec M n (.code (.loop c) t1) h1 s1
      | r => r
    | .exit id => some (.code (.exit id) t h, s)
    | .ret => some (.code .ret t h, s)
    | .region l => exec M n (.ops l t) h s
    | .draw l pre => if drawOK l pre then exec M n (.ops l t) h s else none
  | n + 1, .ops l t, h, s => match l with
    | [] => some (.code .normal t h, s)
    | o :: l =>
      if wantedM t o.guard then
        match tokAt (o.dst.getD 9999) s.orc with
        | some (.full v' h') => exec M n (.ops l (put t o.dst v')) h' ⟨s.orc.tail, (evalOp t h o.op = some (v', h')) :: s.ps⟩
        | some (.call v' h') => match o.op with
          | .call f args => match f.eval t with
            | .fn g cap => exec M n (.ops l (put t o.dst v')) h' ⟨s.orc.tail, (∀ Q : AV → Heap → Prop, Q v' h' → Runs M (.call g (args.map (·.eval t) ++ cap) Q) h) :: s.ps⟩
            | _ => none
          | _ => none
        | some (.val v') => match evalOp t h o.op with
          | some (v, h1) => exec M n (.ops l (put t o.dst v')) h1 ⟨s.orc.tail, (v = v') :: s.ps⟩
          | none => none
        | none => match o.op with
          | .call f args => match f.eval t with
            | .fn g cap => match exec M n (.call g (args.map (·.eval t) ++ cap)) h s with
              | some (.val v h1, s1) => exec M n (.ops l (put t o.dst v)) h1 s1
              | _ => none
            | _ => none
          | op => match evalOp t h op with
            | some (v, h1) => exec M n (.ops l (put t o.dst v)) h1 s
            | none => none
      else exec M n (.ops l (put t o.dst .undef)) h s
  | n + 1, .call f args, h, s => match M.fn f with
    | some F => match exec M n (.code F.body (args ++ List.replicate (F.ntmps - args.length) .undef)) h s with
      | some (.code x t1 h1, s1) => if x = .normal ∨ x = .ret then (Abs.results h1 t1 F.results).map fun v => (.val v h1, s1) else none
      | _ => none
    | none => none
  | n + 1, .op _ _, _, _ => none

def Says (M : Model) (T : Task) (h : Heap) : Res → Prop
  | .code x t1 h1 => match T with
    | .code c t => ∀ Q : MX → Tmps → Heap → Prop, Q x t1 h1 → Runs M (.code c t Q) h
    | .ops l t => x = .normal ∧ ∀ Q : Tmps → Heap → Prop, Q t1 h1 → Runs M (.ops l t Q) h
    | _ => False
  | .val v h1 => match T with
    | .call f args => ∀ Q : AV → Heap → Prop, Q v h1 → Runs M (.call f args Q) h
    | _ => False

theorem still_heap {t : Tmps} {h h' : Heap} {o : MOp} {v : AV} (hs : o.still = true) (he : evalOp t h o = some (v, h')) : h' = h := by
  cases o <;> simp only [MOp.still, Bool.false_eq_true] at hs <;> simp only [evalOp] at he <;> (repeat' split at he) <;> simp_all <;> (try (obtain ⟨_, he⟩ := he)) <;> (try simp_all) <;> (obtain ⟨_, _, _, he⟩ := he; exact he.symm)

theorem eval_congr {t t' : Tmps} {x : MO} (h : ∀ i, x = .tmp i → t.getD i .undef = t'.getD i .undef) : x.eval t = x.eval t' := by
  cases x with
  | tmp i => exact h i rfl
  | const v => rfl

theorem still_congr {t t' : Tmps} {h : Heap} {o : MOp} (hs : o.still = true) (ha : ∀ i ∈ o.tmps, t.getD i .undef = t'.getD i .undef) : evalOp t h o = evalOp t' h o := by
  have hx : ∀ x ∈ o.opnds, x.eval t = x.eval t' := fun x hx => eval_congr fun i hi => ha i (List.mem_filterMap.2 ⟨x, hx, by rw [hi]⟩)
  have hopt : ∀ (y : Option MO), (∀ x ∈ y.toList, x.eval t = x.eval t') → y.map (·.eval t) = y.map (·.eval t') := by
    intro y hy
    cases y with
    | none => rfl
    | some y => simp [hy y (by simp)]
  cases o <;> simp only [MOp.still, Bool.false_eq_true] at hs <;> simp only [MOp.opnds, List.mem_cons, List.not_mem_nil, or_false, forall_eq_or_imp, forall_eq, List.mem_append, List.mem_map] at hx <;> first
    | (simp only [evalOp, hx]; done)
    | (simp only [evalOp]; congr 1; done)
    | skip
  case build z ps =>
    have : (ps.map fun p => (p.1, p.2.1, p.2.2.eval t)) = ps.map fun p => (p.1, p.2.1, p.2.2.eval t') := List.map_congr_left fun p hp => by rw [hx _ ⟨p, hp, rfl⟩]
    simp only [evalOp, this]
  case mkFn f cap =>
    have : cap.map (·.eval t) = cap.map (·.eval t') := List.map_congr_left hx
    simp only [evalOp, this]
  case sliceStr x lo hi =>
    have h1 := hopt lo fun y hy => hx.2 y (.inl hy)
    have h2 := hopt hi fun y hy => hx.2 y (.inr hy)
    simp only [evalOp, hx.1, h1, h2]
  case sliceSlc es x lo hi =>
    have h1 := hopt lo fun y hy => hx.2 y (.inl hy)
    have h2 := hopt hi fun y hy => hx.2 y (.inr hy)
    simp only [evalOp, hx.1, h1, h2]

/-! ### A region that leaves the heap, in any order -/
def runVals (h : Heap) : List MOper → Tmps → Option (List AV × Tmps)
  | [], t => some ([], t)
  | o :: l, t =>
    if wantedM t o.guard then match evalOp t h o.op with
      | some (v, _) => (runVals h l (put t o.dst v)).map fun r => (v :: r.1, r.2)
      | none => none
    else (runVals h l (put t o.dst .undef)).map fun r => (.undef :: r.1, r.2)

theorem still_op {M : Model} {h : Heap} {Q : AV → Heap → Prop} {o : MOp} {t : Tmps} (hs : o.still = true) (hr : Runs M (.op o t Q) h) : ∃ v, evalOp t h o = some (v, h) ∧ Q v h := by
  cases hr with
  | op he hQ =>
    have hh := still_heap hs he
    subst hh
    exact ⟨_, he, hQ⟩
  | callOp hf _ => simp [MOp.still] at hs

theorem still_runs {M : Model} {h : Heap} {Q : Tmps → Heap → Prop} : ∀ {l : List MOper} {t : Tmps}, l.all (·.op.still) = true → Runs M (.ops l t Q) h → ∃ vs t1, runVals h l t = some (vs, t1) ∧ Q t1 h
  | [], t, hs, hr => by
    cases hr with
    | nil hQ => exact ⟨[], t, rfl, hQ⟩
  | o :: l, t, hs, hr => by
    simp only [List.all_cons, Bool.and_eq_true] at hs
    cases hr with
    | cons Q1 hw h1 h2 =>
      obtain ⟨v, he, hQ⟩ := still_op hs.1 h1
      obtain ⟨vs, t1, h3, h4⟩ := still_runs hs.2 (h2 _ _ hQ)
      refine ⟨v :: vs, t1, ?_, h4⟩
      simp only [runVals, hw, if_true, he, h3, Option.map_some]
    | off hw h1 =>
      obtain ⟨vs, t1, h3, h4⟩ := still_runs hs.2 h1
      refine ⟨.undef :: vs, t1, ?_, h4⟩
      simp [runVals, hw, h3]

theorem getD_put {t : Tmps} {d : Option Nat} {v : AV} {x : Nat} : (put t d v).getD x .undef = if d = some x ∧ x < t.length then v else t.getD x .undef := by
  cases d with
  | none => simp [put]
  | some d =>
    simp only [put, List.getD_eq_getElem?_getD, List.getElem?_set, Option.some.injEq]
    by_cases h1 : d = x
    · subst h1
      by_cases h2 : d < t.length
      · simp [h2]
      · simp [h2, List.getElem?_eq_none (Nat.le_of_not_lt h2)]
    · simp [h1]

theorem length_put {t : Tmps} {d : Option Nat} {v : AV} : (put t d v).length = t.length := by
  cases d <;> simp [put]

/-- The places as they are where just the operations D have come up. -/
structure Shape (l : List MOper) (vs : List AV) (t : Tmps) (D : Nat → Prop) (s : Tmps) : Prop where
  len : s.length = t.length
  old : ∀ x, (∀ j o, l[j]? = some o → D j → o.dst ≠ some x) → s.getD x .undef = t.getD x .undef
  new : ∀ j o x, l[j]? = some o → D j → o.dst = some x → x < t.length → s.getD x .undef = vs.getD j .undef

def Distinct (l : List MOper) : Prop := ∀ (i j : Nat) (x y : MOper) (d : Nat), l[i]? = some x → l[j]? = some y → x.dst = some d → y.dst = some d → i = j

theorem Shape.put {l : List MOper} {vs : List AV} {t s : Tmps} {D : Nat → Prop} (hd : Distinct l) (k : Shape l vs t D s) {i : Nat} {o : MOper} (ho : l[i]? = some o) (hi : ¬ D i) {v : AV} (hv : vs.getD i .undef = v) :
    Shape l vs t (fun j => D j ∨ j = i) (Abs.put s o.dst v) := by
  refine ⟨by rw [length_put, k.len], fun x hx => ?_, fun j o' x hj hD hdx hxl => ?_⟩
  · rw [getD_put, if_neg (fun h => hx i o ho (.inr rfl) h.1)]
    exact k.old x fun j o' hj hD => hx j o' hj (.inl hD)
  · rw [getD_put]
    by_cases hji : j = i
    · subst hji
      rw [ho] at hj
      cases hj
      rw [if_pos ⟨hdx, by rw [k.len]; exact hxl⟩, hv]
    · rw [if_neg (fun h => hji (hd j i o' o x hj ho hdx h.1))]
      exact k.new j o' x hj (hD.resolve_right hji) hdx hxl

theorem Shape.ext {l : List MOper} {vs : List AV} {t s s' : Tmps} {D D' : Nat → Prop} (hD : ∀ j, j < l.length → (D j ↔ D' j)) (k : Shape l vs t D s) (k' : Shape l vs t D' s') : s = s' := by
  refine List.ext_getElem (by rw [k.len, k'.len]) fun x h1 h2 => ?_
  have e : s.getD x .undef = s'.getD x .undef := by
    by_cases hx : ∃ j o, l[j]? = some o ∧ D j ∧ o.dst = some x
    · obtain ⟨j, o, hj, hDj, hd⟩ := hx
      have hxl : x < t.length := by rw [← k.len]; exact h1
      rw [k.new j o x hj hDj hd hxl, k'.new j o x hj ((hD j (List.getElem?_eq_some_iff.1 hj).1).1 hDj) hd hxl]
    · rw [k.old x fun j o hj hDj hd => hx ⟨j, o, hj, hDj, hd⟩, k'.old x fun j o hj hDj hd => hx ⟨j, o, hj, (hD j (List.getElem?_eq_some_iff.1 hj).1).2 hDj, hd⟩]
  simpa [List.getD_eq_getElem?_getD, h1, h2] using e

/-- The places before operation i in the listed order; and what i yields there. -/
theorem runVals_spec {h : Heap} {l : List MOper} (hd : Distinct l) {t : Tmps} : ∀ (suf : List MOper) (n : Nat) (s : Tmps) (vs0 vs1 : List AV) (t1 : Tmps), l.drop n = suf → vs0.length = n → Shape l (vs0 ++ vs1) t (· < n) s → runVals h suf s = some (vs1, t1) →
    vs1.length = suf.length ∧ Shape l (vs0 ++ vs1) t (· < l.length) t1 ∧ ∀ i o, n ≤ i → l[i]? = some o → ∃ ti, Shape l (vs0 ++ vs1) t (· < i) ti ∧
      (wantedM ti o.guard = true → ∃ h', evalOp ti h o.op = some ((vs0 ++ vs1).getD i .undef, h')) ∧ (wantedM ti o.guard = false → (vs0 ++ vs1).getD i .undef = .undef)
  | [], n, s, vs0, vs1, t1, hdrop, hlen, hs, hr => by
    simp only [runVals, Option.some.injEq, Prod.mk.injEq] at hr
    obtain ⟨rfl, rfl⟩ := hr
    have hn : l.length ≤ n := List.drop_eq_nil_iff.1 hdrop
    refine ⟨rfl, ⟨hs.len, fun x hx => hs.old x fun j o hj hD => hx j o hj (List.getElem?_eq_some_iff.1 hj).1, fun j o x hj hD hdx hxl => hs.new j o x hj (Nat.lt_of_lt_of_le (List.getElem?_eq_some_iff.1 hj).1 hn) hdx hxl⟩, fun i o hi ho => ?_⟩
    have := (List.getElem?_eq_some_iff.1 ho).1
    omega
  | o :: suf, n, s, vs0, vs1, t1, hdrop, hlen, hs, hr => by
    have hn : n < l.length := by
      rcases Nat.lt_or_ge n l.length with h' | h'
      · exact h'
      · rw [List.drop_eq_nil_of_le h'] at hdrop; cases hdrop
    have e := List.drop_eq_getElem_cons hn
    rw [hdrop] at e
    injection e with e1 e2
    have hon : l[n]? = some o := by rw [List.getElem?_eq_getElem hn, e1]
    obtain ⟨v, vs2, hw1, hw2, rfl, hr2⟩ : ∃ v vs2, (wantedM s o.guard = true → ∃ h', evalOp s h o.op = some (v, h')) ∧ (wantedM s o.guard = false → v = .undef) ∧ vs1 = v :: vs2 ∧ runVals h suf (Abs.put s o.dst v) = some (vs2, t1) := by
      simp only [runVals] at hr
      split at hr
      · rename_i hw
        split at hr
        · rename_i v h' he
          simp only [Option.map_eq_some_iff, Prod.mk.injEq] at hr
          obtain ⟨r, hr, rfl, rfl⟩ := hr
          refine ⟨v, r.1, fun _ => ⟨h', he⟩, ?_, rfl, hr⟩
          intro hf
          rw [hw] at hf
          cases hf
        · cases hr
      · rename_i hw
        simp only [Option.map_eq_some_iff, Prod.mk.injEq] at hr
        obtain ⟨r, hr, rfl, rfl⟩ := hr
        refine ⟨.undef, r.1, ?_, fun _ => rfl, rfl, hr⟩
        intro hf
        exact absurd hf hw
    have hvn : (vs0 ++ v :: vs2).getD n .undef = v := by
      simp [List.getD_eq_getElem?_getD, ← hlen]
    have hs' : Shape l (vs0 ++ v :: vs2) t (· < n + 1) (Abs.put s o.dst v) := by
      have := hs.put hd hon (by omega) hvn
      refine ⟨this.len, fun x hx => this.old x fun j o' hj hD => hx j o' hj (by omega), fun j o' x hj hD => this.new j o' x hj (by omega)⟩
    have happ : vs0 ++ v :: vs2 = (vs0 ++ [v]) ++ vs2 := by simp
    obtain ⟨g1, g2, g3⟩ := runVals_spec hd suf (n + 1) (Abs.put s o.dst v) (vs0 ++ [v]) vs2 t1 e2.symm (by simp [hlen]) (by rw [← happ]; exact hs') hr2
    refine ⟨by simp [g1], by rw [happ]; exact g2, fun i o' hi ho' => ?_⟩
    by_cases hin : i = n
    · subst hin
      rw [hon] at ho'
      cases ho'
      exact ⟨s, hs, fun hw => by rw [hvn]; exact hw1 hw, fun hw => by rw [hvn]; exact hw2 hw⟩
    · rw [happ]
      exact g3 i o' (by omega) ho'

structure DrawSpec (l : List MOper) (pre : List (List Nat)) : Prop where
  still : l.all (·.op.still) = true
  less : ∀ i j, i < l.length → j ∈ pre.getD i [] → j < i
  distinct : Distinct l
  reads : ∀ (i j : Nat) (x y : MOper) (d : Nat), l[i]? = some x → l[j]? = some y → y.dst = some d → d ∈ x.reads → j ∈ pre.getD i []

theorem drawOK_spec {l : List MOper} {pre : List (List Nat)} (h : drawOK l pre = true) : DrawSpec l pre := by
  unfold drawOK at h
  simp only [Bool.and_eq_true] at h
  obtain ⟨⟨h1, h2⟩, h3⟩ := h
  rw [List.all_eq_true] at h3
  have key : ∀ (i j : Nat) (x y : MOper), l[i]? = some x → l[j]? = some y → (i == j || x.dst.isNone || x.dst != y.dst) = true ∧ (match y.dst with
      | some d => !x.reads.contains d || ((pre.getD i []).contains j)
      | none => true) = true := by
    intro i j x y hx hy
    have := h3 i (List.mem_range.2 (List.getElem?_eq_some_iff.1 hx).1)
    simp only [Bool.and_eq_true] at this
    have := List.all_eq_true.1 this.2 j (List.mem_range.2 (List.getElem?_eq_some_iff.1 hy).1)
    rw [hx, hy] at this
    simpa only [Bool.and_eq_true] using this
  refine ⟨h1, fun i j hi hj => ?_, fun i j x y d hx hy hdx hdy => ?_, fun i j x y d hx hy hdy hr => ?_⟩
  · have := h3 i (List.mem_range.2 hi)
    simp only [Bool.and_eq_true] at this
    have := List.all_eq_true.1 this.1 j hj
    simpa using this
  · have := (key i j x y hx hy).1
    rw [hdx, hdy] at this
    simpa using this
  · have := (key i j x y hx hy).2
    rw [hdy] at this
    simp only [Bool.or_eq_true, Bool.not_eq_true', List.contains_iff_mem] at this
    rcases this with h' | h'
    · have : x.reads.contains d = true := by simpa using hr
      rw [this] at h'
      cases h'
    · exact h'

theorem least (p : Nat → Prop) : ∀ n, p n → ∃ i, i ≤ n ∧ p i ∧ ∀ j, j < i → ¬ p j := by
  intro n
  induction n using Nat.strongRecOn with
  | _ n ih =>
    intro hn
    by_cases hx : ∃ j, j < n ∧ p j
    · obtain ⟨j, hj, hpj⟩ := hx
      obtain ⟨i, hi, h1, h2⟩ := ih j hj hpj
      exact ⟨i, by omega, h1, h2⟩
    · exact ⟨n, Nat.le_refl n, hn, fun j hj hp => hx ⟨j, hj, hp⟩⟩

theorem getD_set_self {l : List Bool} {i j : Nat} (hi : i < l.length) : ((l.set i true).getD j false = true) ↔ (l.getD j false = true ∨ j = i) := by
  simp only [List.getD_eq_getElem?_getD, List.getElem?_set]
  by_cases h : i = j
  · subst h
    simp [hi]
  · have : ¬ j = i := fun h' => h h'.symm
    simp [h, this]

theorem draw_runs {M : Model} {l : List MOper} {pre : List (List Nat)} {t : Tmps} {Q : Tmps → Heap → Prop} {h : Heap} (hok : drawOK l pre = true) (hr : Runs M (.ops l t Q) h) : Runs M (.any l pre (List.replicate l.length false) t Q) h := by
  have S := drawOK_spec hok
  obtain ⟨vs, t1, hv, hQ⟩ := still_runs S.still hr
  have s0 : ∀ D, (∀ j, ¬ D j) → Shape l vs t D t := fun D hD => ⟨rfl, fun _ _ => rfl, fun j _ _ _ h => absurd h (hD j)⟩
  obtain ⟨g1, g2, g3⟩ := runVals_spec S.distinct l 0 t [] vs t1 rfl rfl (s0 _ (by omega)) hv
  simp only [List.nil_append] at g2 g3
  have key : ∀ (k : Nat) (done : List Bool) (s : Tmps), done.count false = k → done.length = l.length → Shape l vs t (fun j => done.getD j false = true) s → Runs M (.any l pre done s Q) h := by
    intro k
    induction k with
    | zero =>
      intro done s hk hl hs
      have hall : ∀ j, j < l.length → done.getD j false = true := by
        intro j hj
        have : done[j]'(by omega) ≠ false := by
          intro hf
          have := List.count_pos_iff.2 (hf ▸ List.getElem_mem (l := done) (by omega : j < done.length))
          omega
        simp only [List.getD_eq_getElem?_getD, List.getElem?_eq_getElem (by omega : j < done.length), Option.getD_some]
        simpa using this
      refine .anyDone (fun i hi => ?_) ?_
      · have := hall i hi
        have h2 : done.getD i true = true := by
          simp only [List.getD_eq_getElem?_getD, List.getElem?_eq_getElem (by omega : i < done.length), Option.getD_some] at this ⊢
          exact this
        unfold readyM
        rw [h2]
        rfl
      · have : s = t1 := Shape.ext (D' := (· < l.length)) (fun j hj => ⟨fun _ => hj, fun _ => hall j hj⟩) hs g2
        rw [this]
        exact hQ
    | succ k ih =>
      intro done s hk hl hs
      have hund : ∀ i, i < l.length → (done.getD i true = false ↔ ¬ done.getD i false = true) := by
        intro i hi
        simp only [List.getD_eq_getElem?_getD, List.getElem?_eq_getElem (by omega : i < done.length), Option.getD_some]
        simp
      have agree : ∀ i o ti, l[i]? = some o → readyM pre done i = true → Shape l vs t (· < i) ti → ∀ x ∈ o.reads, s.getD x .undef = ti.getD x .undef := by
        intro i o ti ho hr hti x hx
        have hi := (List.getElem?_eq_some_iff.1 ho).1
        simp only [readyM, Bool.and_eq_true, List.all_eq_true] at hr
        by_cases hj : ∃ (j : Nat) (y : MOper), l[j]? = some y ∧ y.dst = some x
        · obtain ⟨j, y, hy, hd⟩ := hj
          have hpre := S.reads i j o y x ho hy hd hx
          by_cases hxl : x < t.length
          · rw [hs.new j y x hy (hr.2 j hpre) hd hxl, hti.new j y x hy (S.less i j hi hpre) hd hxl]
          · simp [List.getD_eq_getElem?_getD, List.getElem?_eq_none (by rw [hs.len]; omega : s.length ≤ x), List.getElem?_eq_none (by rw [hti.len]; omega : ti.length ≤ x)]
        · rw [hs.old x fun j y hy _ hd => hj ⟨j, y, hy, hd⟩, hti.old x fun j y hy _ hd => hj ⟨j, y, hy, hd⟩]
      have wsame : ∀ i o ti, l[i]? = some o → readyM pre done i = true → Shape l vs t (· < i) ti → wantedM s o.guard = wantedM ti o.guard := by
        intro i o ti ho hr hti
        cases hg : o.guard with
        | none => rfl
        | some g =>
          obtain ⟨g, want⟩ := g
          have := agree i o ti ho hr hti g (by simp [MOper.reads, hg])
          simp only [wantedM, this]
      have next : ∀ i o v, l[i]? = some o → readyM pre done i = true → vs.getD i .undef = v → Runs M (.any l pre (done.set i true) (Abs.put s o.dst v) Q) h := by
        intro i o v ho hr hvi
        have hi := (List.getElem?_eq_some_iff.1 ho).1
        have hnd : done.getD i true = false := by
          simp only [readyM, Bool.and_eq_true, Bool.not_eq_true'] at hr
          exact hr.1
        have hcnt := count_set_lt done i hnd
        refine ih _ _ (by omega) (by simp [hl]) ?_
        have := hs.put S.distinct ho ((hund i hi).1 hnd) hvi
        refine ⟨this.len, fun x hx => this.old x fun j o' hj hD => hx j o' hj ((getD_set_self (by omega)).2 hD), fun j o' x hj hD => this.new j o' x hj ((getD_set_self (by omega)).1 hD)⟩
      refine .anyStep (fun i v h' => vs.getD i .undef = v ∧ h' = h) ?_ ?_ ?_ ?_
      · have : false ∈ done := List.count_pos_iff.1 (by omega)
        obtain ⟨n, hn, hf⟩ := List.mem_iff_getElem.1 this
        obtain ⟨i, hi, h1, h2⟩ := least (fun i => i < l.length ∧ done.getD i true = false) n ⟨by omega, by simp [List.getD_eq_getElem?_getD, hn, hf]⟩
        refine ⟨i, h1.1, ?_⟩
        simp only [readyM, Bool.and_eq_true, List.all_eq_true, h1.2, Bool.not_false, true_and]
        intro j hj
        have hlt := S.less i j h1.1 hj
        have := h2 j hlt
        by_cases hd : done.getD j false = true
        · exact hd
        · exact absurd ⟨by omega, (hund j (by omega)).2 hd⟩ this
      · intro i o ho hr hw
        obtain ⟨ti, hti, e1, e2⟩ := g3 i o (Nat.zero_le i) ho
        rw [wsame i o ti ho hr hti] at hw
        obtain ⟨h', he⟩ := e1 hw
        have hst : o.op.still = true := List.all_eq_true.1 S.still o (List.mem_of_getElem? ho)
        rw [← still_congr hst fun x hx => agree i o ti ho hr hti x (by simp [MOper.reads, hx])] at he
        have := still_heap hst he
        exact .op he ⟨rfl, this⟩
      · intro i o ho hrd hw v h1 hq
        rw [hq.2]
        exact next i o v ho hrd hq.1
      · intro i o ho hr hw
        obtain ⟨ti, hti, e1, e2⟩ := g3 i o (Nat.zero_le i) ho
        rw [wsame i o ti ho hr hti] at hw
        exact next i o _ ho hr (e2 hw)
  exact key _ _ _ rfl (by simp) (s0 _ (by
    intro j hj
    simp only [List.getD_eq_getElem?_getD, List.getElem?_replicate] at hj
    split at hj <;> simp at hj))
end Go.Abs
