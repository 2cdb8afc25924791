/- A region whose order is left open, with calls and stores in it: what holds of the listed order holds of every order. -/
import Derived.Test.YthedodaghjpdoaaAbsO
set_option linter.unusedVariables false
set_option linter.unusedSimpArgs false
namespace Go.Abs

/-- Operations that only add to the heap (a call: where it is told so). -/
def MOp.grow : MOp → Bool
  | .alloc .. | .box .. | .buildSlice .. | .mkSlice .. | .mkMap | .rangeStr _ | .call .. => true
  | _ => false
/-- Operations that leave the heap and look at it. -/
def MOp.looks : MOp → Bool
  | .load .. | .sliceSlc .. | .lenMap _ => true
  | _ => false

def MOp.opnds2 : MOp → List MO
  | .box _ x => [x]
  | .buildSlice _ _ _ ps => ps.map (·.2.2)
  | .store _ a x => [a, x]
  | .mkSlice _ _ l c => [l, c]
  | .lookup _ _ m k => [m, k]
  | .mapUpdate m k v => [m, k, v]
  | .mapDelete m k => [m, k]
  | .append _ _ s x => [s, x]
  | .appendStr s x => [s, x]
  | .copy _ d s => [d, s]
  | .rangeStr x => [x]
  | .nextStr x => [x]
  | .call f args => f :: args
  | o => o.opnds

def MOp.tmps2 (o : MOp) : List Nat := o.opnds2.filterMap fun
  | .tmp t => some t
  | _ => none
def MOper.reads2 (o : MOper) : List Nat := o.op.tmps2 ++ (match o.guard with
  | some (g, _) => [g]
  | none => [])

theorem still_tmps {o : MOp} (h : o.still = true) : o.tmps2 = o.tmps := by
  cases o <;> simp only [MOp.still, Bool.false_eq_true] at h <;> rfl

theorem op_congr {t t' : Tmps} {h : Heap} {o : MOp} (ha : ∀ i ∈ o.tmps2, t.getD i .undef = t'.getD i .undef) : evalOp t h o = evalOp t' h o := by
  cases hs : o.still with
  | true => exact still_congr hs (by rw [still_tmps hs] at ha; exact ha)
  | false =>
    have hx : ∀ x ∈ o.opnds2, x.eval t = x.eval t' := fun x hx => eval_congr fun i hi => ha i (List.mem_filterMap.2 ⟨x, hx, by rw [hi]⟩)
    cases o <;> simp only [MOp.still, reduceCtorEq, Bool.true_eq_false] at hs <;> simp only [MOp.opnds2, List.mem_cons, List.not_mem_nil, or_false, forall_eq_or_imp, forall_eq, List.mem_map] at hx <;> first
      | (simp only [evalOp, hx]; done)
      | (simp only [evalOp]; done)
      | skip
    case buildSlice n es z ps =>
      have : (ps.map fun p => (p.1, p.2.1, p.2.2.eval t)) = ps.map fun p => (p.1, p.2.1, p.2.2.eval t') := List.map_congr_left fun p hp => by rw [hx _ ⟨p, hp, rfl⟩]
      simp only [evalOp, this]

theorem runs_congr {M : Model} {t t' : Tmps} {h : Heap} {o : MOp} {Q : AV → Heap → Prop} (ha : ∀ i ∈ o.tmps2, t.getD i .undef = t'.getD i .undef) (hr : Runs M (.op o t Q) h) : Runs M (.op o t' Q) h := by
  cases hr with
  | op he hQ =>
    rw [op_congr ha] at he
    exact .op he hQ
  | callOp hf hc =>
    rename_i f args g cap
    have hx : ∀ x ∈ f :: args, x.eval t = x.eval t' := fun x hx => eval_congr fun i hi => ha i (List.mem_filterMap.2 ⟨x, hx, by rw [hi]⟩)
    have h1 : args.map (·.eval t) = args.map (·.eval t') := List.map_congr_left fun x h => hx x (List.mem_cons_of_mem _ h)
    rw [hx f List.mem_cons_self] at hf
    rw [h1] at hc
    exact .callOp hf hc

theorem pure_heap {t : Tmps} {h h' : Heap} {o : MOp} {v : AV} (hs : o.still = true) (hl : o.looks = false) (he : evalOp t h o = some (v, h)) : evalOp t h' o = some (v, h') := by
  cases o <;> simp only [MOp.still, Bool.false_eq_true] at hs <;> simp only [MOp.looks, Bool.true_eq_false] at hl <;> simp only [evalOp] at he ⊢ <;> (repeat' split at he) <;> simp_all
  all_goals (rw [if_neg (by omega)]; assumption)

theorem looks_ext {t : Tmps} {h h' : Heap} (hx : Ext h h') {o : MOp} {v : AV} (hs : o.still = true) (he : evalOp t h o = some (v, h)) : evalOp t h' o = some (v, h') := by
  cases hl : o.looks with
  | false => exact pure_heap hs hl he
  | true =>
    cases o <;> simp only [MOp.looks, Bool.false_eq_true] at hl
    case load agg a =>
      simp only [evalOp] at he ⊢
      split at he
      · rename_i b off hb
        simp only [Option.map_eq_some_iff, Prod.mk.injEq] at he
        obtain ⟨u, hu, rfl, _⟩ := he
        rw [hx.rdVar hu]
        rfl
      · cases he
    case sliceSlc es x lo hi =>
      simp only [evalOp] at he ⊢
      split at he
      · rename_i b off n hb
        split at he
        · rename_i c es' ro hg
          rw [hx.get hg]
          simp only
          split at he
          · rename_i hes
            rw [if_pos hes]
            simp only [Option.map_eq_some_iff, Prod.mk.injEq] at he ⊢
            obtain ⟨p, hp, rfl, _⟩ := he
            exact ⟨p, hp, rfl, trivial⟩
          · cases he
        · cases he
      · simp only [Option.map_eq_some_iff, Prod.mk.injEq] at he ⊢
        obtain ⟨p, hp, rfl, _⟩ := he
        exact ⟨p, hp, rfl, trivial⟩
      · cases he
    case lenMap x =>
      simp only [evalOp] at he ⊢
      split at he
      · simp only [Option.some.injEq, Prod.mk.injEq, and_true] at he ⊢; exact he
      · split at he
        · rename_i es hg
          rw [hx.get hg]
          simp only [Option.some.injEq, Prod.mk.injEq, and_true] at he ⊢
          exact he
        · cases he
      · cases he

/-- A run in the listed order that tells where the heap only grows. -/
inductive SRun (M : Model) : List MOper → Tmps → Heap → (Tmps → Heap → Prop) → Prop
  | nil {t h Q} : Q t h → SRun M [] t h Q
  | cons {o l t h Q} (Q1 : AV → Heap → Prop) : wantedM t o.guard = true → Runs M (.op o.op t Q1) h → (∀ v h1, Q1 v h1 → o.op.grow = true → Ext h h1) → (∀ v h1, Q1 v h1 → SRun M l (put t o.dst v) h1 Q) → SRun M (o :: l) t h Q
  | off {o l t h Q} : wantedM t o.guard = false → SRun M l (put t o.dst .undef) h Q → SRun M (o :: l) t h Q

/-- j has to come up ahead of i. -/
inductive Anc (pre : List (List Nat)) : Nat → Nat → Prop
  | edge {i j : Nat} : j ∈ pre.getD i [] → Anc pre i j
  | step {i k j : Nat} : k ∈ pre.getD i [] → Anc pre k j → Anc pre i j

/-- The ancestors of each operation, as the bits of a number. -/
def maskOf (acc : List Nat) : List Nat → Nat
  | [] => 0
  | j :: l => (1 <<< j) ||| (acc.getD j 0) ||| maskOf acc l
def masks : List Nat → List (List Nat) → List Nat
  | acc, [] => acc
  | acc, p :: l => masks (acc ++ [maskOf acc p]) l

theorem maskOf_spec {pre : List (List Nat)} {acc : List Nat} (ha : ∀ i j, (acc.getD i 0).testBit j = true → Anc pre i j) {i : Nat} : ∀ {l : List Nat}, (∀ k ∈ l, k ∈ pre.getD i []) → ∀ j, (maskOf acc l).testBit j = true → Anc pre i j
  | [], _, j, h => by simp [maskOf] at h
  | k :: l, hl, j, h => by
    simp only [maskOf, Nat.testBit_or, Bool.or_eq_true] at h
    rcases h with (h | h) | h
    · rw [Nat.one_shiftLeft, Nat.testBit_two_pow] at h
      have : k = j := by simpa using h
      subst this
      exact .edge (hl k List.mem_cons_self)
    · exact .step (hl k List.mem_cons_self) (ha k j h)
    · exact maskOf_spec ha (fun x hx => hl x (List.mem_cons_of_mem _ hx)) j h

theorem masks_spec {pre : List (List Nat)} : ∀ {rest : List (List Nat)} {acc : List Nat}, pre.drop acc.length = rest → (∀ i j, (acc.getD i 0).testBit j = true → Anc pre i j) → ∀ i j, ((masks acc rest).getD i 0).testBit j = true → Anc pre i j
  | [], acc, hd, ha, i, j, h => ha i j (by simpa only [masks] using h)
  | p :: rest, acc, hd, ha, i, j, h => by
    simp only [masks] at h
    have hlt : acc.length < pre.length := by
      rcases Nat.lt_or_ge acc.length pre.length with h' | h'
      · exact h'
      · rw [List.drop_eq_nil_of_le h'] at hd; cases hd
    have e := List.drop_eq_getElem_cons hlt
    rw [hd] at e
    injection e with e1 e2
    refine masks_spec (acc := acc ++ [maskOf acc p]) (by simpa using e2.symm) ?_ i j h
    intro i j hij
    rw [List.getD_eq_getElem?_getD] at hij
    rcases Nat.lt_trichotomy i acc.length with h1 | h1 | h1
    · rw [List.getElem?_append_left h1, ← List.getD_eq_getElem?_getD] at hij
      exact ha i j hij
    · subst h1
      simp only [List.getElem?_concat_length, Option.getD_some] at hij
      refine maskOf_spec ha (fun k hk => ?_) j hij
      rw [List.getD_eq_getElem?_getD, List.getElem?_eq_getElem hlt, Option.getD_some, ← e1]
      exact hk
    · rw [List.getElem?_eq_none (by simp; omega)] at hij
      simp at hij

def drawEff (l : List MOper) (pre : List (List Nat)) : Bool :=
  let ms := masks [] pre
  pre.length == l.length && (List.range l.length).all fun i => (pre.getD i []).all (fun j => Nat.blt j i) && (List.range l.length).all fun j =>
    match l[i]?, l[j]? with
    | some x, some y => (Nat.beq i j || x.dst.isNone || x.dst != y.dst) && (match y.dst with
      | some d => !x.reads2.contains d || ((pre.getD i []).contains j) || Nat.beq i j || (Nat.blt i j && (ms.getD j 0).testBit i)
      | none => true) && (!(Nat.blt j i) || y.op.still || (ms.getD i 0).testBit j) && (!(Nat.blt j i) || !y.op.looks || x.op.still || x.op.grow || (ms.getD i 0).testBit j)
    | _, _ => false

structure EffSpec (l : List MOper) (pre : List (List Nat)) : Prop where
  less : ∀ i j, i < l.length → j ∈ pre.getD i [] → j < i
  distinct : Distinct l
  reads : ∀ (i j : Nat) (x y : MOper) (d : Nat), l[i]? = some x → l[j]? = some y → y.dst = some d → d ∈ x.reads2 → j ∈ pre.getD i [] ∨ i = j ∨ (i < j ∧ Anc pre j i)
  eff : ∀ (i j : Nat) (y : MOper), i < l.length → j < i → l[j]? = some y → y.op.still = false → Anc pre i j
  mutn : ∀ (i j : Nat) (x y : MOper), j < i → l[i]? = some x → l[j]? = some y → y.op.looks = true → x.op.still = false → x.op.grow = false → Anc pre i j

theorem drawEff_spec {l : List MOper} {pre : List (List Nat)} (h : drawEff l pre = true) : EffSpec l pre := by
  have hms : ∀ i j, ((masks [] pre).getD i 0).testBit j = true → Anc pre i j := masks_spec (by simp) (by simp)
  unfold drawEff at h
  simp only [Bool.and_eq_true] at h
  obtain ⟨h2, h3⟩ := h
  rw [List.all_eq_true] at h3
  have key : ∀ (i j : Nat) (x y : MOper), l[i]? = some x → l[j]? = some y → (((Nat.beq i j || x.dst.isNone || x.dst != y.dst) = true ∧ (match y.dst with
      | some d => !x.reads2.contains d || ((pre.getD i []).contains j) || Nat.beq i j || (Nat.blt i j && ((masks [] pre).getD j 0).testBit i)
      | none => true) = true) ∧ (!(Nat.blt j i) || y.op.still || ((masks [] pre).getD i 0).testBit j) = true) ∧ (!(Nat.blt j i) || !y.op.looks || x.op.still || x.op.grow || ((masks [] pre).getD i 0).testBit j) = true := by
    intro i j x y hx hy
    have := h3 i (List.mem_range.2 (List.getElem?_eq_some_iff.1 hx).1)
    simp only [Bool.and_eq_true] at this
    have := List.all_eq_true.1 this.2 j (List.mem_range.2 (List.getElem?_eq_some_iff.1 hy).1)
    rw [hx, hy] at this
    simpa only [Bool.and_eq_true] using this
  have blt : ∀ {a b : Nat}, a < b → Nat.blt a b = true := fun {a b} h => by simp only [Nat.blt, Nat.ble_eq]; omega
  refine ⟨fun i j hi hj => ?_, fun i j x y d hx hy hdx hdy => ?_, fun i j x y d hx hy hdy hr => ?_, fun i j y hi hji hy hs => hms i j ?_, fun i j x y hji hx hy hl hs hg => hms i j ?_⟩
  · have := h3 i (List.mem_range.2 hi)
    simp only [Bool.and_eq_true] at this
    have := List.all_eq_true.1 this.1 j hj
    simp only [Nat.blt, Nat.ble_eq] at this
    omega
  · have := (key i j x y hx hy).1.1.1
    rw [hdx, hdy] at this
    simpa using this
  · have := (key i j x y hx hy).1.1.2
    rw [hdy] at this
    simp only [Bool.or_eq_true, Bool.not_eq_true', Bool.and_eq_true, List.contains_iff_mem] at this
    rcases this with ((h' | h') | h') | h'
    · have : x.reads2.contains d = true := by simpa using hr
      rw [this] at h'
      cases h'
    · exact .inl h'
    · exact .inr (.inl (Nat.eq_of_beq_eq_true h'))
    · refine .inr (.inr ⟨?_, hms j i h'.2⟩)
      have := h'.1
      simp only [Nat.blt, Nat.ble_eq] at this
      omega
  · have := (key i j l[i] y (List.getElem?_eq_getElem hi) hy).1.2
    rw [blt hji, hs] at this
    simpa using this
  · have := (key i j x y hx hy).2
    rw [blt hji, hl, hs, hg] at this
    simpa using this

/-- From a place on: up to the next operation that is wanted and does not leave the heap. -/
theorem advance {M : Model} {Q : Tmps → Heap → Prop} {h : Heap} {l : List MOper} (hd : Distinct l) {t : Tmps} : ∀ (suf : List MOper) (n : Nat) (s : Tmps) (vs0 : List AV), l.drop n = suf → vs0.length = n → Shape l vs0 t (· < n) s → SRun M suf s h Q →
    ∃ k vs1 tk, n ≤ k ∧ k ≤ max n l.length ∧ (vs0 ++ vs1).length = k ∧ Shape l (vs0 ++ vs1) t (· < k) tk ∧ SRun M (l.drop k) tk h Q ∧ (∀ o, l[k]? = some o → wantedM tk o.guard = true ∧ o.op.still = false) ∧
      ∀ i o, n ≤ i → i < k → l[i]? = some o → ∃ ti, Shape l (vs0 ++ vs1) t (· < i) ti ∧ (wantedM ti o.guard = true → o.op.still = true ∧ evalOp ti h o.op = some ((vs0 ++ vs1).getD i .undef, h)) ∧ (wantedM ti o.guard = false → (vs0 ++ vs1).getD i .undef = .undef)
  | [], n, s, vs0, hdrop, hlen, hs, hr => by
    have hn : l.length ≤ n := List.drop_eq_nil_iff.1 hdrop
    refine ⟨n, [], s, Nat.le_refl _, by omega, by simpa using hlen, by simpa using hs, by rw [hdrop]; exact hr, fun o ho => ?_, fun i o hi hk => by omega⟩
    have := (List.getElem?_eq_some_iff.1 ho).1
    omega
  | o :: suf, n, s, vs0, hdrop, hlen, hs, hr => by
    have hn : n < l.length := by
      rcases Nat.lt_or_ge n l.length with h' | h'
      · exact h'
      · rw [List.drop_eq_nil_of_le h'] at hdrop; cases hdrop
    have e := List.drop_eq_getElem_cons hn
    rw [hdrop] at e
    injection e with e1 e2
    have hon : l[n]? = some o := by rw [List.getElem?_eq_getElem hn, e1]
    by_cases hstop : wantedM s o.guard = true ∧ o.op.still = false
    · refine ⟨n, [], s, Nat.le_refl _, by omega, by simpa using hlen, by simpa using hs, by rw [hdrop]; exact hr, fun o' ho' => ?_, fun i o hi hk => by omega⟩
      rw [hon] at ho'
      cases ho'
      exact hstop
    · obtain ⟨v, hw1, hw2, hr2⟩ : ∃ v, (wantedM s o.guard = true → o.op.still = true ∧ evalOp s h o.op = some (v, h)) ∧ (wantedM s o.guard = false → v = .undef) ∧ SRun M suf (Abs.put s o.dst v) h Q := by
        cases hr with
        | cons Q1 hw h1 h3 h2 =>
          have hst : o.op.still = true := by
            cases hh : o.op.still with
            | true => rfl
            | false => exact absurd ⟨hw, hh⟩ hstop
          obtain ⟨v, he, hQ⟩ := still_op hst h1
          refine ⟨v, fun _ => ⟨hst, he⟩, fun hf => ?_, h2 v h hQ⟩
          rw [hw] at hf
          cases hf
        | off hw h1 =>
          refine ⟨.undef, fun ht => ?_, fun _ => rfl, h1⟩
          rw [hw] at ht
          cases ht
      have hvn : (vs0 ++ [v]).getD n .undef = v := by
        simp [List.getD_eq_getElem?_getD, ← hlen]
      have hsx : Shape l (vs0 ++ [v]) t (· < n) s := ⟨hs.len, hs.old, fun j o x hj hD hd' hx => by
        rw [hs.new j o x hj hD hd' hx]
        simp only [List.getD_eq_getElem?_getD]
        rw [List.getElem?_append_left (by omega)]⟩
      have hs' : Shape l (vs0 ++ [v]) t (· < n + 1) (Abs.put s o.dst v) := by
        have := hsx.put hd hon (by omega) hvn
        refine ⟨this.len, fun x hx => this.old x fun j o' hj hD => hx j o' hj (by omega), fun j o' x hj hD => this.new j o' x hj (by omega)⟩
      obtain ⟨k, vs1, tk, g1, g2, g3, g4, g5, g6, g7⟩ := advance hd suf (n + 1) (Abs.put s o.dst v) (vs0 ++ [v]) e2.symm (by simp [hlen]) hs' hr2
      have happ : vs0 ++ v :: vs1 = (vs0 ++ [v]) ++ vs1 := by simp
      refine ⟨k, v :: vs1, tk, by omega, by omega, by rw [happ]; exact g3, by rw [happ]; exact g4, g5, g6, fun i o' hi hk ho' => ?_⟩
      rw [happ]
      by_cases hin : i = n
      · subst hin
        rw [hon] at ho'
        cases ho'
        have hvn' : ((vs0 ++ [v]) ++ vs1).getD i .undef = v := by
          rw [List.getD_eq_getElem?_getD, List.getElem?_append_left (by simp; omega), ← List.getD_eq_getElem?_getD]
          exact hvn
        refine ⟨s, ⟨hs.len, hs.old, fun j o x hj hD hd' hx => ?_⟩, fun hw => by rw [hvn']; exact hw1 hw, fun hw => by rw [hvn']; exact hw2 hw⟩
        rw [hs.new j o x hj hD hd' hx]
        simp only [List.getD_eq_getElem?_getD, List.append_assoc]
        rw [List.getElem?_append_left (by omega)]
      · exact g7 i o' (by omega) hk ho'

theorem Shape.vals {l : List MOper} {vs vs' : List AV} {t s : Tmps} {D : Nat → Prop} (k : Shape l vs t D s) (h : ∀ j, D j → vs'.getD j .undef = vs.getD j .undef) : Shape l vs' t D s :=
  ⟨k.len, k.old, fun j o x hj hD hd hx => by rw [k.new j o x hj hD hd hx, h j hD]⟩

theorem eff_runs {M : Model} {l : List MOper} {pre : List (List Nat)} {t : Tmps} {Q : Tmps → Heap → Prop} {h0 : Heap} (hok : drawEff l pre = true) (hr : SRun M l t h0 Q) : Runs M (.any l pre (List.replicate l.length false) t Q) h0 := by
  have S := drawEff_spec hok
  have key : ∀ (c : Nat) (done : List Bool) (s : Tmps) (h : Heap) (n : Nat) (vs : List AV) (tn : Tmps), done.count false = c → done.length = l.length → vs.length = n → n ≤ l.length → Shape l vs t (· < n) tn → SRun M (l.drop n) tn h Q →
      (∀ o, l[n]? = some o → wantedM tn o.guard = true ∧ o.op.still = false) →
      (∀ i o, i < n → l[i]? = some o → ∃ ti, Shape l vs t (· < i) ti ∧ (wantedM ti o.guard = true → done.getD i false = true ∨ (o.op.still = true ∧ evalOp ti h o.op = some (vs.getD i .undef, h))) ∧ (wantedM ti o.guard = false → vs.getD i .undef = .undef)) →
      (∀ j, done.getD j false = true → j < n) → (∀ i j, done.getD i false = true → j ∈ pre.getD i [] → done.getD j false = true) → Shape l vs t (fun j => done.getD j false = true) s → Runs M (.any l pre done s Q) h := by
    intro c
    induction c with
    | zero =>
      intro done s h n vs tn hc hl hvl hnl htn hsr hstop hprev hdn hcl hs
      have hall : ∀ j, j < l.length → done.getD j false = true := by
        intro j hj
        have : done[j]'(by omega) ≠ false := by
          intro hf
          have := List.count_pos_iff.2 (hf ▸ List.getElem_mem (l := done) (by omega : j < done.length))
          omega
        simp only [List.getD_eq_getElem?_getD, List.getElem?_eq_getElem (by omega : j < done.length), Option.getD_some]
        simpa using this
      have hn : n = l.length := by
        rcases Nat.lt_or_ge n l.length with h1 | h1
        · have := hdn n (hall n h1)
          omega
        · omega
      refine .anyDone (fun i hi => ?_) ?_
      · have := hall i hi
        have h2 : done.getD i true = true := by
          simp only [List.getD_eq_getElem?_getD, List.getElem?_eq_getElem (by omega : i < done.length), Option.getD_some] at this ⊢
          exact this
        unfold readyM
        rw [h2]
        rfl
      · have : s = tn := Shape.ext (D' := (· < n)) (fun j hj => ⟨fun _ => by omega, fun _ => hall j hj⟩) hs htn
        rw [this]
        rw [hn, List.drop_length] at hsr
        cases hsr with
        | nil hQ => exact hQ
    | succ c ih =>
      intro done s h n vs tn hc hl hvl hnl htn hsr hstop hprev hdn hcl hs
      have hund : ∀ i, i < l.length → (done.getD i true = false ↔ ¬ done.getD i false = true) := by
        intro i hi
        simp only [List.getD_eq_getElem?_getD, List.getElem?_eq_getElem (by omega : i < done.length), Option.getD_some]
        simp
      have undone : ∀ i, readyM pre done i = true → done.getD i true = false := by
        intro i hr
        simp only [readyM, Bool.and_eq_true, Bool.not_eq_true'] at hr
        exact hr.1
      have ancd : ∀ i j, Anc pre i j → done.getD i false = true → done.getD j false = true := by
        intro i j ha
        induction ha with
        | edge h => exact fun hi => hcl _ _ hi h
        | step h _ ih => exact fun hi => ih (hcl _ _ hi h)
      have agree : ∀ i o ti, l[i]? = some o → readyM pre done i = true → Shape l vs t (· < i) ti → ∀ x ∈ o.reads2, s.getD x .undef = ti.getD x .undef := by
        intro i o ti ho hr hti x hx
        have hi := (List.getElem?_eq_some_iff.1 ho).1
        have hnd := (hund i hi).1 (undone i hr)
        simp only [readyM, Bool.and_eq_true, List.all_eq_true] at hr
        by_cases hj : ∃ (j : Nat) (y : MOper), l[j]? = some y ∧ y.dst = some x
        · obtain ⟨j, y, hy, hd⟩ := hj
          have aside : ¬ done.getD j false = true → ¬ j < i → s.getD x .undef = ti.getD x .undef := by
            intro h1 h2
            rw [hs.old x fun j' y' hy' hD hd' => h1 (S.distinct j j' y y' x hy hy' hd hd' ▸ hD), hti.old x fun j' y' hy' hD hd' => h2 (S.distinct j j' y y' x hy hy' hd hd' ▸ hD)]
          rcases S.reads i j o y x ho hy hd hx with hpre | rfl | ⟨hij, hanc⟩
          · by_cases hxl : x < t.length
            · rw [hs.new j y x hy (hr.2 j hpre) hd hxl, hti.new j y x hy (S.less i j hi hpre) hd hxl]
            · simp [List.getD_eq_getElem?_getD, List.getElem?_eq_none (by rw [hs.len]; omega : s.length ≤ x), List.getElem?_eq_none (by rw [hti.len]; omega : ti.length ≤ x)]
          · exact aside hnd (Nat.lt_irrefl _)
          · exact aside (fun hd' => hnd (ancd j i hanc hd')) (by omega)
        · rw [hs.old x fun j y hy _ hd => hj ⟨j, y, hy, hd⟩, hti.old x fun j y hy _ hd => hj ⟨j, y, hy, hd⟩]
      have wsame : ∀ i o ti, l[i]? = some o → readyM pre done i = true → Shape l vs t (· < i) ti → wantedM s o.guard = wantedM ti o.guard := by
        intro i o ti ho hr hti
        cases hg : o.guard with
        | none => rfl
        | some g =>
          obtain ⟨g, want⟩ := g
          have := agree i o ti ho hr hti g (by simp [MOper.reads2, hg])
          simp only [wantedM, this]
      have ancr : ∀ i j, readyM pre done i = true → Anc pre i j → done.getD j false = true := by
        intro i j hr ha
        simp only [readyM, Bool.and_eq_true, List.all_eq_true] at hr
        cases ha with
        | edge h => exact hr.2 _ h
        | step h h2 => exact ancd _ _ h2 (hr.2 _ h)
      have within : ∀ i, i < l.length → readyM pre done i = true → i ≤ n := by
        intro i hi hr
        rcases Nat.lt_or_ge n i with h1 | h1
        · exfalso
          have hn : n < l.length := by omega
          have hx := hstop l[n] (List.getElem?_eq_getElem hn)
          have hp := S.eff i n l[n] hi h1 (List.getElem?_eq_getElem hn) hx.2
          have := hdn n (ancr i n hr hp)
          omega
        · exact h1
      -- the answer of the operation that comes next in the listed order
      obtain ⟨Q1, hQ1a, hQ1b⟩ : ∃ Q1 : AV → Heap → Prop, (∀ o, l[n]? = some o → Runs M (.op o.op tn Q1) h) ∧ ∀ o, l[n]? = some o → ∀ v h1, Q1 v h1 → (o.op.grow = true → Ext h h1) ∧ SRun M (l.drop (n + 1)) (Abs.put tn o.dst v) h1 Q := by
        cases hn : l[n]? with
        | none => exact ⟨fun _ _ => False, fun o ho => by simp at ho, fun o ho => by simp at ho⟩
        | some o =>
          have hlt := (List.getElem?_eq_some_iff.1 hn).1
          have e := List.drop_eq_getElem_cons hlt
          have e1 : l[n] = o := by have := List.getElem?_eq_getElem hlt; rw [hn] at this; exact (Option.some.inj this).symm
          rw [e, e1] at hsr
          cases hsr with
          | cons Q1 hw h1 h3 h2 => exact ⟨Q1, fun o' ho' => by cases ho'; exact h1, fun o' ho' => by cases ho'; exact fun v h1 hq => ⟨h3 v h1 hq, h2 v h1 hq⟩⟩
          | off hw h1 =>
            have := (hstop o hn).1
            rw [hw] at this
            cases this
      have early : ∀ i o v, l[i]? = some o → readyM pre done i = true → i < n → vs.getD i .undef = v → Runs M (.any l pre (done.set i true) (Abs.put s o.dst v) Q) h := by
        intro i o v ho hr hin hvi
        have hi := (List.getElem?_eq_some_iff.1 ho).1
        have hnd := undone i hr
        have hcnt := count_set_lt done i hnd
        refine ih (done.set i true) _ h n vs tn (by omega) (by simp [hl]) hvl hnl htn hsr hstop ?_ ?_ ?_ ?_
        · intro j oj hj hoj
          obtain ⟨ti, a1, a2, a3⟩ := hprev j oj hj hoj
          refine ⟨ti, a1, fun hw => ?_, a3⟩
          rcases a2 hw with b | b
          · exact .inl ((getD_set_self (by omega)).2 (.inl b))
          · exact .inr b
        · intro j hj
          rcases (getD_set_self (by omega)).1 hj with b | b
          · exact hdn j b
          · omega
        · intro i' j hi' hj
          rcases (getD_set_self (by omega)).1 hi' with b | b
          · exact (getD_set_self (by omega)).2 (.inl (hcl i' j b hj))
          · subst b
            simp only [readyM, Bool.and_eq_true, List.all_eq_true] at hr
            exact (getD_set_self (by omega)).2 (.inl (hr.2 j hj))
        · have := hs.put S.distinct ho ((hund i hi).1 hnd) hvi
          exact ⟨this.len, fun x hx => this.old x fun j o' hj hD => hx j o' hj ((getD_set_self (by omega)).2 hD), fun j o' x hj hD => this.new j o' x hj ((getD_set_self (by omega)).1 hD)⟩
      have late : ∀ o v h1, l[n]? = some o → readyM pre done n = true → Q1 v h1 → Runs M (.any l pre (done.set n true) (Abs.put s o.dst v) Q) h1 := by
        intro o v h1 ho hr hq
        have hi := (List.getElem?_eq_some_iff.1 ho).1
        have hnd := undone n hr
        have hcnt := count_set_lt done n hnd
        obtain ⟨hgrow, hsr1⟩ := hQ1b o ho v h1 hq
        have hvn : (vs ++ [v]).getD n .undef = v := by simp [List.getD_eq_getElem?_getD, ← hvl]
        have hlow : ∀ (ws : List AV) j, j < n → (vs ++ ws).getD j .undef = vs.getD j .undef := by
          intro ws j hj
          simp only [List.getD_eq_getElem?_getD]
          rw [List.getElem?_append_left (by omega)]
        have htn1 : Shape l (vs ++ [v]) t (· < n + 1) (Abs.put tn o.dst v) := by
          have := (htn.vals (vs' := vs ++ [v]) fun j hj => hlow [v] j hj).put S.distinct ho (by omega) hvn
          exact ⟨this.len, fun x hx => this.old x fun j o' hj hD => hx j o' hj (by omega), fun j o' x hj hD => this.new j o' x hj (by omega)⟩
        obtain ⟨k, vs1, tk, g1, g2, g3, g4, g5, g6, g7⟩ := advance S.distinct _ (n + 1) _ (vs ++ [v]) rfl (by simp [hvl]) htn1 hsr1
        have happ : (vs ++ [v]) ++ vs1 = vs ++ (v :: vs1) := by simp
        have hvn' : ((vs ++ [v]) ++ vs1).getD n .undef = v := by
          rw [List.getD_eq_getElem?_getD, List.getElem?_append_left (by simp; omega), ← List.getD_eq_getElem?_getD]
          exact hvn
        refine ih (done.set n true) _ h1 k ((vs ++ [v]) ++ vs1) tk (by omega) (by simp [hl]) g3 (by omega) g4 g5 g6 ?_ ?_ ?_ ?_
        · intro j oj hj hoj
          rcases Nat.lt_trichotomy j n with hjn | rfl | hjn
          · obtain ⟨ti, a1, a2, a3⟩ := hprev j oj hjn hoj
            refine ⟨ti, a1.vals fun i hi => by rw [happ]; exact hlow _ i (by omega), fun hw => ?_, fun hw => by rw [happ, hlow _ j hjn]; exact a3 hw⟩
            rcases a2 hw with b | ⟨b1, b2⟩
            · exact .inl ((getD_set_self (by omega)).2 (.inl b))
            · by_cases hdj : done.getD j false = true
              · exact .inl ((getD_set_self (by omega)).2 (.inl hdj))
              · refine .inr ⟨b1, ?_⟩
                rw [happ, hlow _ j hjn]
                cases hg : o.op.grow with
                | true => exact looks_ext (hgrow hg) b1 b2
                | false =>
                  cases hlk : oj.op.looks with
                  | false => exact pure_heap b1 hlk b2
                  | true =>
                    have hp := S.mutn n j o oj hjn ho hoj hlk (hstop o ho).2 hg
                    exact absurd (ancr n j hr hp) hdj
          · refine ⟨tn, htn.vals fun i hi => by rw [happ]; exact hlow _ i hi, fun _ => .inl ((getD_set_self (by omega)).2 (.inr rfl)), fun hw => ?_⟩
            rw [ho] at hoj
            cases hoj
            rw [(hstop o ho).1] at hw
            cases hw
          · obtain ⟨ti, a1, a2, a3⟩ := g7 j oj (by omega) hj hoj
            exact ⟨ti, a1, fun hw => .inr (a2 hw), a3⟩
        · intro j hj
          rcases (getD_set_self (by omega)).1 hj with b | b
          · have := hdn j b
            omega
          · omega
        · intro i' j hi' hj
          rcases (getD_set_self (by omega)).1 hi' with b | b
          · exact (getD_set_self (by omega)).2 (.inl (hcl i' j b hj))
          · subst b
            simp only [readyM, Bool.and_eq_true, List.all_eq_true] at hr
            exact (getD_set_self (by omega)).2 (.inl (hr.2 j hj))
        · have hs1 : Shape l ((vs ++ [v]) ++ vs1) t (fun j => done.getD j false = true) s := hs.vals fun j hj => by rw [happ]; exact hlow _ j (hdn j hj)
          have := hs1.put S.distinct ho ((hund n hi).1 hnd) hvn'
          exact ⟨this.len, fun x hx => this.old x fun j o' hj hD => hx j o' hj ((getD_set_self (by omega)).2 hD), fun j o' x hj hD => this.new j o' x hj ((getD_set_self (by omega)).1 hD)⟩
      refine .anyStep (fun i v h' => if i < n then vs.getD i .undef = v ∧ h' = h else Q1 v h') ?_ ?_ ?_ ?_
      · have : false ∈ done := List.count_pos_iff.1 (by omega)
        obtain ⟨m, hm, hf⟩ := List.mem_iff_getElem.1 this
        obtain ⟨i, hi, h1, h2⟩ := least (fun i => i < l.length ∧ done.getD i true = false) m ⟨by omega, by simp [List.getD_eq_getElem?_getD, hm, hf]⟩
        refine ⟨i, h1.1, ?_⟩
        simp only [readyM, Bool.and_eq_true, List.all_eq_true, h1.2, Bool.not_false, true_and]
        intro j hj
        have hlt := S.less i j h1.1 hj
        have := h2 j hlt
        by_cases hd : done.getD j false = true
        · exact hd
        · exact absurd ⟨by omega, (hund j (by omega)).2 hd⟩ this
      · intro i o ho hr hw
        have hi := (List.getElem?_eq_some_iff.1 ho).1
        rcases Nat.lt_or_ge i n with hin | hin
        · obtain ⟨ti, hti, e1, e2⟩ := hprev i o hin ho
          rw [wsame i o ti ho hr hti] at hw
          rcases e1 hw with b | ⟨b1, b2⟩
          · exact absurd b ((hund i hi).1 (undone i hr))
          · rw [← op_congr fun x hx => agree i o ti ho hr hti x (by simp [MOper.reads2, hx])] at b2
            exact .op b2 (by rw [if_pos hin]; exact ⟨rfl, rfl⟩)
        · have : i = n := by have := within i hi hr; omega
          subst this
          have hrun := hQ1a o ho
          have hmono : Runs M (.op o.op s Q1) h := runs_congr (fun x hx => (agree i o tn ho hr htn x (by simp [MOper.reads2, hx])).symm) hrun
          have e : (fun v h' => if i < i then vs.getD i .undef = v ∧ h' = h else Q1 v h') = Q1 := by
            funext v h'
            rw [if_neg (Nat.lt_irrefl i)]
          rw [e]
          exact hmono
      · intro i o ho hrd hw v h1 hq
        have hi := (List.getElem?_eq_some_iff.1 ho).1
        rcases Nat.lt_or_ge i n with hin | hin
        · rw [if_pos hin] at hq
          rw [hq.2]
          exact early i o v ho hrd hin hq.1
        · rw [if_neg (by omega)] at hq
          have : i = n := by have := within i hi hrd; omega
          subst this
          exact late o v h1 ho hrd hq
      · intro i o ho hr hw
        have hi := (List.getElem?_eq_some_iff.1 ho).1
        rcases Nat.lt_or_ge i n with hin | hin
        · obtain ⟨ti, hti, e1, e2⟩ := hprev i o hin ho
          rw [wsame i o ti ho hr hti] at hw
          exact early i o _ ho hr hin (e2 hw)
        · have : i = n := by have := within i hi hr; omega
          subst this
          have := (hstop o ho).1
          rw [← wsame i o tn ho hr htn, hw] at this
          cases this
  have s0 : Shape l [] t (· < 0) t := ⟨rfl, fun _ _ => rfl, fun j _ _ _ h => absurd h (Nat.not_lt_zero j)⟩
  obtain ⟨k, vs1, tk, g1, g2, g3, g4, g5, g6, g7⟩ := advance S.distinct l 0 t [] rfl rfl s0 hr
  simp only [List.nil_append] at g3 g4 g7
  have hnone : ∀ j, ¬ (List.replicate l.length false).getD j false = true := by
    intro j hj
    simp only [List.getD_eq_getElem?_getD, List.getElem?_replicate] at hj
    split at hj <;> simp at hj
  exact key _ _ t h0 k vs1 tk rfl (by simp) g3 (by omega) g4 g5 g6 (fun i o hi ho => by
    obtain ⟨ti, a1, a2, a3⟩ := g7 i o (Nat.zero_le i) hi ho
    exact ⟨ti, a1, fun hw => .inr (a2 hw), a3⟩) (fun j hj => absurd hj (hnone j)) (fun i j hi => absurd hi (hnone i)) ⟨rfl, fun _ _ => rfl, fun j _ _ _ h => absurd h (hnone j)⟩

/-! ### Another order -/
def permOK (l : List MOper) (pre : List (List Nat)) (σ τ : List Nat) : Bool :=
  σ.length == l.length && τ.length == l.length && pre.length == l.length && (List.range l.length).all fun i => Nat.blt (σ.getD i l.length) l.length && Nat.beq (τ.getD (σ.getD i 0) l.length) i && Nat.blt (τ.getD i l.length) l.length && Nat.beq (σ.getD (τ.getD i 0) l.length) i && (pre.getD i []).all fun j => Nat.blt j l.length

def permL (l : List MOper) (σ : List Nat) : List MOper := σ.filterMap fun i => l[i]?
def permE (pre : List (List Nat)) (σ τ : List Nat) : List (List Nat) := σ.map fun i => (pre.getD i []).map fun j => τ.getD j 0

theorem blt_iff {a b : Nat} : Nat.blt a b = true ↔ a < b := by simp only [Nat.blt, Nat.ble_eq]; omega

theorem perm_runs {M : Model} {l : List MOper} {pre : List (List Nat)} {σ τ : List Nat} {Q : Tmps → Heap → Prop} (hok : permOK l pre σ τ = true) : ∀ (c : Nat) (done done' : List Bool) (t : Tmps) (h : Heap), done'.count false = c → done.length = l.length → done'.length = l.length →
    (∀ k, k < l.length → done'.getD k true = done.getD (σ.getD k 0) true) → Runs M (.any (permL l σ) (permE pre σ τ) done' t Q) h → Runs M (.any l pre done t Q) h := by
  unfold permOK at hok
  simp only [Bool.and_eq_true, beq_iff_eq, List.all_eq_true, List.mem_range] at hok
  obtain ⟨⟨⟨hσ, hτ⟩, hpre⟩, hall⟩ := hok
  have hs : ∀ i, i < l.length → σ.getD i 0 < l.length ∧ τ.getD (σ.getD i 0) 0 = i ∧ τ.getD i 0 < l.length ∧ σ.getD (τ.getD i 0) 0 = i ∧ ∀ j ∈ pre.getD i [], j < l.length := by
    intro i hi
    obtain ⟨⟨⟨⟨h1, h2⟩, h3⟩, h4⟩, h5⟩ := hall i hi
    have e1 : σ.getD i l.length = σ.getD i 0 := by simp [List.getD_eq_getElem?_getD, List.getElem?_eq_getElem (by omega : i < σ.length)]
    have e2 : τ.getD i l.length = τ.getD i 0 := by simp [List.getD_eq_getElem?_getD, List.getElem?_eq_getElem (by omega : i < τ.length)]
    rw [e1] at h1
    rw [e2] at h3
    have h1 := blt_iff.1 h1
    have h3 := blt_iff.1 h3
    have e3 : τ.getD (σ.getD i 0) l.length = τ.getD (σ.getD i 0) 0 := by simp only [List.getD_eq_getElem?_getD] at h1 ⊢; simp [List.getElem?_eq_getElem (by omega : σ[i]?.getD 0 < τ.length)]
    have e4 : σ.getD (τ.getD i 0) l.length = σ.getD (τ.getD i 0) 0 := by simp only [List.getD_eq_getElem?_getD] at h3 ⊢; simp [List.getElem?_eq_getElem (by omega : τ[i]?.getD 0 < σ.length)]
    rw [e3] at h2
    rw [e4] at h4
    exact ⟨h1, Nat.eq_of_beq_eq_true h2, h3, Nat.eq_of_beq_eq_true h4, fun j hj => blt_iff.1 (h5 j hj)⟩
  have hL : permL l σ = σ.map fun i => l.getD i ⟨none, .mov (.const .undef), none⟩ := by
    have : ∀ (s : List Nat), (∀ x ∈ s, x < l.length) → (s.filterMap fun i => l[i]?) = s.map fun i => l.getD i ⟨none, .mov (.const .undef), none⟩ := by
      intro s
      induction s with
      | nil => intro _; rfl
      | cons x s ih =>
        intro hx
        have h1 := hx x List.mem_cons_self
        rw [List.filterMap_cons, List.map_cons, ih fun y hy => hx y (List.mem_cons_of_mem _ hy)]
        simp [List.getElem?_eq_getElem h1]
    refine this σ fun x hx => ?_
    obtain ⟨i, hi, rfl⟩ := List.getElem_of_mem hx
    have := (hs i (by omega)).1
    simpa [List.getD_eq_getElem?_getD, List.getElem?_eq_getElem hi] using this
  have hlen : (permL l σ).length = l.length := by rw [hL]; simp [hσ]
  have hget : ∀ k, k < l.length → (permL l σ)[k]? = l[σ.getD k 0]? := by
    intro k hk
    have h1 := (hs k hk).1
    rw [hL, List.getElem?_map, List.getElem?_eq_getElem (by omega : k < σ.length)]
    have e : σ.getD k 0 = σ[k] := by simp [List.getD_eq_getElem?_getD, List.getElem?_eq_getElem (by omega : k < σ.length)]
    rw [e] at h1 ⊢
    simp [List.getElem?_eq_getElem h1]
  have hpe : ∀ k, k < l.length → (permE pre σ τ).getD k [] = (pre.getD (σ.getD k 0) []).map fun j => τ.getD j 0 := by
    intro k hk
    unfold permE
    simp [List.getD_eq_getElem?_getD, List.getElem?_eq_getElem (by omega : k < σ.length)]
  intro c
  induction c using Nat.strongRecOn with
  | _ c ih =>
    intro done done' t h hc hl hl' hd hr
    have bool : ∀ (d : List Bool) j, j < d.length → (d.getD j false = d.getD j true) := by
      intro d j hj
      simp [List.getD_eq_getElem?_getD, List.getElem?_eq_getElem hj]
    have ready : ∀ k, k < l.length → readyM (permE pre σ τ) done' k = readyM pre done (σ.getD k 0) := by
      intro k hk
      unfold readyM
      rw [hd k hk, hpe k hk, List.all_map]
      congr 1
      have hp := (hs _ (hs k hk).1).2.2.2.2
      have : ∀ (p : List Nat), (∀ j ∈ p, j < l.length) → p.all ((fun x => done'.getD x false) ∘ fun j => τ.getD j 0) = p.all fun x => done.getD x false := by
        intro p hp
        induction p with
        | nil => rfl
        | cons j p ihp =>
          have hj := hp j List.mem_cons_self
          simp only [List.all_cons]
          rw [ihp fun x hx => hp x (List.mem_cons_of_mem _ hx)]
          congr 1
          simp only [Function.comp]
          have h3 := (hs j hj).2.2.1
          rw [bool done' _ (by omega), hd _ h3, (hs j hj).2.2.2.1, bool done j (by omega)]
      exact this _ hp
    have next : ∀ i, i < l.length → done.getD i true = false → ∀ t' h', Runs M (.any (permL l σ) (permE pre σ τ) (done'.set (τ.getD i 0) true) t' Q) h' → Runs M (.any l pre (done.set i true) t' Q) h' := by
      intro i hi hund t' h' hr'
      obtain ⟨_, _, h3, h4, _⟩ := hs i hi
      have hu' : done'.getD (τ.getD i 0) true = false := by rw [hd _ h3, h4]; exact hund
      have hcnt := count_set_lt done' (τ.getD i 0) hu'
      refine ih ((done'.set (τ.getD i 0) true).count false) (by omega) _ _ t' h' rfl (by simp [hl]) (by simp [hl']) ?_ hr'
      intro k hk
      simp only [List.getD_eq_getElem?_getD, List.getElem?_set]
      simp only [List.getD_eq_getElem?_getD] at hd
      obtain ⟨k1, k2, _⟩ := hs k hk
      simp only [List.getD_eq_getElem?_getD] at k1 k2 h3 h4
      by_cases hik : i = σ[k]?.getD 0
      · rw [if_pos (by rw [hik]; exact k2), if_pos hik]
        rw [if_pos (by omega), if_pos (by omega)]
      · rw [if_neg (by intro e; exact hik (by rw [← e, h4])), if_neg hik]
        exact hd k hk
    cases hr with
    | anyDone h1 hQ =>
      refine .anyDone (fun i hi => ?_) hQ
      obtain ⟨_, _, h3, h4, _⟩ := hs i hi
      have := h1 (τ.getD i 0) (by rw [hlen]; exact h3)
      rw [ready _ h3, h4] at this
      exact this
    | anyStep Q1 hex h1 h2 h3 =>
      have und : ∀ i, readyM pre done i = true → done.getD i true = false := by
        intro i hr
        simp only [readyM, Bool.and_eq_true, Bool.not_eq_true'] at hr
        exact hr.1
      have to : ∀ i o, l[i]? = some o → i < l.length ∧ (permL l σ)[τ.getD i 0]? = some o ∧ (readyM pre done i = true → readyM (permE pre σ τ) done' (τ.getD i 0) = true) := by
        intro i o ho
        have hi := (List.getElem?_eq_some_iff.1 ho).1
        obtain ⟨_, _, h3, h4, _⟩ := hs i hi
        exact ⟨hi, by rw [hget _ h3, h4]; exact ho, fun hr => by rw [ready _ h3, h4]; exact hr⟩
      refine .anyStep (fun i v h' => Q1 (τ.getD i 0) v h') ?_ ?_ ?_ ?_
      · obtain ⟨k, hk, hr⟩ := hex
        rw [hlen] at hk
        exact ⟨σ.getD k 0, (hs k hk).1, by rw [← ready k hk]; exact hr⟩
      · intro i o ho hr hw
        obtain ⟨hi, a1, a2⟩ := to i o ho
        exact h1 _ o a1 (a2 hr) hw
      · intro i o ho hr hw v h' hq
        obtain ⟨hi, a1, a2⟩ := to i o ho
        exact next i hi (und i hr) _ _ (h2 _ o a1 (a2 hr) hw v h' hq)
      · intro i o ho hr hw
        obtain ⟨hi, a1, a2⟩ := to i o ho
        exact next i hi (und i hr) _ _ (h3 _ o a1 (a2 hr) hw)

theorem perm_length {l : List MOper} {pre : List (List Nat)} {σ τ : List Nat} (hok : permOK l pre σ τ = true) : (permL l σ).length = l.length := by
  unfold permOK at hok
  simp only [Bool.and_eq_true, beq_iff_eq, List.all_eq_true, List.mem_range] at hok
  obtain ⟨⟨⟨hσ, hτ⟩, hpre⟩, hall⟩ := hok
  have : ∀ (s : List Nat), (∀ x ∈ s, x < l.length) → (s.filterMap fun i => l[i]?).length = s.length := by
    intro s
    induction s with
    | nil => intro _; rfl
    | cons x s ih =>
      intro hx
      rw [List.filterMap_cons, List.getElem?_eq_getElem (hx x List.mem_cons_self)]
      simp [ih fun y hy => hx y (List.mem_cons_of_mem _ hy)]
  unfold permL
  rw [this σ fun x hx => ?_, hσ]
  obtain ⟨i, hi, rfl⟩ := List.getElem_of_mem hx
  have := (hall i (by omega)).1.1.1.1
  have := blt_iff.1 this
  simpa [List.getD_eq_getElem?_getD, List.getElem?_eq_getElem hi] using this

theorem perm_all {M : Model} {l : List MOper} {pre : List (List Nat)} {σ τ : List Nat} {Q : Tmps → Heap → Prop} {t : Tmps} {h : Heap} (hok : permOK l pre σ τ = true) (hr : Runs M (.any (permL l σ) (permE pre σ τ) (List.replicate (permL l σ).length false) t Q) h) : Runs M (.any l pre (List.replicate l.length false) t Q) h := by
  have hlen := perm_length hok
  rw [hlen] at hr
  refine perm_runs hok _ _ _ t h rfl (by simp) (by simp) (fun k hk => ?_) hr
  have hσ : σ.getD k 0 < l.length := by
    unfold permOK at hok
    simp only [Bool.and_eq_true, beq_iff_eq, List.all_eq_true, List.mem_range] at hok
    have h1 := blt_iff.1 (hok.2 k hk).1.1.1.1
    have e1 : σ.getD k l.length = σ.getD k 0 := by simp [List.getD_eq_getElem?_getD, List.getElem?_eq_getElem (by omega : k < σ.length)]
    rw [e1] at h1
    exact h1
  simp only [List.getD_eq_getElem?_getD] at hσ ⊢
  simp [List.getElem?_replicate, hk, hσ]
end Go.Abs
