import Derived.Test.YtcjhjphmlfkikaaDoorAbsG6
import Derived.Test.YtcjhjphmlfkikaaDoorAbsG4
set_option linter.unusedVariables false
set_option linter.unusedSimpArgs false
namespace Go.Abs

def rs : Nat → Hint → Hint
  | 0, h => h
  | n + 1, h => .op ⟨.raw, 0, true, 0⟩ (rs n h)

end Go.Abs

set_option linter.unusedVariables false
set_option linter.unusedSimpArgs false
namespace Go.Abs

def QuietAt (M : Model) (t : Tmps) (o : MOp) (v : AV) : Prop := ∀ h, Runs M (.op o t fun v' h' => v' = v ∧ h' = h) h
def QuietOps (M : Model) (q : MOp → Bool) : Prop := ∀ o, q o = true → ∀ (t : Tmps) (h : Heap) (Q1 : AV → Heap → Prop), Runs M (.op o t Q1) h → ∃ v, Q1 v h ∧ QuietAt M t o v
def calm (q : MOp → Bool) (o : MOp) : Bool := o.still || q o
def Sure (M : Model) (t : Tmps) (h : Heap) (o : MOp) (v : AV) : Prop := (o.still = true ∧ evalOp t h o = some (v, h)) ∨ QuietAt M t o v

inductive SRunQ (q sf : MOp → Bool) (M : Model) (h0 : Heap) : List MOper → Tmps → Heap → (Tmps → Heap → Prop) → Prop
  | nil {t h Q} : Q t h → SRunQ q sf M h0 [] t h Q
  | cons {o l t h Q} (Q1 : AV → Heap → Prop) : wantedM t o.guard = true → q o.op = false → Runs M (.op o.op t Q1) h → (∀ v h1, Q1 v h1 → o.op.adds = true → Ext h h1) → (∀ v h1, Q1 v h1 → calm q o.op = false → sf o.op = true → Ext h0 h1) → (∀ v h1, Q1 v h1 → SRunQ q sf M h0 l (put t o.dst v) h1 Q) → SRunQ q sf M h0 (o :: l) t h Q
  | quiet {o l t h Q} (v : AV) : wantedM t o.guard = true → q o.op = true → QuietAt M t o.op v → SRunQ q sf M h0 l (put t o.dst v) h Q → SRunQ q sf M h0 (o :: l) t h Q
  | off {o l t h Q} : wantedM t o.guard = false → SRunQ q sf M h0 l (put t o.dst .undef) h Q → SRunQ q sf M h0 (o :: l) t h Q

def earlyB (q : MOp → Bool) (l : List MOper) (j : Nat) : Bool := (l.take (j + 1)).all fun o => calm q o.op
def drawEffQ (q sf : MOp → Bool) (l : List MOper) (pre : List (List Nat)) : Bool :=
  let ms := masks [] pre
  pre.length == l.length && (List.range l.length).all fun i => (pre.getD i []).all (fun j => Nat.blt j i) && (List.range l.length).all fun j =>
    match l[i]?, l[j]? with
    | some x, some y => (Nat.beq i j || x.dst.isNone || x.dst != y.dst) && (match y.dst with
      | some d => !x.reads2.contains d || ((pre.getD i []).contains j) || Nat.beq i j || (Nat.blt i j && (ms.getD j 0).testBit i)
      | none => true) && (!(Nat.blt j i) || calm q y.op || (ms.getD i 0).testBit j) && (!(Nat.blt j i) || !y.op.looks || calm q x.op || x.op.adds || (ms.getD i 0).testBit j || (sf x.op && earlyB q l j))
    | _, _ => false

structure EffSpecQ (q sf : MOp → Bool) (l : List MOper) (pre : List (List Nat)) : Prop where
  less : ∀ i j, i < l.length → j ∈ pre.getD i [] → j < i
  distinct : Distinct l
  reads : ∀ (i j : Nat) (x y : MOper) (d : Nat), l[i]? = some x → l[j]? = some y → y.dst = some d → d ∈ x.reads2 → j ∈ pre.getD i [] ∨ i = j ∨ (i < j ∧ Anc pre j i)
  eff : ∀ (i j : Nat) (y : MOper), i < l.length → j < i → l[j]? = some y → calm q y.op = false → Anc pre i j
  mutn : ∀ (i j : Nat) (x y : MOper), j < i → l[i]? = some x → l[j]? = some y → y.op.looks = true → calm q x.op = false → x.op.adds = false → Anc pre i j ∨ (sf x.op = true ∧ earlyB q l j = true)

theorem drawEffQ_spec {q sf : MOp → Bool} {l : List MOper} {pre : List (List Nat)} (h : drawEffQ q sf l pre = true) : EffSpecQ q sf l pre := by
  have hms : ∀ i j, ((masks [] pre).getD i 0).testBit j = true → Anc pre i j := masks_spec (by simp) (by simp)
  unfold drawEffQ at h
  simp only [Bool.and_eq_true] at h
  obtain ⟨h2, h3⟩ := h
  rw [List.all_eq_true] at h3
  have key : ∀ (i j : Nat) (x y : MOper), l[i]? = some x → l[j]? = some y → (((Nat.beq i j || x.dst.isNone || x.dst != y.dst) = true ∧ (match y.dst with
      | some d => !x.reads2.contains d || ((pre.getD i []).contains j) || Nat.beq i j || (Nat.blt i j && ((masks [] pre).getD j 0).testBit i)
      | none => true) = true) ∧ (!(Nat.blt j i) || calm q y.op || ((masks [] pre).getD i 0).testBit j) = true) ∧ (!(Nat.blt j i) || !y.op.looks || calm q x.op || x.op.adds || ((masks [] pre).getD i 0).testBit j || (sf x.op && earlyB q l j)) = true := by
    intro i j x y hx hy
    have := h3 i (List.mem_range.2 (List.getElem?_eq_some_iff.1 hx).1)
    simp only [Bool.and_eq_true] at this
    have := List.all_eq_true.1 this.2 j (List.mem_range.2 (List.getElem?_eq_some_iff.1 hy).1)
    rw [hx, hy] at this
    simpa only [Bool.and_eq_true] using this
  have blt : ∀ {a b : Nat}, a < b → Nat.blt a b = true := fun {a b} h => by simp only [Nat.blt, Nat.ble_eq]; omega
  refine ⟨fun i j hi hj => ?_, fun i j x y d hx hy hdx hdy => ?_, fun i j x y d hx hy hdy hr => ?_, fun i j y hi hji hy hs => hms i j ?_, fun i j x y hji hx hy hl hs hg => ?_⟩
  · have := h3 i (List.mem_range.2 hi)
    simp only [Bool.and_eq_true] at this
    have := List.all_eq_true.1 this.1 j hj
    simp only [Nat.blt, Nat.ble_eq] at this
    omega
  · have := (key i j x y hx hy).1.1.1
    rw [hdx, hdy] at this
    simpa using this
  · have := (key i j x y hx hy).1.1.2
    rw [hdy] at this
    simp only [Bool.or_eq_true, Bool.not_eq_true', Bool.and_eq_true, List.contains_iff_mem] at this
    rcases this with ((h' | h') | h') | h'
    · have : x.reads2.contains d = true := by simpa using hr
      rw [this] at h'
      cases h'
    · exact .inl h'
    · exact .inr (.inl (Nat.eq_of_beq_eq_true h'))
    · refine .inr (.inr ⟨?_, hms j i h'.2⟩)
      have := h'.1
      simp only [Nat.blt, Nat.ble_eq] at this
      omega
  · have := (key i j l[i] y (List.getElem?_eq_getElem hi) hy).1.2
    rw [blt hji, hs] at this
    simpa using this
  · have := (key i j x y hx hy).2
    rw [blt hji, hl, hs, hg] at this
    simp only [Bool.not_true, Bool.false_or, Bool.or_eq_true, Bool.and_eq_true] at this
    exact this.imp (hms i j) id

theorem advanceQ {q sf : MOp → Bool} {h0 : Heap} {M : Model} {Q : Tmps → Heap → Prop} {h : Heap} {l : List MOper} (hd : Distinct l) {t : Tmps} : ∀ (suf : List MOper) (n : Nat) (s : Tmps) (vs0 : List AV), l.drop n = suf → vs0.length = n → Shape l vs0 t (· < n) s → SRunQ q sf M h0 suf s h Q →
    ∃ k vs1 tk, n ≤ k ∧ k ≤ max n l.length ∧ (vs0 ++ vs1).length = k ∧ Shape l (vs0 ++ vs1) t (· < k) tk ∧ SRunQ q sf M h0 (l.drop k) tk h Q ∧ (∀ o, l[k]? = some o → wantedM tk o.guard = true ∧ calm q o.op = false) ∧
      ∀ i o, n ≤ i → i < k → l[i]? = some o → ∃ ti, Shape l (vs0 ++ vs1) t (· < i) ti ∧ (wantedM ti o.guard = true → Sure M ti h o.op ((vs0 ++ vs1).getD i .undef)) ∧ (wantedM ti o.guard = false → (vs0 ++ vs1).getD i .undef = .undef)
  | [], n, s, vs0, hdrop, hlen, hs, hr => by
    have hn : l.length ≤ n := List.drop_eq_nil_iff.1 hdrop
    refine ⟨n, [], s, Nat.le_refl _, by omega, by simpa using hlen, by simpa using hs, by rw [hdrop]; exact hr, fun o ho => ?_, fun i o hi hk => by omega⟩
    have := (List.getElem?_eq_some_iff.1 ho).1
    omega
  | o :: suf, n, s, vs0, hdrop, hlen, hs, hr => by
    have hn : n < l.length := by
      rcases Nat.lt_or_ge n l.length with h' | h'
      · exact h'
      · rw [List.drop_eq_nil_of_le h'] at hdrop; cases hdrop
    have e := List.drop_eq_getElem_cons hn
    rw [hdrop] at e
    injection e with e1 e2
    have hon : l[n]? = some o := by rw [List.getElem?_eq_getElem hn, e1]
    by_cases hstop : wantedM s o.guard = true ∧ calm q o.op = false
    · refine ⟨n, [], s, Nat.le_refl _, by omega, by simpa using hlen, by simpa using hs, by rw [hdrop]; exact hr, fun o' ho' => ?_, fun i o hi hk => by omega⟩
      rw [hon] at ho'
      cases ho'
      exact hstop
    · obtain ⟨v, hw1, hw2, hr2⟩ : ∃ v, (wantedM s o.guard = true → Sure M s h o.op v) ∧ (wantedM s o.guard = false → v = .undef) ∧ SRunQ q sf M h0 suf (Abs.put s o.dst v) h Q := by
        cases hr with
        | cons Q1 hw hq h1 h3 h4 h2 =>
          have hst : o.op.still = true := by
            cases hh : o.op.still with
            | true => rfl
            | false => exact absurd ⟨hw, by simp [calm, hh, hq]⟩ hstop
          obtain ⟨v, he, hQ⟩ := still_op hst h1
          refine ⟨v, fun _ => .inl ⟨hst, he⟩, fun hf => ?_, h2 v h hQ⟩
          rw [hw] at hf
          cases hf
        | quiet v hw hq h1 h2 =>
          refine ⟨v, fun _ => .inr h1, fun hf => ?_, h2⟩
          rw [hw] at hf
          cases hf
        | off hw h1 =>
          refine ⟨.undef, fun ht => ?_, fun _ => rfl, h1⟩
          rw [hw] at ht
          cases ht
      have hvn : (vs0 ++ [v]).getD n .undef = v := by
        simp [List.getD_eq_getElem?_getD, ← hlen]
      have hsx : Shape l (vs0 ++ [v]) t (· < n) s := ⟨hs.len, hs.old, fun j o x hj hD hd' hx => by
        rw [hs.new j o x hj hD hd' hx]
        simp only [List.getD_eq_getElem?_getD]
        rw [List.getElem?_append_left (by omega)]⟩
      have hs' : Shape l (vs0 ++ [v]) t (· < n + 1) (Abs.put s o.dst v) := by
        have := hsx.put hd hon (by omega) hvn
        refine ⟨this.len, fun x hx => this.old x fun j o' hj hD => hx j o' hj (by omega), fun j o' x hj hD => this.new j o' x hj (by omega)⟩
      obtain ⟨k, vs1, tk, g1, g2, g3, g4, g5, g6, g7⟩ := advanceQ hd suf (n + 1) (Abs.put s o.dst v) (vs0 ++ [v]) e2.symm (by simp [hlen]) hs' hr2
      have happ : vs0 ++ v :: vs1 = (vs0 ++ [v]) ++ vs1 := by simp
      refine ⟨k, v :: vs1, tk, by omega, by omega, by rw [happ]; exact g3, by rw [happ]; exact g4, g5, g6, fun i o' hi hk ho' => ?_⟩
      rw [happ]
      by_cases hin : i = n
      · subst hin
        rw [hon] at ho'
        cases ho'
        have hvn' : ((vs0 ++ [v]) ++ vs1).getD i .undef = v := by
          rw [List.getD_eq_getElem?_getD, List.getElem?_append_left (by simp; omega), ← List.getD_eq_getElem?_getD]
          exact hvn
        refine ⟨s, ⟨hs.len, hs.old, fun j o x hj hD hd' hx => ?_⟩, fun hw => by rw [hvn']; exact hw1 hw, fun hw => by rw [hvn']; exact hw2 hw⟩
        rw [hs.new j o x hj hD hd' hx]
        simp only [List.getD_eq_getElem?_getD, List.append_assoc]
        rw [List.getElem?_append_left (by omega)]
      · exact g7 i o' (by omega) hk ho'

theorem eff_runsQ {q sf : MOp → Bool} {M : Model} {l : List MOper} {pre : List (List Nat)} {t : Tmps} {Q : Tmps → Heap → Prop} {h0 : Heap} (hok : drawEffQ q sf l pre = true) (hr : SRunQ q sf M h0 l t h0 Q) : Runs M (.any l pre (List.replicate l.length false) t Q) h0 := by
  have S := drawEffQ_spec hok
  have key : ∀ (c : Nat) (done : List Bool) (s : Tmps) (h : Heap) (n : Nat) (vs : List AV) (tn : Tmps), done.count false = c → done.length = l.length → vs.length = n → n ≤ l.length → Shape l vs t (· < n) tn → SRunQ q sf M h0 (l.drop n) tn h Q →
      (∀ o, l[n]? = some o → wantedM tn o.guard = true ∧ calm q o.op = false) →
      (∀ i o, i < n → l[i]? = some o → ∃ ti, Shape l vs t (· < i) ti ∧ (wantedM ti o.guard = true → done.getD i false = true ∨ Sure M ti h o.op (vs.getD i .undef)) ∧ (wantedM ti o.guard = false → vs.getD i .undef = .undef) ∧ (earlyB q l i = true → wantedM ti o.guard = true → Sure M ti h0 o.op (vs.getD i .undef))) →
      (∀ j, done.getD j false = true → j < n) → (∀ i j, done.getD i false = true → j ∈ pre.getD i [] → done.getD j false = true) → Shape l vs t (fun j => done.getD j false = true) s → Runs M (.any l pre done s Q) h := by
    intro c
    induction c with
    | zero =>
      intro done s h n vs tn hc hl hvl hnl htn hsr hstop hprev hdn hcl hs
      have hall : ∀ j, j < l.length → done.getD j false = true := by
        intro j hj
        have : done[j]'(by omega) ≠ false := by
          intro hf
          have := List.count_pos_iff.2 (hf ▸ List.getElem_mem (l := done) (by omega : j < done.length))
          omega
        simp only [List.getD_eq_getElem?_getD, List.getElem?_eq_getElem (by omega : j < done.length), Option.getD_some]
        simpa using this
      have hn : n = l.length := by
        rcases Nat.lt_or_ge n l.length with h1 | h1
        · have := hdn n (hall n h1)
          omega
        · omega
      refine .anyDone (fun i hi => ?_) ?_
      · have := hall i hi
        have h2 : done.getD i true = true := by
          simp only [List.getD_eq_getElem?_getD, List.getElem?_eq_getElem (by omega : i < done.length), Option.getD_some] at this ⊢
          exact this
        unfold readyM
        rw [h2]
        rfl
      · have : s = tn := Shape.ext (D' := (· < n)) (fun j hj => ⟨fun _ => by omega, fun _ => hall j hj⟩) hs htn
        rw [this]
        rw [hn, List.drop_length] at hsr
        cases hsr with
        | nil hQ => exact hQ
    | succ c ih =>
      intro done s h n vs tn hc hl hvl hnl htn hsr hstop hprev hdn hcl hs
      have hund : ∀ i, i < l.length → (done.getD i true = false ↔ ¬ done.getD i false = true) := by
        intro i hi
        simp only [List.getD_eq_getElem?_getD, List.getElem?_eq_getElem (by omega : i < done.length), Option.getD_some]
        simp
      have undone : ∀ i, readyM pre done i = true → done.getD i true = false := by
        intro i hr
        simp only [readyM, Bool.and_eq_true, Bool.not_eq_true'] at hr
        exact hr.1
      have ancd : ∀ i j, Anc pre i j → done.getD i false = true → done.getD j false = true := by
        intro i j ha
        induction ha with
        | edge h => exact fun hi => hcl _ _ hi h
        | step h _ ih => exact fun hi => ih (hcl _ _ hi h)
      have agree : ∀ i o ti, l[i]? = some o → readyM pre done i = true → Shape l vs t (· < i) ti → ∀ x ∈ o.reads2, s.getD x .undef = ti.getD x .undef := by
        intro i o ti ho hr hti x hx
        have hi := (List.getElem?_eq_some_iff.1 ho).1
        have hnd := (hund i hi).1 (undone i hr)
        simp only [readyM, Bool.and_eq_true, List.all_eq_true] at hr
        by_cases hj : ∃ (j : Nat) (y : MOper), l[j]? = some y ∧ y.dst = some x
        · obtain ⟨j, y, hy, hd⟩ := hj
          have aside : ¬ done.getD j false = true → ¬ j < i → s.getD x .undef = ti.getD x .undef := by
            intro h1 h2
            rw [hs.old x fun j' y' hy' hD hd' => h1 (S.distinct j j' y y' x hy hy' hd hd' ▸ hD), hti.old x fun j' y' hy' hD hd' => h2 (S.distinct j j' y y' x hy hy' hd hd' ▸ hD)]
          rcases S.reads i j o y x ho hy hd hx with hpre | rfl | ⟨hij, hanc⟩
          · by_cases hxl : x < t.length
            · rw [hs.new j y x hy (hr.2 j hpre) hd hxl, hti.new j y x hy (S.less i j hi hpre) hd hxl]
            · simp [List.getD_eq_getElem?_getD, List.getElem?_eq_none (by rw [hs.len]; omega : s.length ≤ x), List.getElem?_eq_none (by rw [hti.len]; omega : ti.length ≤ x)]
          · exact aside hnd (Nat.lt_irrefl _)
          · exact aside (fun hd' => hnd (ancd j i hanc hd')) (by omega)
        · rw [hs.old x fun j y hy _ hd => hj ⟨j, y, hy, hd⟩, hti.old x fun j y hy _ hd => hj ⟨j, y, hy, hd⟩]
      have wsame : ∀ i o ti, l[i]? = some o → readyM pre done i = true → Shape l vs t (· < i) ti → wantedM s o.guard = wantedM ti o.guard := by
        intro i o ti ho hr hti
        cases hg : o.guard with
        | none => rfl
        | some g =>
          obtain ⟨g, want⟩ := g
          have := agree i o ti ho hr hti g (by simp [MOper.reads2, hg])
          simp only [wantedM, this]
      have ancr : ∀ i j, readyM pre done i = true → Anc pre i j → done.getD j false = true := by
        intro i j hr ha
        simp only [readyM, Bool.and_eq_true, List.all_eq_true] at hr
        cases ha with
        | edge h => exact hr.2 _ h
        | step h h2 => exact ancd _ _ h2 (hr.2 _ h)
      have within : ∀ i, i < l.length → readyM pre done i = true → i ≤ n := by
        intro i hi hr
        rcases Nat.lt_or_ge n i with h1 | h1
        · exfalso
          have hn : n < l.length := by omega
          have hx := hstop l[n] (List.getElem?_eq_getElem hn)
          have hp := S.eff i n l[n] hi h1 (List.getElem?_eq_getElem hn) hx.2
          have := hdn n (ancr i n hr hp)
          omega
        · exact h1
      -- the answer of the operation that comes next in the listed order
      obtain ⟨Q1, hQ1a, hQ1b⟩ : ∃ Q1 : AV → Heap → Prop, (∀ o, l[n]? = some o → Runs M (.op o.op tn Q1) h) ∧ ∀ o, l[n]? = some o → ∀ v h1, Q1 v h1 → (o.op.adds = true → Ext h h1) ∧ (calm q o.op = false → sf o.op = true → Ext h0 h1) ∧ SRunQ q sf M h0 (l.drop (n + 1)) (Abs.put tn o.dst v) h1 Q := by
        cases hn : l[n]? with
        | none => exact ⟨fun _ _ => False, fun o ho => by simp at ho, fun o ho => by simp at ho⟩
        | some o =>
          have hlt := (List.getElem?_eq_some_iff.1 hn).1
          have e := List.drop_eq_getElem_cons hlt
          have e1 : l[n] = o := by have := List.getElem?_eq_getElem hlt; rw [hn] at this; exact (Option.some.inj this).symm
          rw [e, e1] at hsr
          cases hsr with
          | cons Q1 hw hq h1 h3 h4 h2 => exact ⟨Q1, fun o' ho' => by cases ho'; exact h1, fun o' ho' => by cases ho'; exact fun v h1 hq => ⟨h3 v h1 hq, h4 v h1 hq, h2 v h1 hq⟩⟩
          | quiet v hw hq h1 h2 =>
            have := (hstop o hn).2
            simp [calm, hq] at this
          | off hw h1 =>
            have := (hstop o hn).1
            rw [hw] at this
            cases this
      have early : ∀ i o v, l[i]? = some o → readyM pre done i = true → i < n → vs.getD i .undef = v → Runs M (.any l pre (done.set i true) (Abs.put s o.dst v) Q) h := by
        intro i o v ho hr hin hvi
        have hi := (List.getElem?_eq_some_iff.1 ho).1
        have hnd := undone i hr
        have hcnt := count_set_lt done i hnd
        refine ih (done.set i true) _ h n vs tn (by omega) (by simp [hl]) hvl hnl htn hsr hstop ?_ ?_ ?_ ?_
        · intro j oj hj hoj
          obtain ⟨ti, a1, a2, a3, a4⟩ := hprev j oj hj hoj
          refine ⟨ti, a1, fun hw => ?_, a3, a4⟩
          rcases a2 hw with b | b
          · exact .inl ((getD_set_self (by omega)).2 (.inl b))
          · exact .inr b
        · intro j hj
          rcases (getD_set_self (by omega)).1 hj with b | b
          · exact hdn j b
          · omega
        · intro i' j hi' hj
          rcases (getD_set_self (by omega)).1 hi' with b | b
          · exact (getD_set_self (by omega)).2 (.inl (hcl i' j b hj))
          · subst b
            simp only [readyM, Bool.and_eq_true, List.all_eq_true] at hr
            exact (getD_set_self (by omega)).2 (.inl (hr.2 j hj))
        · have := hs.put S.distinct ho ((hund i hi).1 hnd) hvi
          exact ⟨this.len, fun x hx => this.old x fun j o' hj hD => hx j o' hj ((getD_set_self (by omega)).2 hD), fun j o' x hj hD => this.new j o' x hj ((getD_set_self (by omega)).1 hD)⟩
      have late : ∀ o v h1, l[n]? = some o → readyM pre done n = true → Q1 v h1 → Runs M (.any l pre (done.set n true) (Abs.put s o.dst v) Q) h1 := by
        intro o v h1 ho hr hq
        have hi := (List.getElem?_eq_some_iff.1 ho).1
        have hnd := undone n hr
        have hcnt := count_set_lt done n hnd
        obtain ⟨hgrow, hsoft, hsr1⟩ := hQ1b o ho v h1 hq
        have hvn : (vs ++ [v]).getD n .undef = v := by simp [List.getD_eq_getElem?_getD, ← hvl]
        have hlow : ∀ (ws : List AV) j, j < n → (vs ++ ws).getD j .undef = vs.getD j .undef := by
          intro ws j hj
          simp only [List.getD_eq_getElem?_getD]
          rw [List.getElem?_append_left (by omega)]
        have htn1 : Shape l (vs ++ [v]) t (· < n + 1) (Abs.put tn o.dst v) := by
          have := (htn.vals (vs' := vs ++ [v]) fun j hj => hlow [v] j hj).put S.distinct ho (by omega) hvn
          exact ⟨this.len, fun x hx => this.old x fun j o' hj hD => hx j o' hj (by omega), fun j o' x hj hD => this.new j o' x hj (by omega)⟩
        obtain ⟨k, vs1, tk, g1, g2, g3, g4, g5, g6, g7⟩ := advanceQ S.distinct _ (n + 1) _ (vs ++ [v]) rfl (by simp [hvl]) htn1 hsr1
        have happ : (vs ++ [v]) ++ vs1 = vs ++ (v :: vs1) := by simp
        have hvn' : ((vs ++ [v]) ++ vs1).getD n .undef = v := by
          rw [List.getD_eq_getElem?_getD, List.getElem?_append_left (by simp; omega), ← List.getD_eq_getElem?_getD]
          exact hvn
        have notearly : ∀ (j : Nat) o, l[n]? = some o → n ≤ j → earlyB q l j = false := by
          intro j o' ho' hnj
          rw [ho] at ho'
          cases ho'
          cases he : earlyB q l j with
          | false => rfl
          | true =>
            have hm : o ∈ l.take (j + 1) := List.mem_iff_getElem?.2 ⟨n, by rw [List.getElem?_take_of_lt (by omega)]; exact ho⟩
            have := List.all_eq_true.1 he o hm
            rw [(hstop o ho).2] at this
            cases this
        refine ih (done.set n true) _ h1 k ((vs ++ [v]) ++ vs1) tk (by omega) (by simp [hl]) g3 (by omega) g4 g5 g6 ?_ ?_ ?_ ?_
        · intro j oj hj hoj
          rcases Nat.lt_trichotomy j n with hjn | rfl | hjn
          · obtain ⟨ti, a1, a2, a3, a4⟩ := hprev j oj hjn hoj
            refine ⟨ti, a1.vals fun i hi => by rw [happ]; exact hlow _ i (by omega), fun hw => ?_, fun hw => by rw [happ, hlow _ j hjn]; exact a3 hw, fun he hw => by rw [happ, hlow _ j hjn]; exact a4 he hw⟩
            rcases a2 hw with b | ⟨b1, b2⟩ | b3
            · exact .inl ((getD_set_self (by omega)).2 (.inl b))
            rotate_left
            · exact .inr (.inr (by rw [happ, hlow _ j hjn]; exact b3))
            · by_cases hdj : done.getD j false = true
              · exact .inl ((getD_set_self (by omega)).2 (.inl hdj))
              · refine .inr (.inl ⟨b1, ?_⟩)
                rw [happ, hlow _ j hjn]
                cases hg : o.op.adds with
                | true => exact looks_ext (hgrow hg) b1 b2
                | false =>
                  cases hlk : oj.op.looks with
                  | false => exact pure_heap b1 hlk b2
                  | true =>
                    rcases S.mutn n j o oj hjn ho hoj hlk (hstop o ho).2 hg with hp | ⟨hsf, hel⟩
                    · exact absurd (ancr n j hr hp) hdj
                    · rcases a4 hel hw with ⟨c1, c2⟩ | c3
                      · exact looks_ext (hsoft (hstop o ho).2 hsf) c1 c2
                      · obtain ⟨v', d1, rfl, _⟩ := still_op b1 (c3 h1)
                        exact d1
          · refine ⟨tn, htn.vals fun i hi => by rw [happ]; exact hlow _ i hi, fun _ => .inl ((getD_set_self (by omega)).2 (.inr rfl)), fun hw => ?_, fun he _ => absurd he (by rw [notearly _ o ho (Nat.le_refl _)]; simp)⟩
            rw [ho] at hoj
            cases hoj
            rw [(hstop o ho).1] at hw
            cases hw
          · obtain ⟨ti, a1, a2, a3⟩ := g7 j oj (by omega) hj hoj
            exact ⟨ti, a1, fun hw => .inr (a2 hw), a3, fun he _ => absurd he (by rw [notearly j o ho (by omega)]; simp)⟩
        · intro j hj
          rcases (getD_set_self (by omega)).1 hj with b | b
          · have := hdn j b
            omega
          · omega
        · intro i' j hi' hj
          rcases (getD_set_self (by omega)).1 hi' with b | b
          · exact (getD_set_self (by omega)).2 (.inl (hcl i' j b hj))
          · subst b
            simp only [readyM, Bool.and_eq_true, List.all_eq_true] at hr
            exact (getD_set_self (by omega)).2 (.inl (hr.2 j hj))
        · have hs1 : Shape l ((vs ++ [v]) ++ vs1) t (fun j => done.getD j false = true) s := hs.vals fun j hj => by rw [happ]; exact hlow _ j (hdn j hj)
          have := hs1.put S.distinct ho ((hund n hi).1 hnd) hvn'
          exact ⟨this.len, fun x hx => this.old x fun j o' hj hD => hx j o' hj ((getD_set_self (by omega)).2 hD), fun j o' x hj hD => this.new j o' x hj ((getD_set_self (by omega)).1 hD)⟩
      refine .anyStep (fun i v h' => if i < n then vs.getD i .undef = v ∧ h' = h else Q1 v h') ?_ ?_ ?_ ?_
      · have : false ∈ done := List.count_pos_iff.1 (by omega)
        obtain ⟨m, hm, hf⟩ := List.mem_iff_getElem.1 this
        obtain ⟨i, hi, h1, h2⟩ := least (fun i => i < l.length ∧ done.getD i true = false) m ⟨by omega, by simp [List.getD_eq_getElem?_getD, hm, hf]⟩
        refine ⟨i, h1.1, ?_⟩
        simp only [readyM, Bool.and_eq_true, List.all_eq_true, h1.2, Bool.not_false, true_and]
        intro j hj
        have hlt := S.less i j h1.1 hj
        have := h2 j hlt
        by_cases hd : done.getD j false = true
        · exact hd
        · exact absurd ⟨by omega, (hund j (by omega)).2 hd⟩ this
      · intro i o ho hr hw
        have hi := (List.getElem?_eq_some_iff.1 ho).1
        rcases Nat.lt_or_ge i n with hin | hin
        · obtain ⟨ti, hti, e1, e2, _⟩ := hprev i o hin ho
          rw [wsame i o ti ho hr hti] at hw
          rcases e1 hw with b | ⟨b1, b2⟩ | b3
          · exact absurd b ((hund i hi).1 (undone i hr))
          rotate_left
          · have e : (fun v h' => if i < n then vs.getD i .undef = v ∧ h' = h else Q1 v h') = fun v h' => v = vs.getD i .undef ∧ h' = h := by
              funext v h'
              rw [if_pos hin]
              exact propext ⟨fun hh => ⟨hh.1.symm, hh.2⟩, fun hh => ⟨hh.1.symm, hh.2⟩⟩
            rw [e]
            exact runs_congr (fun x hx => (agree i o ti ho hr hti x (by simp [MOper.reads2, hx])).symm) (b3 h)
          · rw [← op_congr fun x hx => agree i o ti ho hr hti x (by simp [MOper.reads2, hx])] at b2
            exact .op b2 (by rw [if_pos hin]; exact ⟨rfl, rfl⟩)
        · have : i = n := by have := within i hi hr; omega
          subst this
          have hrun := hQ1a o ho
          have hmono : Runs M (.op o.op s Q1) h := runs_congr (fun x hx => (agree i o tn ho hr htn x (by simp [MOper.reads2, hx])).symm) hrun
          have e : (fun v h' => if i < i then vs.getD i .undef = v ∧ h' = h else Q1 v h') = Q1 := by
            funext v h'
            rw [if_neg (Nat.lt_irrefl i)]
          rw [e]
          exact hmono
      · intro i o ho hrd hw v h1 hq
        have hi := (List.getElem?_eq_some_iff.1 ho).1
        rcases Nat.lt_or_ge i n with hin | hin
        · rw [if_pos hin] at hq
          rw [hq.2]
          exact early i o v ho hrd hin hq.1
        · rw [if_neg (by omega)] at hq
          have : i = n := by have := within i hi hrd; omega
          subst this
          exact late o v h1 ho hrd hq
      · intro i o ho hr hw
        have hi := (List.getElem?_eq_some_iff.1 ho).1
        rcases Nat.lt_or_ge i n with hin | hin
        · obtain ⟨ti, hti, e1, e2, _⟩ := hprev i o hin ho
          rw [wsame i o ti ho hr hti] at hw
          exact early i o _ ho hr hin (e2 hw)
        · have : i = n := by have := within i hi hr; omega
          subst this
          have := (hstop o ho).1
          rw [← wsame i o tn ho hr htn, hw] at this
          cases this
  have s0 : Shape l [] t (· < 0) t := ⟨rfl, fun _ _ => rfl, fun j _ _ _ h => absurd h (Nat.not_lt_zero j)⟩
  obtain ⟨k, vs1, tk, g1, g2, g3, g4, g5, g6, g7⟩ := advanceQ S.distinct l 0 t [] rfl rfl s0 hr
  simp only [List.nil_append] at g3 g4 g7
  have hnone : ∀ j, ¬ (List.replicate l.length false).getD j false = true := by
    intro j hj
    simp only [List.getD_eq_getElem?_getD, List.getElem?_replicate] at hj
    split at hj <;> simp at hj
  exact key _ _ t h0 k vs1 tk rfl (by simp) g3 (by omega) g4 g5 g6 (fun i o hi ho => by
    obtain ⟨ti, a1, a2, a3⟩ := g7 i o (Nat.zero_le i) hi ho
    exact ⟨ti, a1, fun hw => .inr (a2 hw), a3, fun _ hw => a2 hw⟩) (fun j hj => absurd hj (hnone j)) (fun i j hi => absurd hi (hnone i)) ⟨rfl, fun _ _ => rfl, fun j _ _ _ h => absurd h (hnone j)⟩

def MOp.srcT : MOp → Option Nat
  | .append _ _ (.tmp d) _ => some d
  | .appendStr (.tmp d) _ => some d
  | _ => none
def MOp.built : MOp → Bool
  | .buildSlice .. => true
  | _ => false
def softW (q sf : MOp → Bool) : List MOper → List Nat → Bool → Bool
  | [], _, _ => true
  | o :: l, fr, ok =>
    let fr' := fr.filter fun d => !(o.dst == some d)
    cond (calm q o.op) (softW q sf l fr' ok) (cond (sf o.op) (ok && (match o.op.srcT with
      | some d => fr.contains d
      | none => false) && softW q sf l fr' true) (cond o.op.adds (softW q sf l (cond o.op.built (match o.dst with
      | some d => d :: fr'
      | none => fr') fr') ok) (softW q sf l fr' false)))

theorem put_slice {t : Tmps} {d : Option Nat} {v : AV} {d' b o n : Nat} (h : (put t d v).getD d' .undef = .slice b o n) : (d = some d' ∧ v = .slice b o n) ∨ (d ≠ some d' ∧ t.getD d' .undef = .slice b o n) := by
  cases d with
  | none => exact .inr ⟨by simp, h⟩
  | some d =>
    simp only [put, List.getD_eq_getElem?_getD, List.getElem?_set] at h ⊢
    by_cases hd : d = d'
    · subst hd
      simp only [if_true] at h
      split at h
      · exact .inl ⟨rfl, by simpa using h⟩
      · simp at h
    · rw [if_neg hd] at h
      exact .inr ⟨by simpa using hd, h⟩

def FrInv (h0 : Heap) (fr : List Nat) (ok : Bool) (t : Tmps) (h : Heap) : Prop := ok = true → Ext h0 h ∧ ∀ d ∈ fr, ∀ b o n, t.getD d .undef = .slice b o n → h0.length ≤ b
theorem FrInv.put {h0 : Heap} {fr : List Nat} {ok : Bool} {t : Tmps} {h h1 : Heap} {d : Option Nat} {v : AV} (k : FrInv h0 fr ok t h) (hx : ok = true → Ext h0 h → Ext h0 h1) : FrInv h0 (fr.filter fun x => !(d == some x)) ok (Abs.put t d v) h1 := fun he => by
  obtain ⟨k1, k2⟩ := k he
  refine ⟨hx he k1, fun x hx b o n hv => ?_⟩
  rw [List.mem_filter] at hx
  rcases put_slice hv with ⟨rfl, _⟩ | ⟨_, h2⟩
  · simp at hx
  · exact k2 x hx.1 b o n h2

theorem soft_ext {t : Tmps} {h0 h h1 : Heap} {o : MOp} {d : Nat} {v : AV} (hs : o.srcT = some d) (hx : Ext h0 h) (hd : ∀ b o n, t.getD d .undef = .slice b o n → h0.length ≤ b) (he : evalOp t h o = some (v, h1)) : Ext h0 h1 := by
  have tk : ∀ {es : Nat} {old : List AV} {h2 : Heap}, takeRow h es (t.getD d .undef) = some (old, h2) → Ext h0 h2 := by
    intro es old h2 ht
    unfold takeRow at ht
    split at ht
    · simp only [Option.some.injEq, Prod.mk.injEq] at ht
      rw [← ht.2]; exact hx
    · rename_i b o' n hb
      have hb' := hd _ _ _ hb
      split at ht
      · split at ht
        · simp only [Option.some.injEq, Prod.mk.injEq] at ht
          rw [← ht.2]
          obtain ⟨r, rfl⟩ := hx
          rw [List.set_append_right _ _ hb']
          exact ⟨_, rfl⟩
        · cases ht
      · cases ht
    · cases ht
  have ap : ∀ {es by' n : Nat} {new : List AV}, appendAV h es by' (t.getD d .undef) n new = some (v, h1) → Ext h0 h1 := by
    intro es by' n new ha
    unfold appendAV at ha
    split at ha
    · rename_i l old h2 _ ht
      split at ha
      · split at ha
        · simp only [Option.some.injEq, Prod.mk.injEq] at ha
          rw [← ha.2]; exact hx
        · simp only [Option.some.injEq, Prod.mk.injEq] at ha
          rw [← ha.2]; exact hx
        · cases ha
      · split at ha
        · simp only [Option.some.injEq, Prod.mk.injEq] at ha
          rw [← ha.2]
          exact (tk ht).trans ⟨_, rfl⟩
        · cases ha
    · cases ha
  unfold MOp.srcT at hs
  split at hs
  · cases hs
    simp only [evalOp] at he
    split at he
    · exact ap he
    · cases he
  · cases hs
    simp only [evalOp] at he
    split at he
    · exact ap he
    · cases he
  · cases hs

theorem srunq_of_runs {q sf : MOp → Bool} {M : Model} {h0 : Heap} (hM : QuietOps M q) : ∀ {l : List MOper} {fr : List Nat} {ok : Bool} {t : Tmps} {Q : Tmps → Heap → Prop} {h : Heap}, softW q sf l fr ok = true → FrInv h0 fr ok t h → Runs M (.ops l t Q) h → SRunQ q sf M h0 l t h Q
  | [], fr, ok, t, Q, h, hw, hi, hr => by
    cases hr with
    | nil hQ => exact .nil hQ
  | o :: l, fr, ok, t, Q, h, hsw, hi, hr => by
    simp only [softW] at hsw
    cases hc : calm q o.op with
    | true =>
      rw [hc] at hsw
      simp only [cond_true] at hsw
      cases hr with
      | off hw h1 => exact .off hw (srunq_of_runs hM hsw (hi.put fun _ => id) h1)
      | cons Q1 hw h1 h2 =>
        cases hq : q o.op with
        | true =>
          obtain ⟨v, a1, a2⟩ := hM _ hq _ _ _ h1
          exact .quiet v hw hq a2 (srunq_of_runs hM hsw (hi.put fun _ => id) (h2 v h a1))
        | false =>
          have hst : o.op.still = true := by simpa [calm, hq] using hc
          obtain ⟨v, he, hQ⟩ := still_op hst h1
          exact .cons (fun v' h' => v' = v ∧ h' = h) hw hq (.op he ⟨rfl, rfl⟩) (fun _ _ hh _ => by rw [hh.2]; exact Ext.refl _) (fun _ _ _ hcf => by rw [hc] at hcf; cases hcf) fun v' h' hh => by
            rw [hh.1, hh.2]
            exact srunq_of_runs hM hsw (hi.put fun _ => id) (h2 v h hQ)
    | false =>
      have hq : q o.op = false := by
        cases hh : q o.op with
        | false => rfl
        | true => simp [calm, hh] at hc
      rw [hc] at hsw
      simp only [cond_false] at hsw
      cases hsf : sf o.op with
      | true =>
        rw [hsf] at hsw
        simp only [cond_true, Bool.and_eq_true] at hsw
        obtain ⟨⟨rfl, hs2⟩, hs3⟩ := hsw
        cases hr with
        | off hw h1 => exact .off hw (srunq_of_runs hM hs3 (hi.put fun _ => id) h1)
        | cons Q1 hw h1 h2 =>
          cases hsrc : o.op.srcT with
          | none => rw [hsrc] at hs2; cases hs2
          | some d =>
            rw [hsrc] at hs2
            have hd : d ∈ fr := by simpa using hs2
            obtain ⟨k1, k2⟩ := hi rfl
            have hna : o.op.adds = true → False := fun ha => by
              cases hop : o.op <;> rw [hop] at ha hsrc <;> simp [MOp.adds, MOp.srcT] at ha hsrc
            refine .cons (fun v h' => Q1 v h' ∧ Ext h0 h') hw hq ?_ (fun _ _ _ ha => (hna ha).elim) (fun _ _ hh _ _ => hh.2) fun v h' hh => srunq_of_runs hM hs3 (hi.put fun _ _ => hh.2) (h2 v h' hh.1)
            generalize hop : o.op = op at hsrc h1
            cases h1 with
            | op he hQ => exact .op he ⟨hQ, soft_ext hsrc k1 (k2 d hd) he⟩
            | callOp hf hc => simp [MOp.srcT] at hsrc
      | false =>
        rw [hsf] at hsw
        simp only [cond_false] at hsw
        cases ha : o.op.adds with
        | false =>
          rw [ha] at hsw
          simp only [cond_false] at hsw
          have none : ∀ (t' : Tmps) (h' : Heap), FrInv h0 (fr.filter fun x => !(o.dst == some x)) false t' h' := fun _ _ he => by cases he
          cases hr with
          | off hw h1 => exact .off hw (srunq_of_runs hM hsw (none _ _) h1)
          | cons Q1 hw h1 h2 => exact .cons Q1 hw hq h1 (fun _ _ _ hc => by rw [ha] at hc; cases hc) (fun _ _ _ _ hc => by rw [hsf] at hc; cases hc) fun v h' hq => srunq_of_runs hM hsw (none _ _) (h2 v h' hq)
        | true =>
          rw [ha] at hsw
          simp only [cond_true] at hsw
          have more : ∀ (v : AV) (h' : Heap), Ext h h' → (o.op.built = true → ∀ b o' n, v = .slice b o' n → h.length ≤ b) → FrInv h0 (cond o.op.built (match o.dst with
              | some d => d :: fr.filter fun d => !(o.dst == some d)
              | none => fr.filter fun d => !(o.dst == some d)) (fr.filter fun d => !(o.dst == some d))) ok (Abs.put t o.dst v) h' := by
            intro v h' hx hb
            have base : FrInv h0 (fr.filter fun d => !(o.dst == some d)) ok (Abs.put t o.dst v) h' := hi.put fun _ k => k.trans hx
            cases hbl : o.op.built with
            | false => exact base
            | true =>
              simp only [cond_true]
              cases hdst : o.dst with
              | none => rw [hdst] at base; exact base
              | some d =>
                intro he
                obtain ⟨k1, k2⟩ := base he
                refine ⟨k1, fun x hx' b o' n hv => ?_⟩
                rcases List.mem_cons.1 hx' with rfl | hm
                · rcases put_slice hv with ⟨_, h2⟩ | ⟨h2, _⟩
                  · have h3 := hb hbl _ _ _ h2
                    obtain ⟨r, hr⟩ := (hi he).1
                    have h4 : h.length = h0.length + r.length := by rw [hr, List.length_append]
                    omega
                  · exact absurd rfl h2
                · refine k2 x (by rw [hdst]; exact hm) b o' n (by rw [hdst]; exact hv)
          cases hr with
          | off hw h1 => exact .off hw (srunq_of_runs hM hsw (more _ _ (Ext.refl _) fun _ _ _ _ hv => by cases hv) h1)
          | cons Q1 hw h1 h2 =>
            refine .cons (fun v h' => Q1 v h' ∧ Ext h h' ∧ (o.op.built = true → ∀ b o' n, v = .slice b o' n → h.length ≤ b)) hw hq ?_ (fun _ _ hh _ => hh.2.1) (fun _ _ _ _ hc => by rw [hsf] at hc; cases hc) fun v h' hh => srunq_of_runs hM hsw (more v h' hh.2.1 hh.2.2) (h2 v h' hh.1)
            generalize o.op = op at ha h1
            cases h1 with
            | op he hQ =>
              refine .op he ⟨hQ, adds_ext ha he, fun hbl b o' n hv => ?_⟩
              cases op <;> simp only [MOp.built, Bool.false_eq_true] at hbl
              simp only [evalOp, Option.map_eq_some_iff, Prod.mk.injEq] at he
              obtain ⟨_, _, rfl, _⟩ := he
              cases hv
              exact Nat.le_refl _
            | callOp hf hc => simp [MOp.adds] at ha

def relaxS (q sf : MOp → Bool) (st : List Nat × List Nat) : MCode → MCode
  | .draw l pre => cond (drawEffQ q sf l pre && softW q sf l [] true) (.region l) (cond (permOK l pre st.1 st.2 && (drawEffQ q sf (permL l st.1) (permE pre st.1 st.2) && softW q sf (permL l st.1) [] true)) (.region (permL l st.1)) (.draw l pre))
  | .seq a b => .seq (relaxS q sf st a) (relaxS q sf st b)
  | .cond c a b => .cond c (relaxS q sf st a) (relaxS q sf st b)
  | .block id c => .block id (relaxS q sf st c)
  | .loop c => .loop (relaxS q sf st c)
  | c => c
def relaxSF (q sf : MOp → Bool) (st : List Nat × List Nat) (F : MFunc) : MFunc := ⟨F.ntmps, relaxS q sf st F.body, F.results⟩
def noS : MOp → Bool := fun _ => false
theorem relaxS_runs {q sf : MOp → Bool} {st : List Nat × List Nat} {M : Model} (hM : QuietOps M q) : ∀ (c : MCode) (t : Tmps) (Q : MX → Tmps → Heap → Prop) (h : Heap), Runs M (.code (relaxS q sf st c) t Q) h → Runs M (.code c t Q) h
  | .skip, t, Q, h, hr => hr
  | .region l, t, Q, h, hr => hr
  | .exit _, t, Q, h, hr => hr
  | .ret, t, Q, h, hr => hr
  | .draw l pre, t, Q, h, hr => by
    simp only [relaxS] at hr
    cases hd : drawEffQ q sf l pre && softW q sf l [] true with
    | false =>
      rw [hd] at hr
      simp only [cond_false] at hr
      cases hp : permOK l pre st.1 st.2 && (drawEffQ q sf (permL l st.1) (permE pre st.1 st.2) && softW q sf (permL l st.1) [] true) with
      | false => rw [hp] at hr; exact hr
      | true =>
        rw [hp] at hr
        rw [Bool.and_eq_true, Bool.and_eq_true] at hp
        cases hr with
        | region h1 => exact .draw (perm_all hp.1 (eff_runsQ hp.2.1 (srunq_of_runs hM hp.2.2 (fun _ => ⟨Ext.refl _, fun d hd => by cases hd⟩) h1)))
    | true =>
      rw [hd] at hr
      rw [Bool.and_eq_true] at hd
      cases hr with
      | region h1 => exact .draw (eff_runsQ hd.1 (srunq_of_runs hM hd.2 (fun _ => ⟨Ext.refl _, fun d hd => by cases hd⟩) h1))
  | .seq a b, t, Q, h, hr => by
    simp only [relaxS] at hr
    cases hr with
    | seq Q1 h1 h2 h3 => exact .seq Q1 (relaxS_runs hM a _ _ _ h1) (fun t1 h1 hq => relaxS_runs hM b _ _ _ (h2 t1 h1 hq)) h3
  | .cond c a b, t, Q, h, hr => by
    simp only [relaxS] at hr
    cases hr with
    | condT hc h1 => exact .condT hc (relaxS_runs hM a _ _ _ h1)
    | condF hc h1 => exact .condF hc (relaxS_runs hM b _ _ _ h1)
  | .block id c, t, Q, h, hr => by
    simp only [relaxS] at hr
    cases hr with
    | block h1 => exact .block (relaxS_runs hM c _ _ _ h1)
  | .loop c, t, Q, h, hr => loop_runs (fun t Q h hh => relaxS_runs hM c t Q h hh) (by simpa only [relaxS] using hr)

theorem callP_of_wpS {q sf : MOp → Bool} {st : List Nat × List Nat} {M : Model} (hM : QuietOps M q) {f : Nat} {F : MFunc} {hi : Hint} {args : List SV} {p : Heap} {R : List Seg} {P : AV → Heap → Prop} (hF : M.fn f = some F) (hargs : oks (R.length + 1) args) (hR : ∀ s ∈ R, s.ok (R.length + 1))
    (hw : wpF M (relaxSF q sf st F) hi args (.sym p :: R) P) : CallP M f (concs (addr (.sym p :: R)) args) p (flat (addr (.sym p :: R)) R) P := by
  intro Q hQ
  have hlen : (concs (addr (.sym p :: R)) args).length = args.length := concs_length _ _
  refine .call hF ?_
  rw [hlen]
  have hv : Val (args ++ List.replicate (F.ntmps - args.length) .bad) (.sym p :: R) (concs (addr (.sym p :: R)) args ++ List.replicate (F.ntmps - args.length) .undef) (p ++ flat (addr (.sym p :: R)) R) := by
    refine ⟨⟨by rw [flat_cons]; rfl, ?_⟩, by simp [hlen], ?_⟩
    · intro s hs
      rcases List.mem_cons.1 hs with rfl | hs
      · simp only [Seg.ok]
      · exact hR s hs
    · intro i v hi
      rcases Nat.lt_or_ge i args.length with hlt | hge
      · rw [List.getElem?_append_left hlt] at hi
        rw [oks_iff] at hargs
        refine .inr ⟨hargs v (List.mem_of_getElem? hi), ?_⟩
        rw [List.getD_eq_getElem?_getD, List.getElem?_append_left (by rw [hlen]; exact hlt), concs_map, List.getElem?_map, hi]
        rfl
      · rw [List.getElem?_append_right hge, List.getElem?_replicate] at hi
        split at hi
        · cases hi; exact .inl rfl
        · cases hi
  refine relaxS_runs (sf := sf) (st := st) hM _ _ _ _ ?_
  refine wpC_sound (relaxS q sf st F.body) hv (by simp) hw fun x t1 H1 r1 t1' h1 a1 a5 a2 a3 a4 => ?_
  have fin : (x = .normal ∨ x = .ret) → (match resS t1 H1 F.results with
      | some v => P (conc (addr H1) v) (flat (addr H1) (H1.drop 1))
      | none => False) → (x = .normal ∨ x = .ret) ∧ ∃ v, Abs.results h1 t1' F.results = some v ∧ Q v h1 := by
    intro hx a4
    refine ⟨hx, ?_⟩
    split at a4
    · rename_i v hv'
      refine ⟨_, resS_spec a1 hv', ?_⟩
      have e : h1 = p ++ flat (addr H1) (H1.drop 1) := by
        have e1 : h1.take p.length = p := by
          refine List.ext_getElem? fun k => ?_
          rcases Nat.lt_or_ge k p.length with hkl | hkl
          · rw [List.getElem?_take_of_lt hkl]
            have := a2.2.2 0 (by omega) (by simp) k (by simp [addr]) (by simpa [addr, Seg.len, addr_zero] using hkl)
            rw [this, List.getElem?_append_left hkl]
          · rw [List.getElem?_eq_none (by simp; omega), List.getElem?_eq_none hkl]
        have e2 : h1.drop p.length = flat (addr H1) (H1.drop 1) := by
          have := drop_flat (addr H1) (H := H1) (z := 1) a2.1
          rw [a2.2.1 1 (Nat.le_refl _), ← a1.heap.1] at this
          simp only [addr, Seg.len, addr_zero, Nat.add_zero] at this
          exact this
        rw [← e2]
        conv => lhs; rw [← List.take_append_drop p.length h1, e1]
      rw [e]
      exact hQ _ _ a4
    · exact a4.elim
  cases x with
  | normal => exact fin (.inl rfl) a4
  | ret => exact fin (.inr rfl) a4
  | exit => exact a4.elim

theorem callE_of_wpS {q sf : MOp → Bool} {st : List Nat × List Nat} {M : Model} (hM : QuietOps M q) {f : Nat} {F : MFunc} {hi : Hint} {args : List SV} {h : Heap} {P : AV → Heap → Prop} (hF : M.fn f = some F) (hargs : oks 1 args)
    (hw : wpF M (relaxSF q sf st F) hi args [.sym h] P) : CallE M f (concs (addr [.sym h]) args) h P := by
  intro Q hQ
  have := callP_of_wpS hM (R := []) hF (by simpa using hargs) (by simp) hw Q hQ
  simp only [flat, List.append_nil] at this
  exact this

def isQ (l : List Nat) : MOp → Bool
  | .call (.const (.fn g [])) _ => l.contains g
  | _ => false
end Go.Abs

set_option linter.unusedVariables false
set_option linter.unusedSimpArgs false
namespace Go.Abs

end Go.Abs

set_option linter.unusedVariables false
set_option linter.unusedSimpArgs false
namespace Go.Abs

section
variable {f0 : Nat} {F0 : MFunc} (h0 : Nat.beq 9999 f0 = false)
include h0
end

end Go.Abs

