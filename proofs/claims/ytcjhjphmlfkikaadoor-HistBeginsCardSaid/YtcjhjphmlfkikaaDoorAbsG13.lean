import Derived.Test.YtcjhjphmlfkikaaDoorAbsG7
import Derived.Test.YtcjhjphmlfkikaaDoorAbsG11
import Derived.Sort.Grow
import Derived.Lib.SlicesCompact
set_option linter.unusedVariables false
set_option linter.unusedSimpArgs false
namespace Go.Abs

def QuietK (K : Heap → Prop) (M : Model) (t : Tmps) (o : MOp) (v : AV) : Prop := ∀ h, K h → Runs M (.op o t fun v' h' => v' = v ∧ h' = h) h
def SureK (q : MOp → Bool) (K : Heap → Prop) (M : Model) (t : Tmps) (h : Heap) (o : MOp) (v : AV) : Prop := (q o = false ∧ o.still = true ∧ evalOp t h o = some (v, h)) ∨ QuietK K M t o v

inductive SRunK (q sf : MOp → Bool) (K : Heap → Prop) (M : Model) (h0 : Heap) : List MOper → Tmps → Heap → (Tmps → Heap → Prop) → Prop
  | nil {t h Q} : Q t h → SRunK q sf K M h0 [] t h Q
  | cons {o l t h Q} (Q1 : AV → Heap → Prop) : wantedM t o.guard = true → q o.op = false → Runs M (.op o.op t Q1) h → (∀ v h1, Q1 v h1 → o.op.adds = true → Ext h h1) → (∀ v h1, Q1 v h1 → calm q o.op = false → sf o.op = true → Ext h0 h1) → (∀ v h1, Q1 v h1 → K h1) → (∀ v h1, Q1 v h1 → SRunK q sf K M h0 l (put t o.dst v) h1 Q) → SRunK q sf K M h0 (o :: l) t h Q
  | quiet {o l t h Q} (v : AV) : wantedM t o.guard = true → q o.op = true → QuietK K M t o.op v → SRunK q sf K M h0 l (put t o.dst v) h Q → SRunK q sf K M h0 (o :: l) t h Q
  | off {o l t h Q} : wantedM t o.guard = false → SRunK q sf K M h0 l (put t o.dst .undef) h Q → SRunK q sf K M h0 (o :: l) t h Q

def drawEffK (q sf : MOp → Bool) (l : List MOper) (pre : List (List Nat)) : Bool :=
  let ms := masks [] pre
  pre.length == l.length && (List.range l.length).all fun i => (pre.getD i []).all (fun j => Nat.blt j i) && (List.range l.length).all fun j =>
    match l[i]?, l[j]? with
    | some x, some y => (Nat.beq i j || x.dst.isNone || x.dst != y.dst) && (match y.dst with
      | some d => !x.reads2.contains d || ((pre.getD i []).contains j) || Nat.beq i j || (Nat.blt i j && (ms.getD j 0).testBit i)
      | none => true) && (!(Nat.blt j i) || calm q y.op || (ms.getD i 0).testBit j) && (!(Nat.blt j i) || !y.op.looks || q y.op || calm q x.op || x.op.adds || (ms.getD i 0).testBit j || (sf x.op && earlyB q l j))
    | _, _ => false

structure EffSpecK (q sf : MOp → Bool) (l : List MOper) (pre : List (List Nat)) : Prop where
  less : ∀ i j, i < l.length → j ∈ pre.getD i [] → j < i
  distinct : Distinct l
  reads : ∀ (i j : Nat) (x y : MOper) (d : Nat), l[i]? = some x → l[j]? = some y → y.dst = some d → d ∈ x.reads2 → j ∈ pre.getD i [] ∨ i = j ∨ (i < j ∧ Anc pre j i)
  eff : ∀ (i j : Nat) (y : MOper), i < l.length → j < i → l[j]? = some y → calm q y.op = false → Anc pre i j
  mutn : ∀ (i j : Nat) (x y : MOper), j < i → l[i]? = some x → l[j]? = some y → y.op.looks = true → q y.op = false → calm q x.op = false → x.op.adds = false → Anc pre i j ∨ (sf x.op = true ∧ earlyB q l j = true)

theorem drawEffK_spec {q sf : MOp → Bool} {l : List MOper} {pre : List (List Nat)} (h : drawEffK q sf l pre = true) : EffSpecK q sf l pre := by
  have hms : ∀ i j, ((masks [] pre).getD i 0).testBit j = true → Anc pre i j := masks_spec (by simp) (by simp)
  unfold drawEffK at h
  simp only [Bool.and_eq_true] at h
  obtain ⟨h2, h3⟩ := h
  rw [List.all_eq_true] at h3
  have key : ∀ (i j : Nat) (x y : MOper), l[i]? = some x → l[j]? = some y → (((Nat.beq i j || x.dst.isNone || x.dst != y.dst) = true ∧ (match y.dst with
      | some d => !x.reads2.contains d || ((pre.getD i []).contains j) || Nat.beq i j || (Nat.blt i j && ((masks [] pre).getD j 0).testBit i)
      | none => true) = true) ∧ (!(Nat.blt j i) || calm q y.op || ((masks [] pre).getD i 0).testBit j) = true) ∧ (!(Nat.blt j i) || !y.op.looks || q y.op || calm q x.op || x.op.adds || ((masks [] pre).getD i 0).testBit j || (sf x.op && earlyB q l j)) = true := by
    intro i j x y hx hy
    have := h3 i (List.mem_range.2 (List.getElem?_eq_some_iff.1 hx).1)
    simp only [Bool.and_eq_true] at this
    have := List.all_eq_true.1 this.2 j (List.mem_range.2 (List.getElem?_eq_some_iff.1 hy).1)
    rw [hx, hy] at this
    simpa only [Bool.and_eq_true] using this
  have blt : ∀ {a b : Nat}, a < b → Nat.blt a b = true := fun {a b} h => by simp only [Nat.blt, Nat.ble_eq]; omega
  refine ⟨fun i j hi hj => ?_, fun i j x y d hx hy hdx hdy => ?_, fun i j x y d hx hy hdy hr => ?_, fun i j y hi hji hy hs => hms i j ?_, fun i j x y hji hx hy hl hq0 hs hg => ?_⟩
  · have := h3 i (List.mem_range.2 hi)
    simp only [Bool.and_eq_true] at this
    have := List.all_eq_true.1 this.1 j hj
    simp only [Nat.blt, Nat.ble_eq] at this
    omega
  · have := (key i j x y hx hy).1.1.1
    rw [hdx, hdy] at this
    simpa using this
  · have := (key i j x y hx hy).1.1.2
    rw [hdy] at this
    simp only [Bool.or_eq_true, Bool.not_eq_true', Bool.and_eq_true, List.contains_iff_mem] at this
    rcases this with ((h' | h') | h') | h'
    · have : x.reads2.contains d = true := by simpa using hr
      rw [this] at h'
      cases h'
    · exact .inl h'
    · exact .inr (.inl (Nat.eq_of_beq_eq_true h'))
    · refine .inr (.inr ⟨?_, hms j i h'.2⟩)
      have := h'.1
      simp only [Nat.blt, Nat.ble_eq] at this
      omega
  · have := (key i j l[i] y (List.getElem?_eq_getElem hi) hy).1.2
    rw [blt hji, hs] at this
    simpa using this
  · have := (key i j x y hx hy).2
    rw [blt hji, hl, hq0, hs, hg] at this
    simp only [Bool.not_true, Bool.false_or, Bool.or_eq_true, Bool.and_eq_true] at this
    exact this.imp (hms i j) id

theorem advanceK {q sf : MOp → Bool} {K : Heap → Prop} {h0 : Heap} {M : Model} {Q : Tmps → Heap → Prop} {h : Heap} {l : List MOper} (hd : Distinct l) {t : Tmps} : ∀ (suf : List MOper) (n : Nat) (s : Tmps) (vs0 : List AV), l.drop n = suf → vs0.length = n → Shape l vs0 t (· < n) s → SRunK q sf K M h0 suf s h Q →
    ∃ k vs1 tk, n ≤ k ∧ k ≤ max n l.length ∧ (vs0 ++ vs1).length = k ∧ Shape l (vs0 ++ vs1) t (· < k) tk ∧ SRunK q sf K M h0 (l.drop k) tk h Q ∧ (∀ o, l[k]? = some o → wantedM tk o.guard = true ∧ calm q o.op = false) ∧
      ∀ i o, n ≤ i → i < k → l[i]? = some o → ∃ ti, Shape l (vs0 ++ vs1) t (· < i) ti ∧ (wantedM ti o.guard = true → SureK q K M ti h o.op ((vs0 ++ vs1).getD i .undef)) ∧ (wantedM ti o.guard = false → (vs0 ++ vs1).getD i .undef = .undef)
  | [], n, s, vs0, hdrop, hlen, hs, hr => by
    have hn : l.length ≤ n := List.drop_eq_nil_iff.1 hdrop
    refine ⟨n, [], s, Nat.le_refl _, by omega, by simpa using hlen, by simpa using hs, by rw [hdrop]; exact hr, fun o ho => ?_, fun i o hi hk => by omega⟩
    have := (List.getElem?_eq_some_iff.1 ho).1
    omega
  | o :: suf, n, s, vs0, hdrop, hlen, hs, hr => by
    have hn : n < l.length := by
      rcases Nat.lt_or_ge n l.length with h' | h'
      · exact h'
      · rw [List.drop_eq_nil_of_le h'] at hdrop; cases hdrop
    have e := List.drop_eq_getElem_cons hn
    rw [hdrop] at e
    injection e with e1 e2
    have hon : l[n]? = some o := by rw [List.getElem?_eq_getElem hn, e1]
    by_cases hstop : wantedM s o.guard = true ∧ calm q o.op = false
    · refine ⟨n, [], s, Nat.le_refl _, by omega, by simpa using hlen, by simpa using hs, by rw [hdrop]; exact hr, fun o' ho' => ?_, fun i o hi hk => by omega⟩
      rw [hon] at ho'
      cases ho'
      exact hstop
    · obtain ⟨v, hw1, hw2, hr2⟩ : ∃ v, (wantedM s o.guard = true → SureK q K M s h o.op v) ∧ (wantedM s o.guard = false → v = .undef) ∧ SRunK q sf K M h0 suf (Abs.put s o.dst v) h Q := by
        cases hr with
        | cons Q1 hw hq h1 h3 h4 h5 h2 =>
          have hst : o.op.still = true := by
            cases hh : o.op.still with
            | true => rfl
            | false => exact absurd ⟨hw, by simp [calm, hh, hq]⟩ hstop
          obtain ⟨v, he, hQ⟩ := still_op hst h1
          refine ⟨v, fun _ => .inl ⟨hq, hst, he⟩, fun hf => ?_, h2 v h hQ⟩
          rw [hw] at hf
          cases hf
        | quiet v hw hq h1 h2 =>
          refine ⟨v, fun _ => .inr h1, fun hf => ?_, h2⟩
          rw [hw] at hf
          cases hf
        | off hw h1 =>
          refine ⟨.undef, fun ht => ?_, fun _ => rfl, h1⟩
          rw [hw] at ht
          cases ht
      have hvn : (vs0 ++ [v]).getD n .undef = v := by
        simp [List.getD_eq_getElem?_getD, ← hlen]
      have hsx : Shape l (vs0 ++ [v]) t (· < n) s := ⟨hs.len, hs.old, fun j o x hj hD hd' hx => by
        rw [hs.new j o x hj hD hd' hx]
        simp only [List.getD_eq_getElem?_getD]
        rw [List.getElem?_append_left (by omega)]⟩
      have hs' : Shape l (vs0 ++ [v]) t (· < n + 1) (Abs.put s o.dst v) := by
        have := hsx.put hd hon (by omega) hvn
        refine ⟨this.len, fun x hx => this.old x fun j o' hj hD => hx j o' hj (by omega), fun j o' x hj hD => this.new j o' x hj (by omega)⟩
      obtain ⟨k, vs1, tk, g1, g2, g3, g4, g5, g6, g7⟩ := advanceK hd suf (n + 1) (Abs.put s o.dst v) (vs0 ++ [v]) e2.symm (by simp [hlen]) hs' hr2
      have happ : vs0 ++ v :: vs1 = (vs0 ++ [v]) ++ vs1 := by simp
      refine ⟨k, v :: vs1, tk, by omega, by omega, by rw [happ]; exact g3, by rw [happ]; exact g4, g5, g6, fun i o' hi hk ho' => ?_⟩
      rw [happ]
      by_cases hin : i = n
      · subst hin
        rw [hon] at ho'
        cases ho'
        have hvn' : ((vs0 ++ [v]) ++ vs1).getD i .undef = v := by
          rw [List.getD_eq_getElem?_getD, List.getElem?_append_left (by simp; omega), ← List.getD_eq_getElem?_getD]
          exact hvn
        refine ⟨s, ⟨hs.len, hs.old, fun j o x hj hD hd' hx => ?_⟩, fun hw => by rw [hvn']; exact hw1 hw, fun hw => by rw [hvn']; exact hw2 hw⟩
        rw [hs.new j o x hj hD hd' hx]
        simp only [List.getD_eq_getElem?_getD, List.append_assoc]
        rw [List.getElem?_append_left (by omega)]
      · exact g7 i o' (by omega) hk ho'

theorem eff_runsK {q sf : MOp → Bool} {K : Heap → Prop} {M : Model} {l : List MOper} {pre : List (List Nat)} {t : Tmps} {Q : Tmps → Heap → Prop} {h0 : Heap} (hK0 : K h0) (hok : drawEffK q sf l pre = true) (hr : SRunK q sf K M h0 l t h0 Q) : Runs M (.any l pre (List.replicate l.length false) t Q) h0 := by
  have S := drawEffK_spec hok
  have key : ∀ (c : Nat) (done : List Bool) (s : Tmps) (h : Heap) (n : Nat) (vs : List AV) (tn : Tmps), done.count false = c → K h → done.length = l.length → vs.length = n → n ≤ l.length → Shape l vs t (· < n) tn → SRunK q sf K M h0 (l.drop n) tn h Q →
      (∀ o, l[n]? = some o → wantedM tn o.guard = true ∧ calm q o.op = false) →
      (∀ i o, i < n → l[i]? = some o → ∃ ti, Shape l vs t (· < i) ti ∧ (wantedM ti o.guard = true → done.getD i false = true ∨ SureK q K M ti h o.op (vs.getD i .undef)) ∧ (wantedM ti o.guard = false → vs.getD i .undef = .undef) ∧ (earlyB q l i = true → wantedM ti o.guard = true → SureK q K M ti h0 o.op (vs.getD i .undef))) →
      (∀ j, done.getD j false = true → j < n) → (∀ i j, done.getD i false = true → j ∈ pre.getD i [] → done.getD j false = true) → Shape l vs t (fun j => done.getD j false = true) s → Runs M (.any l pre done s Q) h := by
    intro c
    induction c with
    | zero =>
      intro done s h n vs tn hc hKh hl hvl hnl htn hsr hstop hprev hdn hcl hs
      have hall : ∀ j, j < l.length → done.getD j false = true := by
        intro j hj
        have : done[j]'(by omega) ≠ false := by
          intro hf
          have := List.count_pos_iff.2 (hf ▸ List.getElem_mem (l := done) (by omega : j < done.length))
          omega
        simp only [List.getD_eq_getElem?_getD, List.getElem?_eq_getElem (by omega : j < done.length), Option.getD_some]
        simpa using this
      have hn : n = l.length := by
        rcases Nat.lt_or_ge n l.length with h1 | h1
        · have := hdn n (hall n h1)
          omega
        · omega
      refine .anyDone (fun i hi => ?_) ?_
      · have := hall i hi
        have h2 : done.getD i true = true := by
          simp only [List.getD_eq_getElem?_getD, List.getElem?_eq_getElem (by omega : i < done.length), Option.getD_some] at this ⊢
          exact this
        unfold readyM
        rw [h2]
        rfl
      · have : s = tn := Shape.ext (D' := (· < n)) (fun j hj => ⟨fun _ => by omega, fun _ => hall j hj⟩) hs htn
        rw [this]
        rw [hn, List.drop_length] at hsr
        cases hsr with
        | nil hQ => exact hQ
    | succ c ih =>
      intro done s h n vs tn hc hKh hl hvl hnl htn hsr hstop hprev hdn hcl hs
      have hund : ∀ i, i < l.length → (done.getD i true = false ↔ ¬ done.getD i false = true) := by
        intro i hi
        simp only [List.getD_eq_getElem?_getD, List.getElem?_eq_getElem (by omega : i < done.length), Option.getD_some]
        simp
      have undone : ∀ i, readyM pre done i = true → done.getD i true = false := by
        intro i hr
        simp only [readyM, Bool.and_eq_true, Bool.not_eq_true'] at hr
        exact hr.1
      have ancd : ∀ i j, Anc pre i j → done.getD i false = true → done.getD j false = true := by
        intro i j ha
        induction ha with
        | edge h => exact fun hi => hcl _ _ hi h
        | step h _ ih => exact fun hi => ih (hcl _ _ hi h)
      have agree : ∀ i o ti, l[i]? = some o → readyM pre done i = true → Shape l vs t (· < i) ti → ∀ x ∈ o.reads2, s.getD x .undef = ti.getD x .undef := by
        intro i o ti ho hr hti x hx
        have hi := (List.getElem?_eq_some_iff.1 ho).1
        have hnd := (hund i hi).1 (undone i hr)
        simp only [readyM, Bool.and_eq_true, List.all_eq_true] at hr
        by_cases hj : ∃ (j : Nat) (y : MOper), l[j]? = some y ∧ y.dst = some x
        · obtain ⟨j, y, hy, hd⟩ := hj
          have aside : ¬ done.getD j false = true → ¬ j < i → s.getD x .undef = ti.getD x .undef := by
            intro h1 h2
            rw [hs.old x fun j' y' hy' hD hd' => h1 (S.distinct j j' y y' x hy hy' hd hd' ▸ hD), hti.old x fun j' y' hy' hD hd' => h2 (S.distinct j j' y y' x hy hy' hd hd' ▸ hD)]
          rcases S.reads i j o y x ho hy hd hx with hpre | rfl | ⟨hij, hanc⟩
          · by_cases hxl : x < t.length
            · rw [hs.new j y x hy (hr.2 j hpre) hd hxl, hti.new j y x hy (S.less i j hi hpre) hd hxl]
            · simp [List.getD_eq_getElem?_getD, List.getElem?_eq_none (by rw [hs.len]; omega : s.length ≤ x), List.getElem?_eq_none (by rw [hti.len]; omega : ti.length ≤ x)]
          · exact aside hnd (Nat.lt_irrefl _)
          · exact aside (fun hd' => hnd (ancd j i hanc hd')) (by omega)
        · rw [hs.old x fun j y hy _ hd => hj ⟨j, y, hy, hd⟩, hti.old x fun j y hy _ hd => hj ⟨j, y, hy, hd⟩]
      have wsame : ∀ i o ti, l[i]? = some o → readyM pre done i = true → Shape l vs t (· < i) ti → wantedM s o.guard = wantedM ti o.guard := by
        intro i o ti ho hr hti
        cases hg : o.guard with
        | none => rfl
        | some g =>
          obtain ⟨g, want⟩ := g
          have := agree i o ti ho hr hti g (by simp [MOper.reads2, hg])
          simp only [wantedM, this]
      have ancr : ∀ i j, readyM pre done i = true → Anc pre i j → done.getD j false = true := by
        intro i j hr ha
        simp only [readyM, Bool.and_eq_true, List.all_eq_true] at hr
        cases ha with
        | edge h => exact hr.2 _ h
        | step h h2 => exact ancd _ _ h2 (hr.2 _ h)
      have within : ∀ i, i < l.length → readyM pre done i = true → i ≤ n := by
        intro i hi hr
        rcases Nat.lt_or_ge n i with h1 | h1
        · exfalso
          have hn : n < l.length := by omega
          have hx := hstop l[n] (List.getElem?_eq_getElem hn)
          have hp := S.eff i n l[n] hi h1 (List.getElem?_eq_getElem hn) hx.2
          have := hdn n (ancr i n hr hp)
          omega
        · exact h1
      -- the answer of the operation that comes next in the listed order
      obtain ⟨Q1, hQ1a, hQ1b⟩ : ∃ Q1 : AV → Heap → Prop, (∀ o, l[n]? = some o → Runs M (.op o.op tn Q1) h) ∧ ∀ o, l[n]? = some o → ∀ v h1, Q1 v h1 → (o.op.adds = true → Ext h h1) ∧ (calm q o.op = false → sf o.op = true → Ext h0 h1) ∧ K h1 ∧ SRunK q sf K M h0 (l.drop (n + 1)) (Abs.put tn o.dst v) h1 Q := by
        cases hn : l[n]? with
        | none => exact ⟨fun _ _ => False, fun o ho => by simp at ho, fun o ho => by simp at ho⟩
        | some o =>
          have hlt := (List.getElem?_eq_some_iff.1 hn).1
          have e := List.drop_eq_getElem_cons hlt
          have e1 : l[n] = o := by have := List.getElem?_eq_getElem hlt; rw [hn] at this; exact (Option.some.inj this).symm
          rw [e, e1] at hsr
          cases hsr with
          | cons Q1 hw hq h1 h3 h4 h5 h2 => exact ⟨Q1, fun o' ho' => by cases ho'; exact h1, fun o' ho' => by cases ho'; exact fun v h1 hq => ⟨h3 v h1 hq, h4 v h1 hq, h5 v h1 hq, h2 v h1 hq⟩⟩
          | quiet v hw hq h1 h2 =>
            have := (hstop o hn).2
            simp [calm, hq] at this
          | off hw h1 =>
            have := (hstop o hn).1
            rw [hw] at this
            cases this
      have early : ∀ i o v, l[i]? = some o → readyM pre done i = true → i < n → vs.getD i .undef = v → Runs M (.any l pre (done.set i true) (Abs.put s o.dst v) Q) h := by
        intro i o v ho hr hin hvi
        have hi := (List.getElem?_eq_some_iff.1 ho).1
        have hnd := undone i hr
        have hcnt := count_set_lt done i hnd
        refine ih (done.set i true) _ h n vs tn (by omega) hKh (by simp [hl]) hvl hnl htn hsr hstop ?_ ?_ ?_ ?_
        · intro j oj hj hoj
          obtain ⟨ti, a1, a2, a3, a4⟩ := hprev j oj hj hoj
          refine ⟨ti, a1, fun hw => ?_, a3, a4⟩
          rcases a2 hw with b | b
          · exact .inl ((getD_set_self (by omega)).2 (.inl b))
          · exact .inr b
        · intro j hj
          rcases (getD_set_self (by omega)).1 hj with b | b
          · exact hdn j b
          · omega
        · intro i' j hi' hj
          rcases (getD_set_self (by omega)).1 hi' with b | b
          · exact (getD_set_self (by omega)).2 (.inl (hcl i' j b hj))
          · subst b
            simp only [readyM, Bool.and_eq_true, List.all_eq_true] at hr
            exact (getD_set_self (by omega)).2 (.inl (hr.2 j hj))
        · have := hs.put S.distinct ho ((hund i hi).1 hnd) hvi
          exact ⟨this.len, fun x hx => this.old x fun j o' hj hD => hx j o' hj ((getD_set_self (by omega)).2 hD), fun j o' x hj hD => this.new j o' x hj ((getD_set_self (by omega)).1 hD)⟩
      have late : ∀ o v h1, l[n]? = some o → readyM pre done n = true → Q1 v h1 → Runs M (.any l pre (done.set n true) (Abs.put s o.dst v) Q) h1 := by
        intro o v h1 ho hr hq
        have hi := (List.getElem?_eq_some_iff.1 ho).1
        have hnd := undone n hr
        have hcnt := count_set_lt done n hnd
        obtain ⟨hgrow, hsoft, hK1, hsr1⟩ := hQ1b o ho v h1 hq
        have hvn : (vs ++ [v]).getD n .undef = v := by simp [List.getD_eq_getElem?_getD, ← hvl]
        have hlow : ∀ (ws : List AV) j, j < n → (vs ++ ws).getD j .undef = vs.getD j .undef := by
          intro ws j hj
          simp only [List.getD_eq_getElem?_getD]
          rw [List.getElem?_append_left (by omega)]
        have htn1 : Shape l (vs ++ [v]) t (· < n + 1) (Abs.put tn o.dst v) := by
          have := (htn.vals (vs' := vs ++ [v]) fun j hj => hlow [v] j hj).put S.distinct ho (by omega) hvn
          exact ⟨this.len, fun x hx => this.old x fun j o' hj hD => hx j o' hj (by omega), fun j o' x hj hD => this.new j o' x hj (by omega)⟩
        obtain ⟨k, vs1, tk, g1, g2, g3, g4, g5, g6, g7⟩ := advanceK S.distinct _ (n + 1) _ (vs ++ [v]) rfl (by simp [hvl]) htn1 hsr1
        have happ : (vs ++ [v]) ++ vs1 = vs ++ (v :: vs1) := by simp
        have hvn' : ((vs ++ [v]) ++ vs1).getD n .undef = v := by
          rw [List.getD_eq_getElem?_getD, List.getElem?_append_left (by simp; omega), ← List.getD_eq_getElem?_getD]
          exact hvn
        have notearly : ∀ (j : Nat) o, l[n]? = some o → n ≤ j → earlyB q l j = false := by
          intro j o' ho' hnj
          rw [ho] at ho'
          cases ho'
          cases he : earlyB q l j with
          | false => rfl
          | true =>
            have hm : o ∈ l.take (j + 1) := List.mem_iff_getElem?.2 ⟨n, by rw [List.getElem?_take_of_lt (by omega)]; exact ho⟩
            have := List.all_eq_true.1 he o hm
            rw [(hstop o ho).2] at this
            cases this
        refine ih (done.set n true) _ h1 k ((vs ++ [v]) ++ vs1) tk (by omega) hK1 (by simp [hl]) g3 (by omega) g4 g5 g6 ?_ ?_ ?_ ?_
        · intro j oj hj hoj
          rcases Nat.lt_trichotomy j n with hjn | rfl | hjn
          · obtain ⟨ti, a1, a2, a3, a4⟩ := hprev j oj hjn hoj
            refine ⟨ti, a1.vals fun i hi => by rw [happ]; exact hlow _ i (by omega), fun hw => ?_, fun hw => by rw [happ, hlow _ j hjn]; exact a3 hw, fun he hw => by rw [happ, hlow _ j hjn]; exact a4 he hw⟩
            rcases a2 hw with b | ⟨b0, b1, b2⟩ | b3
            · exact .inl ((getD_set_self (by omega)).2 (.inl b))
            rotate_left
            · exact .inr (.inr (by rw [happ, hlow _ j hjn]; exact b3))
            · by_cases hdj : done.getD j false = true
              · exact .inl ((getD_set_self (by omega)).2 (.inl hdj))
              · refine .inr (.inl ⟨b0, b1, ?_⟩)
                rw [happ, hlow _ j hjn]
                cases hg : o.op.adds with
                | true => exact looks_ext (hgrow hg) b1 b2
                | false =>
                  cases hlk : oj.op.looks with
                  | false => exact pure_heap b1 hlk b2
                  | true =>
                    rcases S.mutn n j o oj hjn ho hoj hlk b0 (hstop o ho).2 hg with hp | ⟨hsf, hel⟩
                    · exact absurd (ancr n j hr hp) hdj
                    · rcases a4 hel hw with ⟨c0, c1, c2⟩ | c3
                      · exact looks_ext (hsoft (hstop o ho).2 hsf) c1 c2
                      · obtain ⟨v', d1, rfl, _⟩ := still_op b1 (c3 h1 hK1)
                        exact d1
          · refine ⟨tn, htn.vals fun i hi => by rw [happ]; exact hlow _ i hi, fun _ => .inl ((getD_set_self (by omega)).2 (.inr rfl)), fun hw => ?_, fun he _ => absurd he (by rw [notearly _ o ho (Nat.le_refl _)]; simp)⟩
            rw [ho] at hoj
            cases hoj
            rw [(hstop o ho).1] at hw
            cases hw
          · obtain ⟨ti, a1, a2, a3⟩ := g7 j oj (by omega) hj hoj
            exact ⟨ti, a1, fun hw => .inr (a2 hw), a3, fun he _ => absurd he (by rw [notearly j o ho (by omega)]; simp)⟩
        · intro j hj
          rcases (getD_set_self (by omega)).1 hj with b | b
          · have := hdn j b
            omega
          · omega
        · intro i' j hi' hj
          rcases (getD_set_self (by omega)).1 hi' with b | b
          · exact (getD_set_self (by omega)).2 (.inl (hcl i' j b hj))
          · subst b
            simp only [readyM, Bool.and_eq_true, List.all_eq_true] at hr
            exact (getD_set_self (by omega)).2 (.inl (hr.2 j hj))
        · have hs1 : Shape l ((vs ++ [v]) ++ vs1) t (fun j => done.getD j false = true) s := hs.vals fun j hj => by rw [happ]; exact hlow _ j (hdn j hj)
          have := hs1.put S.distinct ho ((hund n hi).1 hnd) hvn'
          exact ⟨this.len, fun x hx => this.old x fun j o' hj hD => hx j o' hj ((getD_set_self (by omega)).2 hD), fun j o' x hj hD => this.new j o' x hj ((getD_set_self (by omega)).1 hD)⟩
      refine .anyStep (fun i v h' => if i < n then vs.getD i .undef = v ∧ h' = h else Q1 v h') ?_ ?_ ?_ ?_
      · have : false ∈ done := List.count_pos_iff.1 (by omega)
        obtain ⟨m, hm, hf⟩ := List.mem_iff_getElem.1 this
        obtain ⟨i, hi, h1, h2⟩ := least (fun i => i < l.length ∧ done.getD i true = false) m ⟨by omega, by simp [List.getD_eq_getElem?_getD, hm, hf]⟩
        refine ⟨i, h1.1, ?_⟩
        simp only [readyM, Bool.and_eq_true, List.all_eq_true, h1.2, Bool.not_false, true_and]
        intro j hj
        have hlt := S.less i j h1.1 hj
        have := h2 j hlt
        by_cases hd : done.getD j false = true
        · exact hd
        · exact absurd ⟨by omega, (hund j (by omega)).2 hd⟩ this
      · intro i o ho hr hw
        have hi := (List.getElem?_eq_some_iff.1 ho).1
        rcases Nat.lt_or_ge i n with hin | hin
        · obtain ⟨ti, hti, e1, e2, _⟩ := hprev i o hin ho
          rw [wsame i o ti ho hr hti] at hw
          rcases e1 hw with b | ⟨b0, b1, b2⟩ | b3
          · exact absurd b ((hund i hi).1 (undone i hr))
          rotate_left
          · have e : (fun v h' => if i < n then vs.getD i .undef = v ∧ h' = h else Q1 v h') = fun v h' => v = vs.getD i .undef ∧ h' = h := by
              funext v h'
              rw [if_pos hin]
              exact propext ⟨fun hh => ⟨hh.1.symm, hh.2⟩, fun hh => ⟨hh.1.symm, hh.2⟩⟩
            rw [e]
            exact runs_congr (fun x hx => (agree i o ti ho hr hti x (by simp [MOper.reads2, hx])).symm) (b3 h hKh)
          · rw [← op_congr fun x hx => agree i o ti ho hr hti x (by simp [MOper.reads2, hx])] at b2
            exact .op b2 (by rw [if_pos hin]; exact ⟨rfl, rfl⟩)
        · have : i = n := by have := within i hi hr; omega
          subst this
          have hrun := hQ1a o ho
          have hmono : Runs M (.op o.op s Q1) h := runs_congr (fun x hx => (agree i o tn ho hr htn x (by simp [MOper.reads2, hx])).symm) hrun
          have e : (fun v h' => if i < i then vs.getD i .undef = v ∧ h' = h else Q1 v h') = Q1 := by
            funext v h'
            rw [if_neg (Nat.lt_irrefl i)]
          rw [e]
          exact hmono
      · intro i o ho hrd hw v h1 hq
        have hi := (List.getElem?_eq_some_iff.1 ho).1
        rcases Nat.lt_or_ge i n with hin | hin
        · rw [if_pos hin] at hq
          rw [hq.2]
          exact early i o v ho hrd hin hq.1
        · rw [if_neg (by omega)] at hq
          have : i = n := by have := within i hi hrd; omega
          subst this
          exact late o v h1 ho hrd hq
      · intro i o ho hr hw
        have hi := (List.getElem?_eq_some_iff.1 ho).1
        rcases Nat.lt_or_ge i n with hin | hin
        · obtain ⟨ti, hti, e1, e2, _⟩ := hprev i o hin ho
          rw [wsame i o ti ho hr hti] at hw
          exact early i o _ ho hr hin (e2 hw)
        · have : i = n := by have := within i hi hr; omega
          subst this
          have := (hstop o ho).1
          rw [← wsame i o tn ho hr htn, hw] at this
          cases this
  have s0 : Shape l [] t (· < 0) t := ⟨rfl, fun _ _ => rfl, fun j _ _ _ h => absurd h (Nat.not_lt_zero j)⟩
  obtain ⟨k, vs1, tk, g1, g2, g3, g4, g5, g6, g7⟩ := advanceK S.distinct l 0 t [] rfl rfl s0 hr
  simp only [List.nil_append] at g3 g4 g7
  have hnone : ∀ j, ¬ (List.replicate l.length false).getD j false = true := by
    intro j hj
    simp only [List.getD_eq_getElem?_getD, List.getElem?_replicate] at hj
    split at hj <;> simp at hj
  exact key _ _ t h0 k vs1 tk rfl hK0 (by simp) g3 (by omega) g4 g5 g6 (fun i o hi ho => by
    obtain ⟨ti, a1, a2, a3⟩ := g7 i o (Nat.zero_le i) hi ho
    exact ⟨ti, a1, fun hw => .inr (a2 hw), a3, fun _ hw => a2 hw⟩) (fun j hj => absurd hj (hnone j)) (fun i j hi => absurd hi (hnone i)) ⟨rfl, fun _ _ => rfl, fun j _ _ _ h => absurd h (hnone j)⟩

def isLd (ds : List Nat) : MOp → Bool
  | .load _ (.tmp d) => ds.contains d
  | _ => false
def MOp.from? : MOp → Option Nat
  | .mov (.tmp x) => some x
  | .fieldAddr _ (.tmp x) => some x
  | .indexAddr _ (.tmp x) _ => some x
  | _ => none
def stepT (S : List Nat) (o : MOper) : List Nat :=
  let S' := S.filter fun x => !(o.dst == some x)
  match o.dst, o.op.from? with
  | some d, some x => cond (S.contains x) (d :: S') S'
  | _, _ => S'
def sepW (ds : List Nat) : List MOper → List Nat → List Nat → Bool
  | [], _, _ => true
  | o :: l, A, B => (match o.op with
    | .store _ (.tmp x) _ => A.contains x
    | .load _ (.tmp x) => !ds.contains x || B.contains x
    | op => op.still) && sepW ds l (stepT A o) (stepT B o)
def InB (b : Nat) (S : List Nat) (t : Tmps) : Prop := ∀ d ∈ S, (∀ b' o n, t.getD d .undef = .slice b' o n → b' = b) ∧ ∀ b' o, t.getD d .undef = .ptr b' o → b' = b
theorem put_at {t : Tmps} {d : Option Nat} {v x : AV} {d' : Nat} (h : (put t d v).getD d' .undef = x) : (d = some d' ∧ (v = x ∨ x = .undef)) ∨ (d ≠ some d' ∧ t.getD d' .undef = x) := by
  cases d with
  | none => exact .inr ⟨by simp, h⟩
  | some d =>
    simp only [put, List.getD_eq_getElem?_getD, List.getElem?_set] at h
    by_cases e : d = d'
    · subst e
      refine .inl ⟨rfl, ?_⟩
      rw [if_pos rfl] at h
      split at h
      · exact .inl h
      · exact .inr h.symm
    · rw [if_neg e] at h
      exact .inr ⟨by simpa using e, by rw [List.getD_eq_getElem?_getD]; exact h⟩
theorem from_in {b : Nat} {t : Tmps} {h h1 : Heap} {o : MOp} {x : Nat} {v : AV} (hf : o.from? = some x) (hx : (∀ b' o n, t.getD x .undef = .slice b' o n → b' = b) ∧ ∀ b' o, t.getD x .undef = .ptr b' o → b' = b) (he : evalOp t h o = some (v, h1)) : (∀ b' o n, v = .slice b' o n → b' = b) ∧ ∀ b' o, v = .ptr b' o → b' = b := by
  unfold MOp.from? at hf
  split at hf
  · cases hf
    simp only [evalOp, MO.eval, Option.some.injEq, Prod.mk.injEq] at he
    rw [← he.1]
    exact hx
  · cases hf
    simp only [evalOp, MO.eval] at he
    split at he
    · rename_i b' o' e1
      simp only [Option.some.injEq, Prod.mk.injEq] at he
      rw [← he.1]
      refine ⟨(fun _ _ _ h => by cases h), fun b'' o'' h => ?_⟩
      cases h
      exact hx.2 _ _ e1
    · cases he
  · cases hf
    simp only [evalOp, MO.eval] at he
    split at he
    · rename_i b' o' n' k j e1 e2
      split at he
      · simp only [Option.some.injEq, Prod.mk.injEq] at he
        rw [← he.1]
        refine ⟨(fun _ _ _ h => by cases h), fun b'' o'' h => ?_⟩
        cases h
        exact hx.1 _ _ _ e1
      · cases he
    · cases he
  · cases hf
theorem InB.step {b : Nat} {S : List Nat} {t : Tmps} {o : MOper} {v : AV} (k : InB b S t) (hv : v = .undef ∨ ∀ x, o.op.from? = some x → ((∀ b' o n, t.getD x .undef = .slice b' o n → b' = b) ∧ ∀ b' o, t.getD x .undef = .ptr b' o → b' = b) → (∀ b' o n, v = .slice b' o n → b' = b) ∧ ∀ b' o, v = .ptr b' o → b' = b) : InB b (stepT S o) (put t o.dst v) := by
  have old : ∀ d ∈ S.filter (fun x => !(o.dst == some x)), (∀ b' o' n, (put t o.dst v).getD d .undef = .slice b' o' n → b' = b) ∧ ∀ b' o', (put t o.dst v).getD d .undef = .ptr b' o' → b' = b := by
    intro d hd
    obtain ⟨h1, h2⟩ := List.mem_filter.1 hd
    have hne : o.dst ≠ some d := by simpa using h2
    refine ⟨fun b' o' n h => ?_, fun b' o' h => ?_⟩
    · rcases put_at h with ⟨h3, _⟩ | ⟨_, h3⟩
      · exact absurd h3 hne
      · exact (k d h1).1 _ _ _ h3
    · rcases put_at h with ⟨h3, _⟩ | ⟨_, h3⟩
      · exact absurd h3 hne
      · exact (k d h1).2 _ _ h3
  unfold stepT
  simp only
  split
  · rename_i d x e1 e2
    cases hc : S.contains x with
    | false => simp only [cond_false]; exact old
    | true =>
      simp only [cond_true]
      intro y hy
      rcases List.mem_cons.1 hy with rfl | hy
      · have hx := k x (by simpa using hc)
        refine ⟨fun b' o' n h => ?_, fun b' o' h => ?_⟩
        · rcases put_at h with ⟨_, h3⟩ | ⟨h3, _⟩
          · rcases h3 with h3 | h3
            · rcases hv with hv | hv
              · rw [hv] at h3; cases h3
              · exact (hv x e2 hx).1 _ _ _ h3
            · cases h3
          · exact absurd e1 h3
        · rcases put_at h with ⟨_, h3⟩ | ⟨h3, _⟩
          · rcases h3 with h3 | h3
            · rcases hv with hv | hv
              · rw [hv] at h3; cases h3
              · exact (hv x e2 hx).2 _ _ h3
            · cases h3
          · exact absurd e1 h3
      · exact old y hy
  · exact old
theorem wr_other {h h1 : Heap} {b o e : Nat} {cs : List AV} (hw : wrCells h b o cs = some h1) (hne : e ≠ b) : h1[e]? = h[e]? := by
  unfold wrCells at hw
  split at hw
  · split at hw
    · cases hw
      rw [List.getElem?_set_ne (Ne.symm hne)]
    · cases hw
  · cases hw
theorem rd_same {h h1 : Heap} {b o : Nat} {agg : Option Nat} (he : h1[b]? = h[b]?) : rdVar h1 agg b o = rdVar h agg b o := by
  cases agg <;> simp only [rdVar, rdCells, he]
theorem srunk_of_runs {M : Model} {h0 : Heap} {ds : List Nat} {b e : Nat} (hbe : b ≠ e) : ∀ {l : List MOper} {A B : List Nat} {t : Tmps} {Q : Tmps → Heap → Prop} {h : Heap}, sepW ds l A B = true → InB b A t → InB e B t → h[e]? = h0[e]? → Runs M (.ops l t Q) h → SRunK (isLd ds) noS (fun h' => h'[e]? = h0[e]?) M h0 l t h Q
  | [], A, B, t, Q, h, _, _, _, _, hr => by
    cases hr with
    | nil hQ => exact .nil hQ
  | o :: l, A, B, t, Q, h, hw, hA, hB, hK, hr => by
    simp only [sepW, Bool.and_eq_true] at hw
    obtain ⟨hw1, hw2⟩ := hw
    cases hr with
    | off hg h1 => exact .off hg (srunk_of_runs hbe hw2 (hA.step (.inl rfl)) (hB.step (.inl rfl)) hK h1)
    | cons Q1 hg h1 h2 =>
      -- an operation that is reckoned at once
      have plain : ∀ {v h1'}, evalOp t h o.op = some (v, h1') → InB b (stepT A o) (put t o.dst v) ∧ InB e (stepT B o) (put t o.dst v) := fun he =>
        ⟨hA.step (.inr fun x hf hx => from_in hf hx he), hB.step (.inr fun x hf hx => from_in hf hx he)⟩
      have still : o.op.still = true → isLd ds o.op = false → SRunK (isLd ds) noS (fun h' => h'[e]? = h0[e]?) M h0 (o :: l) t h Q := fun hs hq => by
        obtain ⟨v, he, hQ⟩ := still_op hs h1
        refine .cons (fun v' h' => v' = v ∧ h' = h) hg hq (.op he ⟨rfl, rfl⟩) (fun v' h' hq' ha => hq'.2 ▸ Ext.refl h) (fun v' h' _ _ hf => by cases hf) (fun v' h' hq' => hq'.2 ▸ hK) fun v' h' hq' => ?_
        obtain ⟨rfl, rfl⟩ := hq'
        exact srunk_of_runs hbe hw2 (plain he).1 (plain he).2 hK (h2 _ _ hQ)
      cases hop : o.op with
      | store k a y =>
        rw [hop] at hw1 h1
        cases a with
        | const c => simp [MOp.still] at hw1
        | tmp x =>
          simp only at hw1
          have hx := hA x (by simpa using hw1)
          cases h1 with
          | op he hQ =>
            rename_i v h1'
            have he' : evalOp t h o.op = some (v, h1') := by rw [hop]; exact he
            simp only [evalOp, MO.eval] at he
            split at he
            · rename_i b' o' e1
              split at he
              · split at he
                · obtain ⟨g, hg', e2⟩ := Option.map_eq_some_iff.1 he
                  simp only [Prod.mk.injEq] at e2
                  obtain ⟨rfl, rfl⟩ := e2
                  have hb := hx.2 _ _ e1
                  subst hb
                  have hk : g[e]? = h0[e]? := (wr_other hg' (Ne.symm hbe)).trans hK
                  refine .cons (fun v' h' => v' = .undef ∧ h' = g) hg (by rw [hop]; rfl) (.op he' ⟨rfl, rfl⟩) (fun v' h' hq' ha => by rw [hop] at ha; cases ha) (fun v' h' _ _ hf => by cases hf) (fun v' h' hq' => hq'.2 ▸ hk) fun v' h' hq' => ?_
                  obtain ⟨rfl, rfl⟩ := hq'
                  exact srunk_of_runs hbe hw2 (plain he').1 (plain he').2 hk (h2 _ _ hQ)
                · cases he
              · cases he
            · cases he
      | load k a =>
        cases hq : isLd ds o.op with
        | false => exact still (by rw [hop]; rfl) hq
        | true =>
          rw [hop] at hw1 h1 hq
          cases a with
          | const c => cases hq
          | tmp x =>
            simp only [isLd] at hq
            simp only [hq, Bool.not_true, Bool.false_or] at hw1
            have hx := hB x (by simpa using hw1)
            obtain ⟨v, he, hQ⟩ := still_op (o := .load k (.tmp x)) rfl h1
            have he' : evalOp t h o.op = some (v, h) := by rw [hop]; exact he
            refine .quiet v hg (by rw [hop]; exact hq) (fun h' hK' => ?_) (srunk_of_runs hbe hw2 (plain he').1 (plain he').2 hK (h2 _ _ hQ))
            rw [hop]
            refine .op (v := v) (h1 := h') ?_ ⟨rfl, rfl⟩
            simp only [evalOp, MO.eval] at he ⊢
            split at he
            · rename_i b' o' e1
              obtain ⟨v', hv', e2⟩ := Option.map_eq_some_iff.1 he
              simp only [Prod.mk.injEq, and_true] at e2
              subst e2
              have hb := hx.2 _ _ e1
              subst hb
              rw [rd_same (hK'.trans hK.symm), hv']
              rfl
            · cases he
      | _ =>
        rw [hop] at hw1
        first
          | exact still (by rw [hop]; exact hw1) (by rw [hop]; rfl)
          | exact absurd hw1 (by simp [MOp.still])

def hasSt (l : List MOper) : Bool := l.any fun o => match o.op with
  | .store _ _ _ => true
  | _ => false
def relaxT (a r : Nat) (ds : List Nat) : MCode → MCode
  | .draw l pre => cond (hasSt l && (drawEffK (isLd ds) noS l pre && sepW ds l [a] [r])) (.seq (.region [⟨none, .copy 0 (.tmp a) (.tmp r), none⟩]) (.region l)) (.draw l pre)
  | .seq a' b => .seq (relaxT a r ds a') (relaxT a r ds b)
  | .cond c a' b => .cond c (relaxT a r ds a') (relaxT a r ds b)
  | .block id c => .block id (relaxT a r ds c)
  | .loop c => .loop (relaxT a r ds c)
  | c => c
def relaxTF (a r : Nat) (ds : List Nat) (F : MFunc) : MFunc := ⟨F.ntmps, relaxT a r ds F.body, F.results⟩
theorem relaxT_runs {a r : Nat} {ds : List Nat} {M : Model} : ∀ (c : MCode) (t : Tmps) (Q : MX → Tmps → Heap → Prop) (h : Heap), Runs M (.code (relaxT a r ds c) t Q) h → Runs M (.code c t Q) h
  | .skip, t, Q, h, hr => hr
  | .region l, t, Q, h, hr => hr
  | .exit _, t, Q, h, hr => hr
  | .ret, t, Q, h, hr => hr
  | .draw l pre, t, Q, h, hr => by
    simp only [relaxT] at hr
    cases hd : hasSt l && (drawEffK (isLd ds) noS l pre && sepW ds l [a] [r]) with
    | false => rw [hd] at hr; exact hr
    | true =>
      rw [hd] at hr
      rw [Bool.and_eq_true, Bool.and_eq_true] at hd
      replace hd := hd.2
      simp only [cond_true] at hr
      cases hr with
      | seq Q1 h1 h2 h3 =>
        cases h1 with
        | region h1 =>
          cases h1 with
          | off hg h1 => simp [wantedM] at hg
          | cons Q2 hg h4 h5 =>
            cases h4 with
            | op he hQ =>
              simp only [evalOp, MO.eval] at he
              split at he
              · cases he
              · rename_i b o n e1
                split at he
                · rename_i e c e2
                  split at he
                  · cases he
                  · rename_i hne
                    cases he
                    have h6 := h5 _ _ hQ
                    cases h6 with
                    | nil hQ1 =>
                      have h7 := h2 _ _ hQ1
                      simp only [put] at h7
                      cases h7 with
                      | region h8 =>
                        refine .draw (eff_runsK (K := fun h' => h'[e]? = h[e]?) rfl hd.1 (srunk_of_runs hne hd.2 (fun d hd' => ?_) (fun d hd' => ?_) rfl h8))
                        · rw [List.mem_singleton.1 hd', e1]
                          exact ⟨(fun _ _ _ h => by cases h; rfl), (fun _ _ h => by cases h)⟩
                        · rw [List.mem_singleton.1 hd', e2]
                          exact ⟨(fun _ _ _ h => by cases h), (fun _ _ h => by cases h; rfl)⟩
                · cases he
              · cases he
  | .seq a' b, t, Q, h, hr => by
    simp only [relaxT] at hr
    cases hr with
    | seq Q1 h1 h2 h3 => exact .seq Q1 (relaxT_runs a' _ _ _ h1) (fun t1 h1 hq => relaxT_runs b _ _ _ (h2 t1 h1 hq)) h3
  | .cond c a' b, t, Q, h, hr => by
    simp only [relaxT] at hr
    cases hr with
    | condT hc h1 => exact .condT hc (relaxT_runs a' _ _ _ h1)
    | condF hc h1 => exact .condF hc (relaxT_runs b _ _ _ h1)
  | .block id c, t, Q, h, hr => by
    simp only [relaxT] at hr
    cases hr with
    | block h1 => exact .block (relaxT_runs c _ _ _ h1)
  | .loop c, t, Q, h, hr => loop_runs (fun t Q h hh => relaxT_runs c t Q h hh) (by simpa only [relaxT] using hr)

theorem callP_of_wpT {a0 r0 : Nat} {ds : List Nat} {M : Model} {f : Nat} {F : MFunc} {hi : Hint} {args : List SV} {p : Heap} {R : List Seg} {P : AV → Heap → Prop} (hF : M.fn f = some F) (hargs : oks (R.length + 1) args) (hR : ∀ s ∈ R, s.ok (R.length + 1))
    (hw : wpF M (relaxTF a0 r0 ds F) hi args (.sym p :: R) P) : CallP M f (concs (addr (.sym p :: R)) args) p (flat (addr (.sym p :: R)) R) P := by
  intro Q hQ
  have hlen : (concs (addr (.sym p :: R)) args).length = args.length := concs_length _ _
  refine .call hF ?_
  rw [hlen]
  have hv : Val (args ++ List.replicate (F.ntmps - args.length) .bad) (.sym p :: R) (concs (addr (.sym p :: R)) args ++ List.replicate (F.ntmps - args.length) .undef) (p ++ flat (addr (.sym p :: R)) R) := by
    refine ⟨⟨by rw [flat_cons]; rfl, ?_⟩, by simp [hlen], ?_⟩
    · intro s hs
      rcases List.mem_cons.1 hs with rfl | hs
      · simp only [Seg.ok]
      · exact hR s hs
    · intro i v hi
      rcases Nat.lt_or_ge i args.length with hlt | hge
      · rw [List.getElem?_append_left hlt] at hi
        rw [oks_iff] at hargs
        refine .inr ⟨hargs v (List.mem_of_getElem? hi), ?_⟩
        rw [List.getD_eq_getElem?_getD, List.getElem?_append_left (by rw [hlen]; exact hlt), concs_map, List.getElem?_map, hi]
        rfl
      · rw [List.getElem?_append_right hge, List.getElem?_replicate] at hi
        split at hi
        · cases hi; exact .inl rfl
        · cases hi
  refine relaxT_runs (a := a0) (r := r0) (ds := ds) _ _ _ _ ?_
  refine wpC_sound (relaxT a0 r0 ds F.body) hv (by simp) hw fun x t1 H1 r1 t1' h1 a1 a5 a2 a3 a4 => ?_
  have fin : (x = .normal ∨ x = .ret) → (match resS t1 H1 F.results with
      | some v => P (conc (addr H1) v) (flat (addr H1) (H1.drop 1))
      | none => False) → (x = .normal ∨ x = .ret) ∧ ∃ v, Abs.results h1 t1' F.results = some v ∧ Q v h1 := by
    intro hx a4
    refine ⟨hx, ?_⟩
    split at a4
    · rename_i v hv'
      refine ⟨_, resS_spec a1 hv', ?_⟩
      have e : h1 = p ++ flat (addr H1) (H1.drop 1) := by
        have e1 : h1.take p.length = p := by
          refine List.ext_getElem? fun k => ?_
          rcases Nat.lt_or_ge k p.length with hkl | hkl
          · rw [List.getElem?_take_of_lt hkl]
            have := a2.2.2 0 (by omega) (by simp) k (by simp [addr]) (by simpa [addr, Seg.len, addr_zero] using hkl)
            rw [this, List.getElem?_append_left hkl]
          · rw [List.getElem?_eq_none (by simp; omega), List.getElem?_eq_none hkl]
        have e2 : h1.drop p.length = flat (addr H1) (H1.drop 1) := by
          have := drop_flat (addr H1) (H := H1) (z := 1) a2.1
          rw [a2.2.1 1 (Nat.le_refl _), ← a1.heap.1] at this
          simp only [addr, Seg.len, addr_zero, Nat.add_zero] at this
          exact this
        rw [← e2]
        conv => lhs; rw [← List.take_append_drop p.length h1, e1]
      rw [e]
      exact hQ _ _ a4
    · exact a4.elim
  cases x with
  | normal => exact fin (.inl rfl) a4
  | ret => exact fin (.inr rfl) a4
  | exit => exact a4.elim

theorem callE_of_wpT {a0 r0 : Nat} {ds : List Nat} {M : Model} {f : Nat} {F : MFunc} {hi : Hint} {args : List SV} {h : Heap} {P : AV → Heap → Prop} (hF : M.fn f = some F) (hargs : oks 1 args)
    (hw : wpF M (relaxTF a0 r0 ds F) hi args [.sym h] P) : CallE M f (concs (addr [.sym h]) args) h P := by
  intro Q hQ
  have := callP_of_wpT (R := []) hF (by simpa using hargs) (by simp) hw Q hQ
  simp only [flat, List.append_nil] at this
  exact this
end Go.Abs

