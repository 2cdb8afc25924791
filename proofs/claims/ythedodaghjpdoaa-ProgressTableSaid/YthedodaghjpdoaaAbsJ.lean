/- The abstract machine's runs are the program's. -/
import Derived.Test.YthedodaghjpdoaaAbsI
import Derived.Orders
set_option linter.unusedVariables false
set_option linter.unusedSimpArgs false
namespace Go.Abs
open Go.RowKit
section
variable {P : Program} {base : Nat} {w0 : World} {out : Prop}

theorem PostC.normal {m : Emb} {Q : MX → Tmps → Heap → Prop} {a : Act} {w : World} (h : PostC base w0 out m Q .normal a w) : ∃ t h m', Q .normal t h ∧ m.le m' ∧ TR m' t a.tmps ∧ a.defers = [] ∧ HR m' h base w0 w := by
  obtain ⟨x, t, hh, m', hx, hr⟩ := h
  cases hx
  exact ⟨t, hh, m', hr⟩

theorem loop_of {c : Code} {Q : Exit → Act → World → Prop} {a : Act} {w : World} (h : c.wp P (Exit.then (LoopWp P c Q) Q) a w) : (Code.loop c).wp P Q a w ∧ LoopWp P c Q a w := by
  have key : ∀ (b : Frame) (k : List Item) (cs : List Frame), ∃ e a' w', Q e a' w' ∧ Arrives P (lone (b.at a (.code c :: .inLoop c :: k)) cs w) b k cs e a' w' := by
    intro b k cs
    obtain ⟨e, a1, w1, hq, harr⟩ := h b (.inLoop c :: k) cs
    cases e with
    | normal =>
      obtain ⟨e2, a2, w2, hq2, harr2⟩ := hq b k cs
      exact ⟨e2, a2, w2, hq2, .of_steps harr harr2⟩
    | exit id => exact ⟨_, a1, w1, hq, .pass (x := .inLoop c) rfl (fun _ _ => .inl (by simp)) harr⟩
    | goto l => exact ⟨_, a1, w1, hq, .pass (x := .inLoop c) rfl (fun _ _ => .inl (by simp)) harr⟩
    | ret => exact ⟨_, a1, w1, hq, .pass (x := .inLoop c) rfl (fun _ _ => .inl (by simp)) harr⟩
    | panic ch => exact ⟨_, a1, w1, hq, .pass (x := .inLoop c) rfl (fun _ _ => .inl (by simp)) harr⟩
    | outgrown => exact ⟨_, a1, w1, hq, .pass (x := .inLoop c) rfl (fun _ _ => .inl (by simp)) harr⟩
  refine ⟨fun b k cs => ?_, fun b k cs => ?_⟩
  · obtain ⟨e, a', w', hq, harr⟩ := key b k cs
    exact ⟨e, a', w', hq, .of_steps (.one step_loop) harr⟩
  · obtain ⟨e, a', w', hq, harr⟩ := key b k cs
    exact ⟨e, a', w', hq, .of_steps (.one step_inLoop) harr⟩

theorem callFunc_run {f : Nat} {fn : Func} {c : Code} {cargs : Array Value} {w : World} (hf : P.funcs[f]? = some fn) (hn : (fn.name == "runtime.NumGoroutine") = false) (hb : fn.body = some c) : (callFunc f cargs).run P w = .ok (.enter f cargs) w := by
  have hn' : ¬ fn.name = "runtime.NumGoroutine" := by simpa using hn
  simp [callFunc, hf, hn', hb]

theorem allM_some_map {α β : Type} {o : Option α} {g : α → β} {b : β} : o.map g = some b ↔ ∃ a, o = some a ∧ g a = b := by simp

theorem compC_skip {C : Code} (h : compC P C = some .skip) : C = .skip := by
  unfold compC at h
  split at h <;> first
    | rfl
    | cases h
    | (simp only [Option.map_eq_some_iff] at h; obtain ⟨_, _, h⟩ := h; cases h)
    | (split at h <;> cases h)
theorem compC_ret {C : Code} (h : compC P C = some .ret) : C = .ret := by
  unfold compC at h
  split at h <;> first
    | rfl
    | cases h
    | (simp only [Option.map_eq_some_iff] at h; obtain ⟨_, _, h⟩ := h; cases h)
    | (split at h <;> cases h)
theorem compC_exit {C : Code} {id : Nat} (h : compC P C = some (.exit id)) : C = .exit id := by
  unfold compC at h
  split at h <;> first
    | (cases h; rfl)
    | cases h
    | (simp only [Option.map_eq_some_iff] at h; obtain ⟨_, _, h⟩ := h; cases h)
    | (split at h <;> cases h)
theorem compC_region {C : Code} {l : List MOper} (h : compC P C = some (.region l)) : ∃ id ops, C = .region id ops false ∧ compOps P ops = some l := by
  unfold compC at h
  split at h <;> first
    | (simp only [Option.map_eq_some_iff] at h; obtain ⟨_, hx, h⟩ := h; cases h; exact ⟨_, _, rfl, hx⟩)
    | cases h
    | (simp only [Option.map_eq_some_iff] at h; obtain ⟨_, _, h⟩ := h; cases h)
    | (split at h <;> cases h)
theorem compC_draw {C : Code} {l : List MOper} {pre : List (List Nat)} (h : compC P C = some (.draw l pre)) : ∃ id ops, C = .region id ops true ∧ compOps P ops = some l ∧ pre = edgesOf ops := by
  unfold compC at h
  split at h <;> first
    | (simp only [Option.map_eq_some_iff] at h; obtain ⟨_, hx, h⟩ := h; cases h; exact ⟨_, _, rfl, hx, rfl⟩)
    | cases h
    | (simp only [Option.map_eq_some_iff] at h; obtain ⟨_, _, h⟩ := h; cases h)
    | (split at h <;> cases h)
theorem compC_block {C : Code} {id : Nat} {c : MCode} (h : compC P C = some (.block id c)) : ∃ x, C = .block id x ∧ compC P x = some c := by
  unfold compC at h
  split at h <;> first
    | (simp only [Option.map_eq_some_iff] at h; obtain ⟨_, hx, h⟩ := h; cases h; exact ⟨_, rfl, hx⟩)
    | cases h
    | (simp only [Option.map_eq_some_iff] at h; obtain ⟨_, _, h⟩ := h; cases h)
    | (split at h <;> cases h)
theorem compC_loop {C : Code} {c : MCode} (h : compC P C = some (.loop c)) : ∃ x, C = .loop x ∧ compC P x = some c := by
  unfold compC at h
  split at h <;> first
    | (simp only [Option.map_eq_some_iff] at h; obtain ⟨_, hx, h⟩ := h; cases h; exact ⟨_, rfl, hx⟩)
    | cases h
    | (simp only [Option.map_eq_some_iff] at h; obtain ⟨_, _, h⟩ := h; cases h)
    | (split at h <;> cases h)
theorem compC_seq {C : Code} {a b : MCode} (h : compC P C = some (.seq a b)) : ∃ x y, C = .seq x y ∧ compC P x = some a ∧ compC P y = some b := by
  unfold compC at h
  split at h <;> first
    | cases h
    | (simp only [Option.map_eq_some_iff] at h; obtain ⟨_, _, h⟩ := h; cases h)
    | (split at h <;> first
        | (cases h; exact ⟨_, _, rfl, by assumption, by assumption⟩)
        | cases h)
    | (split at h <;> cases h)
theorem compC_cond {C : Code} {c : MO} {a b : MCode} (h : compC P C = some (.cond c a b)) : ∃ o x y, C = .cond o x y ∧ compO o = some c ∧ compC P x = some a ∧ compC P y = some b := by
  unfold compC at h
  split at h <;> first
    | cases h
    | (simp only [Option.map_eq_some_iff] at h; obtain ⟨_, _, h⟩ := h; cases h)
    | (split at h <;> first
        | (cases h; exact ⟨_, _, _, rfl, by assumption, by assumption, by assumption⟩)
        | cases h)
    | (split at h <;> cases h)

theorem compOper_inv {ops : Array Oper} {o : Oper} {mo : MOper} (h : compOper P ops o = some mo) : mo.dst = o.dst ∧ compOp2 P o.op = some mo.op ∧ compGuard ops o.guard = some mo.guard := by
  unfold compOper at h
  split at h
  · rename_i h1 h2
    cases h
    exact ⟨rfl, h1, h2⟩
  · cases h

theorem compOps_get {ops : Array Oper} {l : List MOper} (h : compOps P ops = some l) : l.length = ops.size ∧ ∀ (i : Nat) (o : Oper), ops[i]? = some o → ∃ mo, l[i]? = some mo ∧ compOper P ops o = some mo := by
  obtain ⟨h1, h2⟩ := allM_spec h
  simp only [Array.length_toList] at h1
  refine ⟨h1, fun i o ho => ?_⟩
  have hi : i < ops.size := (Array.getElem?_eq_some_iff.1 ho).1
  obtain ⟨o', h3, h4⟩ := h2 i _ (List.getElem?_eq_getElem (by omega))
  have : ops.toList[i]? = some o := by simpa using ho
  rw [this] at h3
  cases h3
  exact ⟨_, List.getElem?_eq_getElem (by omega), h4⟩

theorem ready_iff {ops : Array Oper} {listed : Array Bool} {i : Nat} (hs : listed.size = ops.size) : i ∈ Region.ready .any ops listed ↔ i < ops.size ∧ readyM (edgesOf ops) listed.toList i = true := by
  have e1 : ∀ j b, listed.toList.getD j b = listed.getD j b := by
    intro j b
    simp only [List.getD_eq_getElem?_getD, Array.getD_eq_getD_getElem?, Array.getElem?_toList]
  unfold Region.ready readyM
  simp only [List.mem_filter, List.mem_range, e1]
  constructor
  · rintro ⟨h1, h2⟩
    refine ⟨h1, ?_⟩
    simp only [Bool.and_eq_true] at h2 ⊢
    refine ⟨h2.1, ?_⟩
    have h3 := h2.2
    have h4 : (edgesOf ops).getD i [] = (ops[i].after.toList.filter (Region.binds .any)).map (·.on) := by
      simp [edgesOf, List.getD_eq_getElem?_getD, h1]
    rw [h4]
    simp only [Array.getElem?_eq_getElem h1, Option.map_some, Option.getD_some] at h3
    simp only [List.all_map, List.all_filter]
    rw [← Array.all_toList] at h3
    rw [List.all_eq_true] at h3 ⊢
    intro e he
    have := h3 e he
    simpa [Function.comp, e1] using this
  · rintro ⟨h1, h2⟩
    refine ⟨h1, ?_⟩
    simp only [Bool.and_eq_true] at h2 ⊢
    refine ⟨h2.1, ?_⟩
    have h3 := h2.2
    have h4 : (edgesOf ops).getD i [] = (ops[i].after.toList.filter (Region.binds .any)).map (·.on) := by
      simp [edgesOf, List.getD_eq_getElem?_getD, h1]
    rw [h4] at h3
    simp only [Array.getElem?_eq_getElem h1, Option.map_some, Option.getD_some]
    simp only [List.all_map, List.all_filter] at h3
    rw [← Array.all_toList]
    rw [List.all_eq_true] at h3 ⊢
    intro e he
    have := h3 e he
    simpa [Function.comp, e1] using this

theorem count_set_lt : ∀ (l : List Bool) (i : Nat), l.getD i true = false → (l.set i true).count false + 1 = l.count false
  | [], i, h => by simp at h
  | b :: l, 0, h => by
    simp at h
    subst h
    simp
  | b :: l, i + 1, h => by
    have := count_set_lt l i (by simpa using h)
    cases b <;> simp <;> omega

theorem drop_step {ops : Array Oper} {n : Nat} {x : MOper} {l : List MOper} (h : allM (compOper P ops) (ops.toList.drop n) = some (x :: l)) :
    ∃ o, ops[n]? = some o ∧ compOper P ops o = some x ∧ allM (compOper P ops) (ops.toList.drop (n + 1)) = some l ∧ List.range' n (ops.size - n) = n :: List.range' (n + 1) (ops.size - (n + 1)) := by
  cases hd : ops.toList.drop n with
  | nil => rw [hd] at h; simp [allM] at h
  | cons o r =>
    rw [hd] at h
    simp only [allM] at h
    split at h
    · rename_i b bs hb hbs
      cases h
      have hlt : n < ops.toList.length := by
        rcases Nat.lt_or_ge n ops.toList.length with h' | h'
        · exact h'
        · rw [List.drop_eq_nil_of_le h'] at hd; cases hd
      have e := List.drop_eq_getElem_cons hlt
      rw [hd] at e
      injection e with e1 e2
      simp only [Array.length_toList] at hlt
      refine ⟨o, ?_, hb, by rw [← e2]; exact hbs, ?_⟩
      · rw [Array.getElem?_eq_getElem hlt, e1]; simp
      · obtain ⟨k, hk⟩ : ∃ k, ops.size - n = k + 1 := ⟨ops.size - n - 1, by omega⟩
        rw [hk, List.range'_succ]
        congr 2
        omega
    · cases h

theorem sound {M : Model} (hM : Fits P base w0 out M) {j : Job} {h : Heap} (hr : Runs M j h) : Good P base w0 out j h := by
  induction hr with
  | @call f args F h Q hF hbody ih =>
    intro m w cargs hv hk O a next Q' hnext hout
    obtain ⟨fn, hfn, hcomp⟩ := hM.fn f F hF
    unfold compF at hcomp
    split at hcomp
    · cases hcomp
    · rename_i hname
      split at hcomp
      · rename_i c hc
        split at hcomp
        · rename_i body rs hbd hrs
          cases hcomp
          rw [callFunc_run hfn (by simpa using hname) hc, Oper.upon_enter]
          refine calls_of_wp hfn hc ?_
          have hl := hv.length
          simp only [Array.length_toList] at hl
          have htr : TR m (args ++ List.replicate (fn.ntmps - args.length) .undef) (cargs ++ Array.replicate (fn.ntmps - cargs.size) undef) := by
            refine ⟨?_⟩
            rw [Array.toList_append, Array.toList_replicate, hl]
            refine hv.append (VRs.of_get (by simp) fun i x hx => ?_)
            rw [List.getElem?_replicate] at hx ⊢
            split at hx
            · rename_i hi
              cases hx
              rw [if_pos hi]
              exact ⟨_, rfl, by simp [VR, undef]⟩
            · cases hx
          refine wp_mono (ih c hbd m w { tmps := cargs ++ Array.replicate (fn.ntmps - cargs.size) undef, defers := [] } htr rfl hk).1 fun e a' w' hp => ?_
          cases e with
          | normal =>
            obtain ⟨x, t, h1, m', hx, ⟨hx2, v, hres, hQ⟩, hle, ht, hd, hk'⟩ := hp
            obtain ⟨cv, hrun, hvv⟩ := results_sound hk' ht hrs hres
            exact ⟨hd, cv, hrun, hnext v h1 m' cv w' hQ hle hvv hk'⟩
          | ret =>
            obtain ⟨x, t, h1, m', hx, ⟨hx2, v, hres, hQ⟩, hle, ht, hd, hk'⟩ := hp
            obtain ⟨cv, hrun, hvv⟩ := results_sound hk' ht hrs hres
            exact ⟨hd, cv, hrun, hnext v h1 m' cv w' hQ hle hvv hk'⟩
          | outgrown => exact hout hp
          | exit id =>
            obtain ⟨x, t, h1, m', hx, ⟨hx2, _⟩, _⟩ := hp
            cases hx
            rcases hx2 with hx2 | hx2 <;> cases hx2
          | goto l =>
            obtain ⟨x, t, h1, m', hx, _⟩ := hp
            cases hx
          | panic ch =>
            obtain ⟨x, t, h1, m', hx, _⟩ := hp
            cases hx
        · cases hcomp
      · cases hcomp
  | prim hp => exact hM.prim _ _ _ _ hp
  | @skip t h Q hQ =>
    intro C hC m w a ht hd hk
    obtain rfl := compC_skip hC
    exact ⟨wp_skip ⟨.normal, t, h, m, rfl, hQ, Emb.le.refl m, ht, hd, hk⟩, by simp⟩
  | @seq c1 c2 t h Q Q1 _ _ hx ih1 ih2 =>
    intro C hC m w a ht hd hk
    obtain ⟨x, y, rfl, hx1, hy1⟩ := compC_seq hC
    refine ⟨wp_seq (wp_mono (ih1 x hx1 m w a ht hd hk).1 fun e a' w' hp => ?_), by simp⟩
    cases e with
    | normal =>
      obtain ⟨t1, h1, m', hQ, hle, ht1, hd1, hk1⟩ := hp.normal
      exact wp_mono (ih2 t1 h1 hQ y hy1 m' w' a' ht1 hd1 hk1).1 fun e a' w' hp => hp.mono hle fun _ _ _ _ h => h
    | outgrown => exact hp
    | exit id => exact PostC.mono (Emb.le.refl m) hp fun x t h hx' hq => hx x t h (by rintro rfl; simp [toX] at hx') hq
    | ret => exact PostC.mono (Emb.le.refl m) hp fun x t h hx' hq => hx x t h (by rintro rfl; simp [toX] at hx') hq
    | goto l => exact PostC.mono (Emb.le.refl m) hp fun x t h hx' hq => by simp [toX] at hx'
    | panic l => exact PostC.mono (Emb.le.refl m) hp fun x t h hx' hq => by simp [toX] at hx'
  | @condT c c1 c2 t h Q hc _ ih =>
    intro C hC m w a ht hd hk
    obtain ⟨o, x, y, rfl, ho, hx1, hy1⟩ := compC_cond hC
    have hv := compO_sound ho ht
    rw [hc] at hv
    simp only [VR] at hv
    exact ⟨wp_cond_true hv (ih x hx1 m w a ht hd hk).1, by simp⟩
  | @condF c c1 c2 t h Q hc _ ih =>
    intro C hC m w a ht hd hk
    obtain ⟨o, x, y, rfl, ho, hx1, hy1⟩ := compC_cond hC
    have hv := compO_sound ho ht
    rw [hc] at hv
    simp only [VR] at hv
    exact ⟨wp_cond_false hv (ih y hy1 m w a ht hd hk).1, by simp⟩
  | @block id c t h Q _ ih =>
    intro C hC m w a ht hd hk
    obtain ⟨x, rfl, hx1⟩ := compC_block hC
    refine ⟨wp_block (wp_mono (ih x hx1 m w a ht hd hk).1 fun e a' w' hp => ?_), by simp⟩
    cases e with
    | outgrown => exact hp
    | normal =>
      obtain ⟨t1, h1, m', hQ, hr⟩ := hp.normal
      exact ⟨.normal, t1, h1, m', rfl, by simpa using hQ, hr⟩
    | ret =>
      obtain ⟨x, t1, h1, m', hx, hQ, hr⟩ := hp
      cases hx
      exact ⟨.ret, t1, h1, m', rfl, by simpa using hQ, hr⟩
    | exit id' =>
      obtain ⟨x, t1, h1, m', hx, hQ, hr⟩ := hp
      cases hx
      simp only [Exit.inBlock]
      by_cases hid : id' = id
      · subst hid
        rw [if_pos rfl]
        exact ⟨.normal, t1, h1, m', rfl, by simpa using hQ, hr⟩
      · rw [if_neg hid]
        exact ⟨.exit id', t1, h1, m', rfl, by simpa [hid] using hQ, hr⟩
    | goto l =>
      obtain ⟨x, t1, h1, m', hx, _⟩ := hp
      cases hx
    | panic l =>
      obtain ⟨x, t1, h1, m', hx, _⟩ := hp
      cases hx
  | @loop c t h Q Q1 _ _ hx ih1 ih2 =>
    intro C hC m w a ht hd hk
    obtain ⟨x, rfl, hx1⟩ := compC_loop hC
    have key := loop_of (Q := PostC base w0 out m Q) (wp_mono (ih1 x hx1 m w a ht hd hk).1 fun e a' w' hp => ?_)
    · exact ⟨key.1, fun body hb => by cases hb; exact key.2⟩
    · cases e with
      | normal =>
        obtain ⟨t1, h1, m', hQ, hle, ht1, hd1, hk1⟩ := hp.normal
        have hl := (ih2 t1 h1 hQ (.loop x) hC m' w' a' ht1 hd1 hk1).2 x rfl
        exact fun b k cs => let ⟨e, a2, w2, q, r⟩ := hl b k cs; ⟨e, a2, w2, q.mono hle fun _ _ _ _ h => h, r⟩
      | outgrown => exact hp
      | exit id => exact PostC.mono (Emb.le.refl m) hp fun x t h hx' hq => hx x t h (by rintro rfl; simp [toX] at hx') hq
      | ret => exact PostC.mono (Emb.le.refl m) hp fun x t h hx' hq => hx x t h (by rintro rfl; simp [toX] at hx') hq
      | goto l => exact PostC.mono (Emb.le.refl m) hp fun x t h hx' hq => by simp [toX] at hx'
      | panic l => exact PostC.mono (Emb.le.refl m) hp fun x t h hx' hq => by simp [toX] at hx'
  | @exit id t h Q hQ =>
    intro C hC m w a ht hd hk
    obtain rfl := compC_exit hC
    exact ⟨wp_exit ⟨.exit id, t, h, m, rfl, hQ, Emb.le.refl m, ht, hd, hk⟩, by simp⟩
  | @ret t h Q hQ =>
    intro C hC m w a ht hd hk
    obtain rfl := compC_ret hC
    exact ⟨wp_ret ⟨.ret, t, h, m, rfl, hQ, Emb.le.refl m, ht, hd, hk⟩, by simp⟩
  | @region l t h Q _ ih =>
    intro C hC m w a ht hd hk
    obtain ⟨id, ops, rfl, hops⟩ := compC_region hC
    have := ih ops 0 (by simpa [compOps] using hops) m w a ht hd hk _ fun _ _ _ h => h
    rw [Nat.sub_zero, ← List.range_eq_range'] at this
    refine ⟨wp_mono (wp_region this) fun e a' w' hp => PostC.mono (Emb.le.refl m) hp fun x t h _ hq => ?_, by simp⟩
    obtain ⟨rfl, hq⟩ := hq
    exact hq
  | @draw l pre t h Q _ ih =>
    intro C hC m w a ht hd hk
    obtain ⟨id, ops, rfl, hops, hpre⟩ := compC_draw hC
    have hl := (compOps_get hops).1
    have := ih ops (Array.replicate ops.size false) ops.size hops hpre (by simp [hl]) (by simp) (by simp [hl]) m { w with drawn := w.drawn + 1 } a ht hd hk.drewN _ fun _ _ _ h => h
    refine ⟨wp_mono (wp_region_any hM.mixed this) fun e a' w' hp => PostC.mono (Emb.le.refl m) hp fun x t h _ hq => ?_, by simp⟩
    obtain ⟨rfl, hq⟩ := hq
    exact hq
  | @anyDone l pre done t h Q hno hQ =>
    intro ops listed fuel hops hpre hdone hsz hf m w a ht hd hk Q' hQ'
    have hl := (compOps_get hops).1
    subst hpre hdone
    refine wpAny_done (List.eq_nil_iff_forall_not_mem.2 fun i hi => ?_) (hQ' _ _ _ ⟨.normal, t, h, m, rfl, ⟨rfl, hQ⟩, Emb.le.refl m, ht, hd, hk⟩) fuel
    rw [ready_iff hsz] at hi
    rw [hno i (by omega)] at hi
    exact absurd hi.2 (by simp)
  | @anyStep l pre done t h Q Q1 hex _ _ _ ih1 ih2 ih3 =>
    intro ops listed fuel hops hpre hdone hsz hf m w a ht hd hk Q' hQ'
    obtain ⟨hl, hget⟩ := compOps_get hops
    subst hpre hdone
    obtain ⟨i0, hi0, hr0⟩ := hex
    have hnd : ∀ i, readyM (edgesOf ops) listed.toList i = true → listed.toList.getD i true = false := by
      intro i hr
      unfold readyM at hr
      simp only [Bool.and_eq_true, Bool.not_eq_true'] at hr
      exact hr.1
    cases fuel with
    | zero =>
      have := count_set_lt _ _ (hnd i0 hr0)
      omega
    | succ fuel =>
      refine ⟨fun hnil => ?_, fun i hi => ?_⟩
      · have : i0 ∈ Region.ready .any ops listed := (ready_iff hsz).2 ⟨by omega, hr0⟩
        rw [hnil] at this
        cases this
      · rw [ready_iff hsz] at hi
        obtain ⟨hi1, hr⟩ := hi
        have ho : ops[i]? = some ops[i] := Array.getElem?_eq_getElem hi1
        obtain ⟨mo, hmo, hcomp⟩ := hget i _ ho
        obtain ⟨hdst, hop, hg⟩ := compOper_inv hcomp
        have hcnt := count_set_lt _ _ (hnd i hr)
        have hset : listed.toList.set i true = (listed.setIfInBounds i true).toList := by simp
        unfold wpOp
        simp only [ho]
        rw [wanted_sound hg ht]
        cases hw : wantedM t mo.guard with
        | true =>
          rw [if_pos rfl]
          refine .inl (ih1 i mo hmo hr hw _ hop m w a ht hk _ _ (fun v h1 m' cv w' hQ hle hv hk1 => ?_) fun ho => ⟨a, w, hQ' _ _ _ ho⟩)
          have := ih2 i mo hmo hr hw v h1 hQ ops (listed.setIfInBounds i true) fuel hops rfl hset (by simpa using hsz) (by omega) m' w'
          rw [hdst] at this
          exact this (a.put ops[i].dst cv) ((ht.mono hle).put _ hv) (by cases ops[i].dst <;> exact hd) hk1 Q' fun e a' w' hp => hQ' e a' w' (hp.mono hle fun _ _ _ _ h => h)
        | false =>
          rw [if_neg (by simp)]
          have := ih3 i mo hmo hr hw ops (listed.setIfInBounds i true) fuel hops rfl hset (by simpa using hsz) (by omega) m w
          rw [hdst] at this
          exact this (a.put ops[i].dst undef) (ht.put _ (by simp [VR, undef])) (by cases ops[i].dst <;> exact hd) hk Q' hQ'
  | @nil t h Q hQ =>
    intro ops n hl m w a ht hd hk Q' hQ'
    have hn : ops.size - n = 0 := by
      have := (allM_spec hl).1
      simp at this
      omega
    rw [hn]
    exact hQ' _ _ _ ⟨.normal, t, h, m, rfl, ⟨rfl, hQ⟩, Emb.le.refl m, ht, hd, hk⟩
  | @cons o l t h Q Q1 hw _ _ ih1 ih2 =>
    intro ops n hl m w a ht hd hk Q' hQ'
    obtain ⟨O, hO, hcomp, hrest, hrange⟩ := drop_step hl
    obtain ⟨hdst, hop, hg⟩ := compOper_inv hcomp
    rw [hrange]
    simp only [wpOps, hO]
    rw [wanted_sound hg ht, hw, if_pos rfl]
    refine .inl (ih1 O hop m w a ht hk _ _ (fun v h1 m' cv w' hQ hle hv hk1 => ?_) fun ho => ?_)
    · rw [hdst] at ih2
      exact ih2 v h1 hQ ops (n + 1) hrest m' w' (a.put O.dst cv) ((ht.mono hle).put O.dst hv) (by cases O.dst <;> exact hd) hk1 Q' fun e a' w' hp => hQ' e a' w' (hp.mono hle fun _ _ _ _ h => h)
    · exact ⟨a, w, hQ' _ _ _ ho⟩
  | @off o l t h Q hw _ ih =>
    intro ops n hl m w a ht hd hk Q' hQ'
    obtain ⟨O, hO, hcomp, hrest, hrange⟩ := drop_step hl
    obtain ⟨hdst, hop, hg⟩ := compOper_inv hcomp
    rw [hrange]
    simp only [wpOps, hO]
    rw [wanted_sound hg ht, hw, if_neg (by simp)]
    rw [hdst] at ih
    have := ih ops (n + 1) hrest m w (a.put O.dst undef) (ht.put O.dst (by simp [VR, undef])) (by cases O.dst <;> exact hd) hk Q' hQ'
    exact this
  | @op o t h v h1 Q he hQ =>
    intro O hO m w a ht hk next Q' hnext hout
    have hO := (compOp2_inv hO).resolve_left (by rintro ⟨_, _, _, _, _, _, _, _, rfl⟩; simp [evalOp] at he)
    obtain ⟨m', w', hle, hk', hrun⟩ := hM.ops O o hO.1 hO.2.2 a m h h1 w t v ht hk he
    rcases hrun with ⟨cv, hrun, hv⟩ | ⟨hrun, rfl⟩
    · rw [Oper.wp, hrun, Oper.upon_value]
      exact hnext v h1 m' cv w' hQ hle hv hk'
    · rw [Oper.wp, hrun, Oper.upon_skip]
      exact hnext .undef h1 m' undef w' hQ hle (by simp [VR, undef]) hk'
  | @callOp f args t h g cap Q hf _ ih =>
    intro O hO m w a ht hk next Q' hnext hout
    have hO := (compOp2_inv hO).resolve_right (by simp [isCallM])
    obtain ⟨c, fo, f', args', hc, hcal, hfo, hargs, he⟩ := hO
    cases he
    have hv := compO_sound hfo ht
    rw [hf] at hv
    simp only [VR] at hv
    obtain ⟨cs, hfv, hcap⟩ := hv
    have e : (execOp a.eval O).run P w = (callFunc g (c.args.map a.eval ++ cs)).run P w := by
      simp [execOp, hc, resolve, hcal, Deferred.ofValue, hfv, invoke]
    rw [Oper.wp, e]
    refine ih m w (c.args.map a.eval ++ cs) ?_ hk O a next Q' hnext hout
    rw [Array.toList_append, Array.toList_map]
    exact (compOs_sound hargs ht).append hcap
end
end Go.Abs
