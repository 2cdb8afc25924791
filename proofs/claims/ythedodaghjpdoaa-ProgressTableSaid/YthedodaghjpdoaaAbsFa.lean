/- '==' of structs. -/
import Derived.Test.YthedodaghjpdoaaAbsF
set_option linter.unusedVariables false
set_option linter.unusedSimpArgs false
namespace Go.Abs
open Go.RowKit

theorem cksEq_append : ∀ {k1 k2 : List CK} {a b : List AV} {r : Bool}, cksEq (k1 ++ k2) a b = some r → ∃ r1 r2, cksEq k1 a b = some r1 ∧ cksEq k2 (a.drop k1.length) (b.drop k1.length) = some r2 ∧ r = (r1 && r2)
  | [], k2, a, b, r, h => ⟨true, r, by simp [cksEq], by simpa using h, by simp⟩
  | k :: k1, k2, [], b, r, h => by simp [cksEq] at h
  | k :: k1, k2, a :: as, [], r, h => by simp [cksEq] at h
  | k :: k1, k2, a :: as, b :: bs, r, h => by
    simp only [List.cons_append, cksEq] at h
    split at h
    · rename_i x y hx hy
      cases h
      obtain ⟨r1, r2, h1, h2, h3⟩ := cksEq_append hy
      exact ⟨x && r1, r2, by simp [cksEq, hx, h1], by simpa using h2, by rw [h3, Bool.and_assoc]⟩
    · cases h

theorem cksEq_take : ∀ {ks : List CK} {a b : List AV}, cksEq ks (a.take ks.length) (b.take ks.length) = cksEq ks a b
  | [], a, b => by simp [cksEq]
  | k :: ks, [], b => by simp [cksEq]
  | k :: ks, a :: as, [] => by simp [cksEq]
  | k :: ks, a :: as, b :: bs => by simp [cksEq, cksEq_take (ks := ks)]

section
variable {P : Program} {m : Emb} {w : World}

theorem ck_cell {k : CK} {l1 l2 : List AV} {off : Nat} {r : Bool} (h : cksEq [k] (l1.drop off) (l2.drop off) = some r) : ∃ a b, l1[off]? = some a ∧ l2[off]? = some b ∧ ckEq k a b = some r := by
  cases h1 : l1.drop off with
  | nil => rw [h1] at h; simp [cksEq] at h
  | cons a as =>
    cases h2 : l2.drop off with
    | nil => rw [h1, h2] at h; simp [cksEq] at h
    | cons b bs =>
      rw [h1, h2] at h
      simp only [cksEq] at h
      split at h
      · rename_i x y hx hy
        cases hy
        cases h
        refine ⟨a, b, ?_, ?_, by simpa using hx⟩
        · have := congrArg (·[0]?) h1
          simpa using this
        · have := congrArg (·[0]?) h2
          simpa using this
      · cases h

theorem part_cell {ty : TypeId} {d : TypeDesc} (hu : P.underlying ty = some d) (hd : isAggD d = false) {cs : Array Value} {off : Nat} {c : Value} (hc : cs[off]? = some c) : (part ty cs off).run P w = .ok c w := by
  simp [part, isAgg_run hu, hd, hc]

theorem ck_sound : ∀ (d : Nat) {t : TypeId} {ks : List CK}, ckT P d t = some ks → ∀ {cs1 cs2 : Array Value} {l1 l2 : List AV}, VRs m l1 cs1.toList → VRs m l2 cs2.toList → ∀ {off : Nat} {r : Bool}, cksEq ks (l1.drop off) (l2.drop off) = some r →
    ∃ c1 c2, (part t cs1 off).run P w = .ok c1 w ∧ (part t cs2 off).run P w = .ok c2 w ∧ (∀ D, d ≤ D → (Op.equalIn D t c1 c2).run P w = .ok r w) ∧ ∀ fs, P.underlying t = some (.struct fs) → off = 0 → ∀ D, d ≤ D → (Op.equalIn D t (.agg cs1) (.agg cs2)).run P w = .ok r w := by
  intro d
  induction d with
  | zero => intro t ks h; simp [ckT] at h
  | succ d ih =>
    intro t ks h cs1 cs2 l1 l2 v1 v2 off r hr
    have fields : ∀ {fs : List Field} {off : Nat} {ks : List CK}, ckFs (ckT P d) off fs = some ks → ∀ {xs ys : Array Value} {a b : List AV}, VRs m a xs.toList → VRs m b ys.toList → ∀ {r : Bool}, cksEq ks (a.drop off) (b.drop off) = some r → ∀ D, d ≤ D → (Op.eqFields D xs ys fs).run P w = .ok r w := by
      intro fs
      induction fs with
      | nil =>
        intro off ks hk xs ys a b va vb r hr D hD
        simp only [ckFs, Option.some.injEq] at hk
        subst hk
        simp only [cksEq, Option.some.injEq] at hr
        subst hr
        simp [Op.eqFields]
      | cons f fs ihf =>
        intro off ks hk xs ys a b va vb r hr D hD
        simp only [ckFs] at hk
        split at hk
        · rename_i hc
          simp only [Bool.and_eq_true, bne_iff_ne, ne_eq, beq_iff_eq] at hc
          split at hk
          · rename_i k1 hk1
            simp only [Option.map_eq_some_iff] at hk
            obtain ⟨k2, hk2, rfl⟩ := hk
            obtain ⟨r1, r2, e1, e2, rfl⟩ := cksEq_append hr
            obtain ⟨c1, c2, p1, p2, pe, _⟩ := ih hk1 va vb e1
            rw [List.drop_drop, List.drop_drop] at e2
            have rest := ihf hk2 va vb e2 D hD
            simp only [Op.eqFields]
            rw [if_pos hc.1, hc.2]
            simp only [Sem.run_bind, p1, p2, pe D hD, Result.andThen_ok]
            cases r1 with
            | true => simpa using rest
            | false => simp
          · cases hk
        · cases hk
    have scal : ∀ {k : CK} {dd : TypeDesc}, P.underlying t = some dd → isAggD dd = false → cksEq [k] (l1.drop off) (l2.drop off) = some r → (∀ (a b : AV) (c1 c2 : Value), ckEq k a b = some r → VR m a c1 → VR m b c2 → ∀ D, (Op.equalIn (D + 1) t c1 c2).run P w = .ok r w) →
        ∃ c1 c2, (part t cs1 off).run P w = .ok c1 w ∧ (part t cs2 off).run P w = .ok c2 w ∧ (∀ D, d + 1 ≤ D → (Op.equalIn D t c1 c2).run P w = .ok r w) ∧ ∀ fs, P.underlying t = some (.struct fs) → off = 0 → ∀ D, d + 1 ≤ D → (Op.equalIn D t (.agg cs1) (.agg cs2)).run P w = .ok r w := by
      intro k dd hu hd hr key
      obtain ⟨a, b, g1, g2, g3⟩ := ck_cell hr
      obtain ⟨c1, e1, w1⟩ := v1.get off a g1
      obtain ⟨c2, e2, w2⟩ := v2.get off b g2
      refine ⟨c1, c2, part_cell hu hd (by simpa using e1), part_cell hu hd (by simpa using e2), fun D hD => ?_, fun fs hfs => ?_⟩
      · obtain ⟨D, rfl⟩ : ∃ D', D = D' + 1 := ⟨D - 1, by omega⟩
        exact key a b c1 c2 g3 w1 w2 D
      · rw [hu] at hfs
        cases hfs
        simp [isAggD] at hd
    simp only [ckT] at h
    split at h
    · rename_i hu
      cases h
      refine scal hu rfl hr fun a b c1 c2 hk h1 h2 D => ?_
      cases a <;> (try (simp [ckEq] at hk; done))
      cases b <;> (try (simp [ckEq] at hk; done))
      simp only [ckEq, Option.some.injEq] at hk
      simp only [VR] at h1 h2
      subst h1 h2 hk
      exact run_equalIn_bool w D t _ _ hu
    · rename_i kk hu
      cases h
      refine scal hu rfl hr fun a b c1 c2 hk h1 h2 D => ?_
      cases a <;> (try (simp [ckEq] at hk; done))
      cases b <;> (try (simp [ckEq] at hk; done))
      simp only [ckEq] at hk
      simp only [VR] at h1 h2
      split at hk
      · rename_i he
        simp only [Option.some.injEq] at hk
        subst h1 h2 he hk
        exact run_equalIn_int w D t _ _ _ _ hu
      · cases hk
    · rename_i hu
      cases h
      refine scal hu rfl hr fun a b c1 c2 hk h1 h2 D => ?_
      cases a <;> (try (simp [ckEq] at hk; done))
      cases b <;> (try (simp [ckEq] at hk; done))
      simp only [ckEq, Option.some.injEq] at hk
      simp only [VR] at h1 h2
      subst h1 h2 hk
      rw [run_equalIn_string w D t _ _ hu]
      simp [ba_toList]
    · rename_i fs hu
      split at h
      · cases h
      · rename_i hh
        rw [Option.filter_eq_some_iff] at h
        obtain ⟨h, hs⟩ := h
        simp only [beq_iff_eq] at hs
        unfold sizeT at hs
        simp only [Option.map_eq_some_iff] at hs
        obtain ⟨i, hi, hn⟩ := hs
        refine ⟨.agg (cs1.extract off (off + i.size)), .agg (cs2.extract off (off + i.size)), by simp [part, isAgg_run hu, isAggD, sizeOf_run hi], by simp [part, isAgg_run hu, isAggD, sizeOf_run hi], ?_⟩
        have hx : ∀ cs : Array Value, (cs.extract off (off + i.size)).toList = (cs.toList.drop off).take i.size := by
          intro cs
          simp [Array.toList_extract, List.extract_eq_take_drop]
        have hf : P.fieldsOf t = fs := by simp [Program.fieldsOf, hu]
        refine ⟨fun D hD => ?_, fun fs' hfs hoff D hD => ?_⟩
        · obtain ⟨D, rfl⟩ : ∃ D', D = D' + 1 := ⟨D - 1, by omega⟩
          rw [run_equalIn_struct w D t _ _ (by rw [hf]; exact hu) (by simpa using hh), hf]
          refine fields h (a := (l1.drop off).take i.size) (b := (l2.drop off).take i.size) (by rw [hx]; exact (v1.drop off).take _) (by rw [hx]; exact (v2.drop off).take _) ?_ D (by omega)
          simp only [List.drop_zero]
          rw [hn, cksEq_take]
          exact hr
        · obtain ⟨D, rfl⟩ : ∃ D', D = D' + 1 := ⟨D - 1, by omega⟩
          subst hoff
          rw [run_equalIn_struct w D t _ _ (by rw [hf]; exact hu) (by simpa using hh), hf]
          exact fields h v1 v2 (by simpa using hr) D (by omega)
    · cases h

theorem ck_guard : ∀ (d : Nat) {t : TypeId} {ks : List CK}, ckT P d t = some ks → ∀ {D : Nat}, d ≤ D → P.eqGuardType D t = false := by
  intro d
  induction d with
  | zero => intro t ks h; simp [ckT] at h
  | succ d ih =>
    intro t ks h D hD
    obtain ⟨D, rfl⟩ : ∃ D', D = D' + 1 := ⟨D - 1, by omega⟩
    have fields : ∀ {fs : List Field} {off : Nat} {ks : List CK}, ckFs (ckT P d) off fs = some ks → ∀ f ∈ fs, (f.name != "_" && P.eqGuardType D f.type) = false := by
      intro fs
      induction fs with
      | nil => intro off ks _ f hf; simp at hf
      | cons f0 fs ihf =>
        intro off ks hk f hf
        simp only [ckFs] at hk
        split at hk
        · split at hk
          · rename_i k1 hk1
            simp only [Option.map_eq_some_iff] at hk
            obtain ⟨k2, hk2, rfl⟩ := hk
            rcases List.mem_cons.1 hf with rfl | hf
            · rw [ih hk1 (by omega)]
              simp
            · exact ihf hk2 f hf
          · cases hk
        · cases hk
    simp only [ckT] at h
    unfold Program.eqGuardType
    split at h
    · rename_i hu; rw [hu]
    · rename_i hu; rw [hu]
    · rename_i hu; rw [hu]
    · rename_i fs hu
      rw [hu]
      split at h
      · cases h
      · rw [Option.filter_eq_some_iff] at h
        have hf := fields h.1
        simp only
        rw [← Array.any_toList, List.any_eq_false]
        intro f hf'
        rw [hf f hf']
        simp
    · cases h

variable {base : Nat} {w0 : World} {a : Act} {o : Oper} {t : Tmps} {h h' : Heap} {v : AV}

theorem sound_eqAgg {op : BinOp} {ty ty' : TypeId} {x y : Operand} {mx my : MO} {ks : List CK} {n : Nat} {neg : Bool} (ho : o.op = .binOp op ty x y ty') (hk : ckT P 5 ty = some ks) (hagg : aggT P ty = some (some n)) (hg : P.eqGuardType P.depth ty = false) (hn : isNegOp op = some neg) (hx : compO x = some mx) (hy : compO y = some my) (ht : TR m t a.tmps)
    (k : HR m h base w0 w) (he : evalOp t h (.eqAgg ks neg mx my) = some (v, h')) : OpOK P o a m h' base w0 w v := by
  have vx := compO_sound hx ht
  have vy := compO_sound hy ht
  simp only [evalOp] at he
  split at he
  · rename_i l1 l2 e1 e2
    simp only [Option.map_eq_some_iff, Prod.mk.injEq] at he
    obtain ⟨r, hr, rfl, rfl⟩ := he
    rw [e1] at vx
    rw [e2] at vy
    simp only [VR] at vx vy
    obtain ⟨cs1, g1, v1, hc1⟩ := vx
    obtain ⟨cs2, g2, v2, hc2⟩ := vy
    obtain ⟨d, hd⟩ : ∃ d, ∀ x y, Op.equal ty x y = Op.equalIn (d + 5) ty x y := ⟨9995, fun _ _ => rfl⟩
    obtain ⟨_, _, _, _, _, hks⟩ := ck_sound (P := P) (m := m) (w := w) 5 hk v1 v2 (off := 0) (r := r) (by simpa using hr)
    obtain ⟨fs, hfs⟩ : ∃ fs, P.underlying ty = some (.struct fs) := by
      simp only [ckT] at hk
      unfold aggT at hagg
      split at hk
      · rename_i hu; rw [hu] at hagg; split at hagg <;> (try (cases hagg; done)); rename_i hd1 hi1; cases hd1; simp [isAggD] at hagg
      · rename_i hu; rw [hu] at hagg; split at hagg <;> (try (cases hagg; done)); rename_i hd1 hi1; cases hd1; simp [isAggD] at hagg
      · rename_i hu; rw [hu] at hagg; split at hagg <;> (try (cases hagg; done)); rename_i hd1 hi1; cases hd1; simp [isAggD] at hagg
      · rename_i fs hu; exact ⟨fs, hu⟩
      · cases hk
    have heq := hks fs hfs rfl (d + 5) (by omega)
    rw [← hd] at heq
    refine OpOK.same k (cv := .bool (r != neg)) ?_ (by simp only [VR])
    have hb := binOp_eq (P := P) (w := w) hn heq (by simp) (by simp) (by simp) (by simp)
    simp [execOp, ho, g1, g2, run_eqGuard_agg w op ty x y cs1 cs2 hg, hb]
  · cases he
end
end Go.Abs
