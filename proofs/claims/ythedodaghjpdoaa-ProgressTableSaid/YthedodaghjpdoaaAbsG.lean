/- More operations: conversions, slices, lengths, iterators. -/
import Derived.Test.YthedodaghjpdoaaAbsF
import Derived.Laws.Build
set_option linter.unusedVariables false
set_option linter.unusedSimpArgs false
namespace Go.Abs
open Go.RowKit
section
variable {P : Program} {o : Oper} {a : Act} {m : Emb} {h : Heap} {base : Nat} {w0 w : World} {t : Tmps} {v : AV} {h' : Heap}

theorem size_ba (l : List UInt8) : (⟨l.toArray⟩ : ByteArray).size = l.length := by simp [ByteArray.size]

theorem sound_un {op : UnOp} {ty : TypeId} {x : Operand} {mx : MO} (ho : o.op = .unOp op ty x) (hx : compO x = some mx) (ht : TR m t a.tmps)
    (k : HR m h base w0 w) (he : evalOp t h (.un op mx) = some (v, h')) : OpOK P o a m h' base w0 w v := by
  have vx := compO_sound hx ht
  simp only [evalOp, Option.map_eq_some_iff, Prod.mk.injEq] at he
  obtain ⟨v1, hb, rfl, rfl⟩ := he
  unfold unAV at hb
  split at hb
  · rename_i kk n ex
    cases hb
    rw [ex] at vx
    simp only [VR] at vx
    exact OpOK.same k (cv := .int kk (kk.wrap (0 - n))) (by simp [execOp, ho, vx, Op.unary, Op.intArith]) (by simp only [VR])
  · rename_i kk n ex
    cases hb
    rw [ex] at vx
    simp only [VR] at vx
    exact OpOK.same k (cv := .int kk (kk.wrap (BitVec.ofInt kk.bits (if kk.signed then -1 else kk.max) ^^^ BitVec.ofInt kk.bits n).toNat)) (by simp [execOp, ho, vx, Op.unary, Op.intBits]) (by simp only [VR])
  · rename_i b ex
    cases hb
    rw [ex] at vx
    simp only [VR] at vx
    exact OpOK.same k (cv := .bool (!b)) (by simp [execOp, ho, vx, Op.unary]) (by simp only [VR])
  · cases hb

theorem sound_convInt {src dst : TypeId} {x : Operand} {mx : MO} {d : TypeDesc} {kk : IntKind} (ho : o.op = .convert src dst x) (hs : P.underlying src = some d) (hd : P.underlying dst = some (.int kk)) (hx : compO x = some mx) (ht : TR m t a.tmps)
    (k : HR m h base w0 w) (he : evalOp t h (.convInt kk mx) = some (v, h')) : OpOK P o a m h' base w0 w v := by
  have vx := compO_sound hx ht
  simp only [evalOp] at he
  split at he
  · rename_i k' n ex
    cases he
    rw [ex] at vx
    simp only [VR] at vx
    exact OpOK.same k (cv := .int kk (kk.wrap n)) (by simp [execOp, ho, vx, convert, run_underlying hs, run_underlying hd, Conv.intToInt]) (by simp only [VR])
  · cases he

theorem sound_convStr {src dst : TypeId} {x : Operand} {mx : MO} (ho : o.op = .convert src dst x) (hs : P.underlying src = some .string) (hd : P.underlying dst = some .string) (hx : compO x = some mx) (ht : TR m t a.tmps)
    (k : HR m h base w0 w) (he : evalOp t h (.convStr mx) = some (v, h')) : OpOK P o a m h' base w0 w v := by
  have vx := compO_sound hx ht
  simp only [evalOp] at he
  split at he
  · rename_i s ex
    cases he
    rw [ex] at vx
    simp only [VR] at vx
    exact OpOK.same k (cv := .string ⟨s.toArray⟩) (by simp [execOp, ho, vx, convert, run_underlying hs, run_underlying hd]) (by simp only [VR])
  · cases he

theorem sound_mkIface {ty : TypeId} {x : Operand} {mx : MO} (ho : o.op = .makeInterface ty x) (hc : P.concrete ty = true) (hx : compO x = some mx) (ht : TR m t a.tmps)
    (k : HR m h base w0 w) (he : evalOp t h (.mkIface ty mx) = some (v, h')) : OpOK P o a m h' base w0 w v := by
  have vx := compO_sound hx ht
  simp only [evalOp, Option.some.injEq, Prod.mk.injEq] at he
  obtain ⟨rfl, rfl⟩ := he
  refine OpOK.same k (cv := .iface ty (a.eval x)) ?_ (by simp only [VR]; exact ⟨_, rfl, vx⟩)
  simp [execOp, ho, run_makeInterface w ty _ hc]

theorem sound_mkFn {f : FuncId} {first cap : Array Operand} {mcap : List MO} (ho : o.op = .makeFunc (.func f) first cap) (hf : first.size = 0) (hx : compOs cap.toList = some mcap) (ht : TR m t a.tmps)
    (k : HR m h base w0 w) (he : evalOp t h (.mkFn f mcap) = some (v, h')) : OpOK P o a m h' base w0 w v := by
  have vx := compOs_sound hx ht
  simp only [evalOp, Option.some.injEq, Prod.mk.injEq] at he
  obtain ⟨rfl, rfl⟩ := he
  obtain rfl : first = #[] := Array.eq_empty_of_size_eq_zero hf
  refine OpOK.same k (cv := .func (.func f) #[] (cap.map a.eval)) ?_ (by simp only [VR]; exact ⟨_, rfl, by simpa using vx⟩)
  simp [execOp, ho, Instr.makeFunc]

theorem isNilConst_spec {z : Operand} (hz : isNilConst z = true) : z = .const .nilIface := by
  unfold isNilConst at hz
  split at hz
  · rfl
  · cases hz

theorem eqNil_run {op : BinOp} {neg : Bool} {ty : TypeId} {ms : Array (String × TypeId)} (hu : P.underlying ty = some (.interface ms)) (hn : isNegOp op = some neg) (x y : Operand) (hc : isNilConst x = true ∨ isNilConst y = true) (u u' : Value) (r : Bool)
    (hcase : (u = .nilIface ∧ u' = .nilIface ∧ r = true) ∨ (∃ T q, u = .iface T q ∧ u' = .nilIface ∧ r = false) ∨ (∃ T q, u = .nilIface ∧ u' = .iface T q ∧ r = false)) :
    (do eqGuard op ty x y u u'; binOp op ty u u' : Sem Value).run P w = .ok (.bool (r != neg)) w := by
  obtain ⟨d, hd⟩ : ∃ d, ∀ x y, Op.equal ty x y = Op.equalIn (d + 1) ty x y := ⟨9999, fun _ _ => rfl⟩
  have hg : (eqGuard op ty x y u u').run P w = .ok () w := by
    rcases hcase with ⟨rfl, rfl, rfl⟩ | ⟨T, q, rfl, rfl, rfl⟩ | ⟨T, q, rfl, rfl, rfl⟩
    · rcases hc with h1 | h1 <;> (obtain rfl := isNilConst_spec h1; cases op <;> simp [eqGuard])
    · cases op <;> simp [eqGuard]
    · cases op <;> simp [eqGuard]
  have hq : (Op.equal ty u u').run P w = .ok r w := by
    rw [hd]
    rcases hcase with ⟨rfl, rfl, rfl⟩ | ⟨T, q, rfl, rfl, rfl⟩ | ⟨T, q, rfl, rfl, rfl⟩ <;> simp [Op.equalIn, run_underlying hu]
  have hb : (binOp op ty u u').run P w = .ok (.bool (r != neg)) w := by
    rcases hcase with ⟨rfl, rfl, rfl⟩ | ⟨T, q, rfl, rfl, rfl⟩ | ⟨T, q, rfl, rfl, rfl⟩ <;>
      exact binOp_eq hn hq (fun _ _ => by simp) (fun _ => by simp) (fun _ _ => by simp) (fun _ _ _ => by simp)
  simp [hg, hb]

theorem sound_isNil {op : BinOp} {neg : Bool} {ty ty' : TypeId} {x y : Operand} {mx : MO} (ho : o.op = .binOp op ty x y ty') (hi : isIfaceT P ty = true) (hn : isNegOp op = some neg)
    (hx : (isNilConst y = true ∧ compO x = some mx) ∨ (isNilConst x = true ∧ compO y = some mx)) (ht : TR m t a.tmps)
    (k : HR m h base w0 w) (he : evalOp t h (.isNil neg mx) = some (v, h')) : OpOK P o a m h' base w0 w v := by
  obtain ⟨ms, hu⟩ : ∃ ms, P.underlying ty = some (.interface ms) := by
    unfold isIfaceT at hi
    split at hi
    · exact ⟨_, by assumption⟩
    · cases hi
  have hc : isNilConst x = true ∨ isNilConst y = true := by
    rcases hx with ⟨h1, _⟩ | ⟨h1, _⟩
    · exact .inr h1
    · exact .inl h1
  have fin : ∀ r : Bool, ((a.eval x = .nilIface ∧ a.eval y = .nilIface ∧ r = true) ∨ (∃ T q, a.eval x = .iface T q ∧ a.eval y = .nilIface ∧ r = false) ∨ (∃ T q, a.eval x = .nilIface ∧ a.eval y = .iface T q ∧ r = false)) → OpOK P o a m h base w0 w (.bool (r != neg)) := by
    intro r hr
    refine OpOK.same k (cv := .bool (r != neg)) ?_ (by simp only [VR])
    have := eqNil_run (w := w) hu hn x y hc _ _ r hr
    simp only [execOp, ho]
    rw [Sem.run_bind, this]
    rfl
  simp only [evalOp] at he
  rcases hx with ⟨hnc, hcx⟩ | ⟨hnc, hcx⟩ <;> have vx := compO_sound hcx ht <;> have hz := isNilConst_spec hnc <;> split at he
  · rename_i ex
    cases he
    rw [ex] at vx
    simp only [VR] at vx
    have := fin true (.inl ⟨vx, by rw [hz]; rfl, rfl⟩)
    simpa using this
  · rename_i T z ex
    cases he
    rw [ex] at vx
    simp only [VR] at vx
    obtain ⟨q, vx, _⟩ := vx
    have := fin false (.inr (.inl ⟨T, q, vx, by rw [hz]; rfl, rfl⟩))
    simpa using this
  · cases he
  · rename_i ex
    cases he
    rw [ex] at vx
    simp only [VR] at vx
    have := fin true (.inl ⟨by rw [hz]; rfl, vx, rfl⟩)
    simpa using this
  · rename_i T z ex
    cases he
    rw [ex] at vx
    simp only [VR] at vx
    obtain ⟨q, vx, _⟩ := vx
    have := fin false (.inr (.inr ⟨T, q, by rw [hz]; rfl, vx, rfl⟩))
    simpa using this
  · cases he

/-! ### Slices of strings and rows -/
theorem compOpt_sound {x : Option Operand} {mx : Option MO} (hx : compOpt x = some mx) (ht : TR m t a.tmps) : (x = none ∧ mx = none) ∨ ∃ y my, x = some y ∧ mx = some my ∧ VR m (my.eval t) (a.eval y) := by
  cases x with
  | none => simp [compOpt] at hx; exact .inl ⟨rfl, hx.symm⟩
  | some y =>
    simp only [compOpt, Option.map_eq_some_iff] at hx
    obtain ⟨my, hy, rfl⟩ := hx
    exact .inr ⟨y, my, rfl, rfl, compO_sound hy ht⟩

theorem boundOf_sound {x : Option Operand} {mx : Option MO} (hx : compOpt x = some mx) (ht : TR m t a.tmps) {d n cap r : Nat} (hc : n ≤ cap) (hb : boundOf d n (mx.map (·.eval t)) = some r) :
    (x.map a.eval = none ∧ r = d) ∨ (∃ u, x.map a.eval = some u ∧ r ≤ n ∧ ∀ code, (Instr.sliceBound u cap code).run P w = .ok r w) := by
  rcases compOpt_sound hx ht with ⟨rfl, rfl⟩ | ⟨y, my, rfl, rfl, hv⟩
  · simp [boundOf] at hb
    exact .inl ⟨rfl, hb.symm⟩
  · refine .inr ⟨_, rfl, ?_⟩
    simp only [Option.map_some, boundOf] at hb
    split at hb
    · cases ‹some _ = none›
    · rename_i kk i hm
      injection hm with hm
      rw [hm] at hv
      simp only [VR] at hv
      split at hb
      · rename_i hi
        injection hb with hb
        subst hb
        refine ⟨by omega, fun code => ?_⟩
        rw [hv]
        have : 0 ≤ i ∧ i ≤ (cap : Int) := by omega
        simp [Instr.sliceBound, asIntOf, this]
      · cases hb
    · cases hb

theorem bounds_sound {lo hi : Option Operand} {mlo mhi : Option MO} (hlo : compOpt lo = some mlo) (hhi : compOpt hi = some mhi) (ht : TR m t a.tmps) {n cap : Nat} (hc : n ≤ cap) {l e : Nat}
    (hb : bounds n (mlo.map (·.eval t)) (mhi.map (·.eval t)) = some (l, e)) (isSlice : Bool) :
    (Instr.sliceBounds isSlice n cap (lo.map a.eval) (hi.map a.eval) none).run P w = .ok (l, e, cap) w ∧ l ≤ e ∧ e ≤ n := by
  unfold bounds at hb
  split at hb
  · cases hb
  · rename_i E hE
    split at hb
    · cases hb
    · rename_i L hL
      cases hb
      have h1 := boundOf_sound (P := P) (w := w) hhi ht hc hE
      have h2 := boundOf_sound (P := P) (w := w) hlo ht (Nat.le_refl _) hL
      unfold Instr.sliceBounds
      rcases h1 with ⟨e1, rfl⟩ | ⟨u1, e1, le1, r1⟩ <;> rcases h2 with ⟨e2, rfl⟩ | ⟨u2, e2, le2, r2⟩
      · exact ⟨by simp [e1, e2], by omega, by omega⟩
      · exact ⟨by simp [e1, e2, r2], by omega, by omega⟩
      · exact ⟨by simp [e1, e2, r1], by omega, by omega⟩
      · exact ⟨by simp [e1, e2, r1, r2], by omega, by omega⟩

theorem ba_extract (s : List UInt8) (l e : Nat) : (⟨s.toArray⟩ : ByteArray).extract l e = ⟨((s.drop l).take (e - l)).toArray⟩ := by
  apply ByteArray.ext
  simp [ByteArray.data_extract]

theorem sound_sliceStr {ty : TypeId} {x : Operand} {lo hi : Option Operand} {mx : MO} {mlo mhi : Option MO} (ho : o.op = .slice ty x lo hi none) (hu : P.underlying ty = some .string) (hx : compO x = some mx) (hlo : compOpt lo = some mlo) (hhi : compOpt hi = some mhi) (ht : TR m t a.tmps)
    (k : HR m h base w0 w) (he : evalOp t h (.sliceStr mx mlo mhi) = some (v, h')) : OpOK P o a m h' base w0 w v := by
  have vx := compO_sound hx ht
  simp only [evalOp] at he
  split at he
  · rename_i s ex
    simp only [Option.map_eq_some_iff, Prod.mk.injEq] at he
    obtain ⟨⟨l, e⟩, hb, rfl, rfl⟩ := he
    rw [ex] at vx
    simp only [VR] at vx
    obtain ⟨hr, _, _⟩ := bounds_sound (P := P) (w := w) hlo hhi ht (Nat.le_refl _) hb false
    refine OpOK.same k (cv := .string ⟨((s.drop l).take (e - l)).toArray⟩) ?_ (by simp only [VR])
    simp only [execOp, ho, Instr.sliceAt, Instr.slice, Sem.run_bind, run_underlying hu, Result.andThen_ok, vx, Option.map_none, Option.isSome_none, Bool.false_eq_true, if_false, size_ba, hr, ba_extract, Sem.run_pure]
  · cases he

theorem sound_sliceSlc {ty e0 : TypeId} {s : Nat} {x : Operand} {lo hi : Option Operand} {mx : MO} {mlo mhi : Option MO} (ho : o.op = .slice ty x lo hi none) (hu : P.underlying ty = some (.slice e0)) (hs : sizeT P e0 = some s) (hx : compO x = some mx) (hlo : compOpt lo = some mlo) (hhi : compOpt hi = some mhi) (ht : TR m t a.tmps)
    (k : HR m h base w0 w) (he : evalOp t h (.sliceSlc s mx mlo mhi) = some (v, h')) : OpOK P o a m h' base w0 w v := by
  have vx := compO_sound hx ht
  simp only [sizeT, Option.map_eq_some_iff] at hs
  obtain ⟨ti, hti, rfl⟩ := hs
  simp only [evalOp] at he
  split at he
  · rename_i b off n ex
    split at he
    · rename_i es ro c hb0
      split at he
      · rename_i hes
        simp only [Option.map_eq_some_iff, Prod.mk.injEq] at he
        obtain ⟨⟨l, e⟩, hb, rfl, rfl⟩ := he
        rw [ex] at vx
        simp only [VR] at vx
        obtain ⟨ent, hm, hp⟩ := vx
        obtain ⟨e', he', hes', _⟩ := k.arr hb0
        rw [hm] at he'
        cases he'
        rcases hp with ⟨cap, hp, hle, hbnd⟩ | ⟨hn0, ad, hp⟩
        · obtain ⟨hr, h1, h2⟩ := bounds_sound (P := P) (w := w) hlo hhi ht hle hb true
          refine OpOK.same k (cv := .slice (some (if cap = l then ⟨ent.g, ent.off + off, none⟩ else ⟨ent.g, ent.off + off + l * ti.size, none⟩)) (e - l) (cap - l)) ?_ ?_
          · simp only [execOp, ho, Instr.sliceAt, Instr.slice, Sem.run_bind, run_underlying hu, Result.andThen_ok, hp, Option.map_none, hr, sizeOf_run hti, Sem.run_pure, Option.map_some, add_at]
            split <;> simp [*]
          · simp only [VR]
            refine ⟨ent, hm, ?_⟩
            by_cases hcl : cap = l
            · rw [if_pos hcl]
              refine .inr ⟨by omega, ⟨ent.g, ent.off + off, none⟩, ?_⟩
              rw [show e - l = 0 by omega, show cap - l = 0 by omega]
            · rw [if_neg hcl]
              refine .inl ⟨cap - l, by rw [Nat.add_assoc], by omega, ?_⟩
              rw [hes', hes] at hbnd ⊢
              rw [Nat.sub_mul]
              have : l * ti.size ≤ cap * ti.size := Nat.mul_le_mul_right _ (by omega)
              omega
        · subst hn0
          obtain ⟨hr, h1, h2⟩ := bounds_sound (P := P) (w := w) hlo hhi ht (Nat.le_refl 0) hb true
          obtain rfl : l = 0 := by omega
          obtain rfl : e = 0 := by omega
          refine OpOK.same k (cv := .slice (some ad) 0 0) ?_ ?_
          · simp [execOp, ho, Instr.sliceAt, Instr.slice, run_underlying hu, hp, hr, sizeOf_run hti]
          · simp only [VR]
            exact ⟨ent, hm, .inr (by simp)⟩
      · cases he
    · cases he
  · rename_i ex
    simp only [Option.map_eq_some_iff, Prod.mk.injEq] at he
    obtain ⟨⟨l, e⟩, hb, rfl, rfl⟩ := he
    rw [ex] at vx
    simp only [VR] at vx
    obtain ⟨hr, h1, h2⟩ := bounds_sound (P := P) (w := w) hlo hhi ht (Nat.le_refl 0) hb true
    obtain rfl : l = 0 := by omega
    obtain rfl : e = 0 := by omega
    refine OpOK.same k (cv := .slice none 0 0) ?_ (by simp only [VR])
    simp [execOp, ho, Instr.sliceAt, Instr.slice, run_underlying hu, vx, hr, sizeOf_run hti]
  · cases he
end
end Go.Abs
