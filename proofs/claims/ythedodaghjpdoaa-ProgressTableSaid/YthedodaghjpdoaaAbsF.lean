/- More operations: numbers, strings, comparisons. -/
import Derived.Test.YthedodaghjpdoaaAbsE
set_option linter.unusedVariables false
set_option linter.unusedSimpArgs false
namespace Go.Abs
open Go.RowKit
section
variable {P : Program} {o : Oper} {a : Act} {m : Emb} {h : Heap} {base : Nat} {w0 w : World} {t : Tmps} {v : AV} {h' : Heap}

theorem ba_toList (l : List UInt8) : (⟨l.toArray⟩ : ByteArray).toList = l := by rw [ByteArray.toList_eq]
theorem ba_size (l : List UInt8) : (⟨l.toArray⟩ : ByteArray).size = l.length := by simp [ByteArray.size]
theorem ba_append (x y : List UInt8) : (⟨x.toArray⟩ : ByteArray) ++ ⟨y.toArray⟩ = ⟨(x ++ y).toArray⟩ := by
  apply ByteArray.ext
  simp
theorem ba_eq (x y : List UInt8) : ((⟨x.toArray⟩ : ByteArray) == ⟨y.toArray⟩) = (x == y) := by rw [beq_toListBytes, ba_toList, ba_toList]

theorem intBin_sound {op : BinOp} {k : IntKind} {x y : Int} (hv : intBin op k x y = some v) {ty : TypeId} :
    ∃ cv, (binOp op ty (.int k x) (.int k y)).run P w = .ok cv w ∧ VR m v cv := by
  cases op <;> simp only [intBin, Option.some.injEq, reduceCtorEq] at hv
  case quo =>
    split at hv
    · cases hv
    · rename_i h0
      cases hv
      exact ⟨.int k (k.wrap (x.tdiv y)), by simp [binOp, Op.intDiv, h0], by simp only [VR]⟩
  case rem =>
    split at hv
    · cases hv
    · rename_i h0
      cases hv
      exact ⟨.int k (x.tmod y), by simp [binOp, Op.intDiv, h0], by simp only [VR]⟩
  case add => subst hv; exact ⟨.int k (k.wrap (x + y)), by simp [binOp, Op.intArith], by simp only [VR]⟩
  case sub => subst hv; exact ⟨.int k (k.wrap (x - y)), by simp [binOp, Op.intArith], by simp only [VR]⟩
  case mul => subst hv; exact ⟨.int k (k.wrap (x * y)), by simp [binOp, Op.intArith], by simp only [VR]⟩
  case and => subst hv; exact ⟨.int k (k.wrap (BitVec.ofInt k.bits x &&& BitVec.ofInt k.bits y).toNat), by simp [binOp, Op.intBits], by simp only [VR]⟩
  case or => subst hv; exact ⟨.int k (k.wrap (BitVec.ofInt k.bits x ||| BitVec.ofInt k.bits y).toNat), by simp [binOp, Op.intBits], by simp only [VR]⟩
  case xor => subst hv; exact ⟨.int k (k.wrap (BitVec.ofInt k.bits x ^^^ BitVec.ofInt k.bits y).toNat), by simp [binOp, Op.intBits], by simp only [VR]⟩
  case andNot => subst hv; exact ⟨.int k (k.wrap (BitVec.ofInt k.bits x &&& ~~~ BitVec.ofInt k.bits y).toNat), by simp [binOp, Op.intBits], by simp only [VR]⟩
  case eql => subst hv; exact ⟨.bool (x == y), by simp [binOp, Op.intCmp], by simp only [VR]⟩
  case neq => subst hv; exact ⟨.bool (x != y), by simp [binOp, Op.intCmp], by simp only [VR]⟩
  case lss => subst hv; exact ⟨.bool (decide (x < y)), by simp [binOp, Op.intCmp], by simp only [VR]⟩
  case leq => subst hv; exact ⟨.bool (decide (x ≤ y)), by simp [binOp, Op.intCmp], by simp only [VR]⟩
  case gtr => subst hv; exact ⟨.bool (decide (x > y)), by simp [binOp, Op.intCmp], by simp only [VR]⟩
  case geq => subst hv; exact ⟨.bool (decide (x ≥ y)), by simp [binOp, Op.intCmp], by simp only [VR]⟩

theorem shift_sound {op : BinOp} {k k' : IntKind} {x y : Int} (hv : shiftOp op k x y = some v) {ty : TypeId} :
    ∃ cv, (binOp op ty (.int k x) (.int k' y)).run P w = .ok cv w ∧ VR m v cv := by
  unfold shiftOp at hv
  split at hv
  · cases hv
  · rename_i h0
    cases op <;> simp only [Option.some.injEq, reduceCtorEq] at hv
    · subst hv
      exact ⟨.int k (k.wrap (x * 2 ^ (min y.toNat k.bits))), by simp [binOp, Op.shift, h0], by simp only [VR]⟩
    · subst hv
      exact ⟨.int k (x.fdiv (2 ^ (min y.toNat k.bits))), by simp [binOp, Op.shift, h0], by simp only [VR]⟩

theorem strBin_sound {op : BinOp} {x y : List UInt8} (hv : strBin op x y = some v) {ty : TypeId} :
    ∃ cv, (binOp op ty (.string ⟨x.toArray⟩) (.string ⟨y.toArray⟩)).run P w = .ok cv w ∧ VR m v cv := by
  have e : IntKind.i64.max = 9223372036854775807 := by decide
  cases op <;> simp only [strBin, Option.some.injEq, reduceCtorEq] at hv
  case add =>
    split at hv
    · cases hv
    · rename_i h0
      cases hv
      refine ⟨.string ⟨(x ++ y).toArray⟩, ?_, by simp only [VR]⟩
      have : ¬ (((⟨x.toArray⟩ : ByteArray).size + (⟨y.toArray⟩ : ByteArray).size : Nat) : Int) > IntKind.i64.max := by
        rw [ba_size, ba_size, e]; exact h0
      simp only [binOp, Op.stringOp, ba_append]
      rw [if_neg this]
      rfl
  case eql => subst hv; exact ⟨.bool (x == y), by simp [binOp, Op.stringOp, ba_toList], by simp only [VR]⟩
  case neq => subst hv; exact ⟨.bool (!(x == y)), by simp [binOp, Op.stringOp, ba_toList], by simp only [VR]⟩
  case lss => subst hv; exact ⟨.bool (Op.bytesLess x y), by simp [binOp, Op.stringOp, ba_toList], by simp only [VR]⟩
  case leq => subst hv; exact ⟨.bool (Op.bytesLess x y || x == y), by simp [binOp, Op.stringOp, ba_toList], by simp only [VR]⟩
  case gtr => subst hv; exact ⟨.bool (!(Op.bytesLess x y || x == y)), by simp [binOp, Op.stringOp, ba_toList], by simp only [VR]⟩
  case geq => subst hv; exact ⟨.bool (!(Op.bytesLess x y)), by simp [binOp, Op.stringOp, ba_toList], by simp only [VR]⟩

theorem eqGuard_num {op : BinOp} {ty : TypeId} {x y : Operand} {u u' : Value} (hu : isCell u = true) (hn : u ≠ .nilIface) : (eqGuard op ty x y u u').run P w = .ok () w := by
  unfold eqGuard
  cases u <;> first
    | (simp [isCell] at hu; done)
    | (exact absurd rfl hn)
    | (cases op <;> rfl)

theorem sound_bin {op : BinOp} {ty ty' : TypeId} {x y : Operand} {mx my : MO} (ho : o.op = .binOp op ty x y ty') (hx : compO x = some mx) (hy : compO y = some my) (ht : TR m t a.tmps)
    (k : HR m h base w0 w) (he : evalOp t h (.bin op mx my) = some (v, h')) : OpOK P o a m h' base w0 w v := by
  have vx := compO_sound hx ht
  have vy := compO_sound hy ht
  simp only [evalOp, Option.map_eq_some_iff, Prod.mk.injEq] at he
  obtain ⟨v1, hb, rfl, rfl⟩ := he
  unfold binAV at hb
  split at hb
  · rename_i kx ax ky ay ex ey
    rw [ex] at vx
    rw [ey] at vy
    simp only [VR] at vx vy
    have hrun : ∃ cv, (binOp op ty (.int kx ax) (.int ky ay)).run P w = .ok cv w ∧ VR m v1 cv := by
      split at hb
      · exact shift_sound hb
      · exact shift_sound hb
      · split at hb
        · rename_i hk
          subst hk
          exact intBin_sound hb
        · cases hb
    obtain ⟨cv, hr, hv⟩ := hrun
    refine OpOK.same k (cv := cv) ?_ hv
    simp [execOp, ho, vx, vy, eqGuard_num (P := P) (w := w) (u := .int kx ax) rfl (by simp), hr]
  · rename_i ax ay ex ey
    rw [ex] at vx
    rw [ey] at vy
    simp only [VR] at vx vy
    obtain ⟨cv, hr, hv⟩ := strBin_sound (P := P) (m := m) (w := w) (ty := ty) hb
    refine OpOK.same k (cv := cv) ?_ hv
    simp [execOp, ho, vx, vy, eqGuard_num (P := P) (w := w) (u := .string ⟨ax.toArray⟩) rfl (by simp), hr]
  · cases hb

theorem isNegOp_spec {op : BinOp} {neg : Bool} (hn : isNegOp op = some neg) : (op = .eql ∧ neg = false) ∨ (op = .neq ∧ neg = true) := by
  cases op <;> simp_all [isNegOp]

theorem valEq_sound {kk : EqK} {x y : AV} {cx cy : Value} {r : Bool} (hx : VR m x cx) (hy : VR m y cy) (hv : valEq kk x y = some r) {ty : TypeId} (hk : eqKind P ty = some kk) :
    (Op.equal ty cx cy).run P w = .ok r w ∧ isCell cx = true ∧ cx ≠ .nilIface := by
  unfold eqKind at hk
  obtain ⟨d, hd⟩ : ∃ d, ∀ x y, Op.equal ty x y = Op.equalIn (d + 1) ty x y := ⟨9999, fun _ _ => rfl⟩
  rw [hd]
  unfold valEq at hv
  split at hv <;> (try cases hv) <;> split at hk <;> (try cases hk) <;> rename_i hu <;> simp only [VR] at hx hy
  all_goals first
    | (subst hx; subst hy; refine ⟨?_, rfl, by simp⟩; simp [Op.equalIn, run_underlying hu]; done)
    | (subst hx; obtain ⟨e, _, rfl⟩ := hy; refine ⟨?_, rfl, by simp⟩; simp [Op.equalIn, run_underlying hu]; done)
    | (subst hy; obtain ⟨e, _, rfl⟩ := hx; refine ⟨?_, rfl, by simp⟩; simp [Op.equalIn, run_underlying hu]; done)
    | (subst hx; obtain ⟨cs, rfl, _⟩ := hy; refine ⟨?_, rfl, by simp⟩; simp [Op.equalIn, run_underlying hu]; done)
    | (subst hy; obtain ⟨cs, rfl, _⟩ := hx; refine ⟨?_, rfl, by simp⟩; simp [Op.equalIn, run_underlying hu]; done)
    | (subst hx; obtain ⟨e, _, ⟨c, rfl, _⟩ | ⟨_, b, rfl⟩⟩ := hy <;> (refine ⟨?_, rfl, by simp⟩; simp [Op.equalIn, run_underlying hu]; done))
    | (subst hy; obtain ⟨e, _, ⟨c, rfl, _⟩ | ⟨_, b, rfl⟩⟩ := hx <;> (refine ⟨?_, rfl, by simp⟩; simp [Op.equalIn, run_underlying hu]; done))

theorem binOp_eq {op : BinOp} {neg : Bool} (hn : isNegOp op = some neg) {ty : TypeId} {cx cy : Value} {r : Bool} (hr : (Op.equal ty cx cy).run P w = .ok r w)
    (h1 : ∀ k n, cx ≠ .int k n) (h2 : ∀ s, cx ≠ .string s) (h3 : ∀ k n, cx ≠ .float k n) (h4 : ∀ k n i, cx ≠ .complex k n i) : (binOp op ty cx cy).run P w = .ok (.bool (r != neg)) w := by
  rcases isNegOp_spec hn with ⟨rfl, rfl⟩ | ⟨rfl, rfl⟩
  · have : binOp .eql ty cx cy = (do pure (.bool (← Op.equal ty cx cy))) := by
      cases cx <;> first | rfl | (exact absurd rfl (h1 _ _)) | (exact absurd rfl (h2 _)) | (exact absurd rfl (h3 _ _)) | (exact absurd rfl (h4 _ _ _))
    rw [this]
    simp [hr]
  · have : binOp .neq ty cx cy = (do pure (.bool (!(← Op.equal ty cx cy)))) := by
      cases cx <;> first | rfl | (exact absurd rfl (h1 _ _)) | (exact absurd rfl (h2 _)) | (exact absurd rfl (h3 _ _)) | (exact absurd rfl (h4 _ _ _))
    rw [this]
    simp [hr]

theorem sound_eqv {op : BinOp} {ty ty' : TypeId} {x y : Operand} {mx my : MO} {kk : EqK} {neg : Bool} (ho : o.op = .binOp op ty x y ty') (hk : eqKind P ty = some kk) (hn : isNegOp op = some neg) (hx : compO x = some mx) (hy : compO y = some my) (ht : TR m t a.tmps)
    (k : HR m h base w0 w) (he : evalOp t h (.eqv kk neg mx my) = some (v, h')) : OpOK P o a m h' base w0 w v := by
  have vx := compO_sound hx ht
  have vy := compO_sound hy ht
  simp only [evalOp, Option.map_eq_some_iff, Prod.mk.injEq] at he
  obtain ⟨r, hb, rfl, rfl⟩ := he
  obtain ⟨hr, hc, hni⟩ := valEq_sound (w := w) vx vy hb hk
  have hkind : (∀ k n, a.eval x ≠ .int k n) ∧ (∀ s, a.eval x ≠ .string s) ∧ (∀ k n, a.eval x ≠ .float k n) ∧ (∀ k n i, a.eval x ≠ .complex k n i) := by
    unfold valEq at hb
    split at hb <;> (try cases hb) <;> rename_i e1 e2 <;> rw [e1] at vx <;> simp only [VR] at vx
    all_goals first
      | (rw [vx]; simp; done)
      | (obtain ⟨cs, hv, _⟩ := vx; rw [hv]; simp; done)
      | (obtain ⟨e, _, hv⟩ := vx; rw [hv]; simp; done)
      | (obtain ⟨e, _, ⟨c, hv, _⟩ | ⟨_, b, hv⟩⟩ := vx <;> (rw [hv]; simp; done))
  refine OpOK.same k (cv := .bool (r != neg)) ?_ (by simp only [VR])
  simp [execOp, ho, eqGuard_num (P := P) (w := w) hc hni, binOp_eq hn hr hkind.1 hkind.2.1 hkind.2.2.1 hkind.2.2.2]
end
end Go.Abs
