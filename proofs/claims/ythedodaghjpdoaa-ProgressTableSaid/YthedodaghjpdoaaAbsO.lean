/- Words for proofs about the abstract machine: what a piece of code does, in one outcome. -/
import Derived.Test.YthedodaghjpdoaaAbsN
set_option linter.unusedVariables false
set_option linter.unusedSimpArgs false
namespace Go.Abs

def fnOf : List (Nat × MFunc) → Nat → Option MFunc
  | [], _ => none
  | (k, F) :: r, f => cond (Nat.beq k f) (some F) (fnOf r f)

theorem fnOf_mem : ∀ {l : List (Nat × MFunc)} {f : Nat} {F : MFunc}, fnOf l f = some F → (f, F) ∈ l
  | [], f, F, h => by simp [fnOf] at h
  | (k, G) :: r, f, F, h => by
    simp only [fnOf] at h
    cases hb : Nat.beq k f with
    | true =>
      have := Nat.eq_of_beq_eq_true hb
      subst this
      rw [hb] at h
      cases h
      exact List.mem_cons_self
    | false =>
      rw [hb] at h
      exact List.mem_cons_of_mem _ (fnOf_mem h)

/-- A model out of a table of functions, each proved to be what the compiler says. -/
theorem fits_table {P : Program} {base : Nat} {w0 : World} {out : Prop} (hm : P.follows .mixedOrders = true) (l : List (Nat × MFunc)) (hl : ∀ p ∈ l, (modelOf P noPrim).fn p.1 = some p.2) : Fits P base w0 out ⟨fnOf l, noPrim⟩ where
  mixed := hm
  fn := fun f F hF => by
    have := hl _ (fnOf_mem hF)
    simp only [modelOf, Option.bind_eq_some_iff] at this
    exact this
  prim := fun f args h Q hp => hp.elim
  ops := fun O mo hc htodo a m h h' w t v ht hk he => op_sound hc htodo ht hk he

def Does (M : Model) (f : Nat) (args : List AV) (h : Heap) (v : AV) (h' : Heap) : Prop := ∀ Q : AV → Heap → Prop, Q v h' → Runs M (.call f args Q) h
def Gets (M : Model) (c : MCode) (t : Tmps) (h : Heap) (x : MX) (t' : Tmps) (h' : Heap) : Prop := ∀ Q : MX → Tmps → Heap → Prop, Q x t' h' → Runs M (.code c t Q) h

variable {M : Model}

theorem does_of_exec {n : Nat} {f : Nat} {args : List AV} {h : Heap} {v : AV} {h' : Heap} (orc : Orc) (ps : List Prop) (hx : exec M n (.call f args) h ⟨orc, []⟩ = some (.val v h', ⟨[], ps⟩)) (hp : ∀ p ∈ ps, p) : Does M f args h v h' := fun Q hQ => call_of_exec hx hp hQ
theorem gets_of_exec {n : Nat} {c : MCode} {t t' : Tmps} {h h' : Heap} {x : MX} (orc : Orc) (ps : List Prop) (hx : exec M n (.code c t) h ⟨orc, []⟩ = some (.code x t' h', ⟨[], ps⟩)) (hp : ∀ p ∈ ps, p) : Gets M c t h x t' h' := fun Q hQ => code_of_exec hx hp hQ

theorem Gets.seq {a b : MCode} {t t1 t2 : Tmps} {h h1 h2 : Heap} {x : MX} (ha : Gets M a t h .normal t1 h1) (hb : Gets M b t1 h1 x t2 h2) : Gets M (.seq a b) t h x t2 h2 := fun Q hQ =>
  .seq (fun x t h => x = .normal ∧ t = t1 ∧ h = h1) (ha _ ⟨rfl, rfl, rfl⟩) (by rintro t' h' ⟨_, rfl, rfl⟩; exact hb Q hQ) (by rintro x t' h' hx ⟨hx', _⟩; exact absurd hx' hx)
theorem Gets.seqX {a b : MCode} {t t1 : Tmps} {h h1 : Heap} {x : MX} (hx : x ≠ .normal) (ha : Gets M a t h x t1 h1) : Gets M (.seq a b) t h x t1 h1 := fun Q hQ =>
  .seq (fun x' t h => x' = x ∧ t = t1 ∧ h = h1) (ha _ ⟨rfl, rfl, rfl⟩) (by rintro t' h' ⟨hx', _⟩; exact absurd hx'.symm hx) (by rintro x' t' h' _ ⟨rfl, rfl, rfl⟩; exact hQ)
theorem Gets.block {id : Nat} {c : MCode} {t t1 : Tmps} {h h1 : Heap} {x : MX} (hc : Gets M c t h x t1 h1) : Gets M (.block id c) t h (if x = .exit id then .normal else x) t1 h1 := fun Q hQ => .block (hc _ hQ)
theorem Gets.loop {c : MCode} {t t1 t2 : Tmps} {h h1 h2 : Heap} {x : MX} (ha : Gets M c t h .normal t1 h1) (hb : Gets M (.loop c) t1 h1 x t2 h2) : Gets M (.loop c) t h x t2 h2 := fun Q hQ =>
  .loop (fun x t h => x = .normal ∧ t = t1 ∧ h = h1) (ha _ ⟨rfl, rfl, rfl⟩) (by rintro t' h' ⟨_, rfl, rfl⟩; exact hb Q hQ) (by rintro x t' h' hx ⟨hx', _⟩; exact absurd hx' hx)
theorem Gets.loopX {c : MCode} {t t1 : Tmps} {h h1 : Heap} {x : MX} (hx : x ≠ .normal) (ha : Gets M c t h x t1 h1) : Gets M (.loop c) t h x t1 h1 := fun Q hQ =>
  .loop (fun x' t h => x' = x ∧ t = t1 ∧ h = h1) (ha _ ⟨rfl, rfl, rfl⟩) (by rintro t' h' ⟨hx', _⟩; exact absurd hx'.symm hx) (by rintro x' t' h' _ ⟨rfl, rfl, rfl⟩; exact hQ)
theorem Gets.condT {c : MO} {a b : MCode} {t t1 : Tmps} {h h1 : Heap} {x : MX} (hc : c.eval t = .bool true) (ha : Gets M a t h x t1 h1) : Gets M (.cond c a b) t h x t1 h1 := fun Q hQ => .condT hc (ha Q hQ)
theorem Gets.condF {c : MO} {a b : MCode} {t t1 : Tmps} {h h1 : Heap} {x : MX} (hc : c.eval t = .bool false) (ha : Gets M b t h x t1 h1) : Gets M (.cond c a b) t h x t1 h1 := fun Q hQ => .condF hc (ha Q hQ)
theorem Gets.call {f : Nat} {args : List AV} {F : MFunc} {h h1 : Heap} {t1 : Tmps} {x : MX} {v : AV} (hF : M.fn f = some F) (hb : Gets M F.body (args ++ List.replicate (F.ntmps - args.length) .undef) h x t1 h1) (hx : x = .normal ∨ x = .ret) (hv : Abs.results h1 t1 F.results = some v) : Does M f args h v h1 :=
  fun Q hQ => .call hF (hb _ ⟨hx, v, hv, hQ⟩)

/-! ### Heaps that have only grown -/
def Ext (h h' : Heap) : Prop := ∃ l, h' = h ++ l
theorem Ext.refl (h : Heap) : Ext h h := ⟨[], by simp⟩
theorem Ext.trans {a b c : Heap} (h : Ext a b) (k : Ext b c) : Ext a c := by
  obtain ⟨l, rfl⟩ := h
  obtain ⟨l', rfl⟩ := k
  exact ⟨l ++ l', by simp⟩
theorem Ext.push (h : Heap) (o : AObj) : Ext h (h ++ [o]) := ⟨[o], rfl⟩
theorem Ext.get {a b : Heap} (h : Ext a b) {i : Nat} {o : AObj} (hi : a[i]? = some o) : b[i]? = some o := by
  obtain ⟨l, rfl⟩ := h
  have := (List.getElem?_eq_some_iff.1 hi).1
  rw [List.getElem?_append_left this, hi]
theorem Ext.rd {a b : Heap} (h : Ext a b) {i o n : Nat} {l : List AV} (hi : rdCells a i o n = some l) : rdCells b i o n = some l := by
  unfold rdCells at hi ⊢
  split at hi
  · rename_i c es ro hc
    rw [h.get hc]
    exact hi
  · cases hi
theorem Ext.rdVar {a b : Heap} (h : Ext a b) {agg : Option Nat} {i o : Nat} {v : AV} (hi : Abs.rdVar a agg i o = some v) : Abs.rdVar b agg i o = some v := by
  unfold Abs.rdVar at hi ⊢
  split at hi
  · simp only [Option.bind_eq_some_iff] at hi ⊢
    obtain ⟨l, h1, h2⟩ := hi
    exact ⟨l, h.rd h1, h2⟩
  · simp only [Option.map_eq_some_iff] at hi ⊢
    obtain ⟨l, h1, h2⟩ := hi
    exact ⟨l, h.rd h1, h2⟩

/-- What is asked of a load that a token tells. -/
def LD (h : Heap) (agg : Option Nat) (b o : Nat) (v : AV) : Prop := ((Abs.rdVar h agg b o).map fun v => (v, h)) = some (v, h)
theorem LD.of {h : Heap} {agg : Option Nat} {b o : Nat} {v : AV} (hr : Abs.rdVar h agg b o = some v) : LD h agg b o v := by simp [LD, hr]
end Go.Abs
