/- What an abstract value, an abstract object and an abstract heap say of the machine's. -/
import Derived.Test.YthedodaghjpdoaaAbsA
import Derived.Calls
import Derived.Below
import Derived.Laws.World
set_option linter.unusedVariables false
namespace Go.Abs
open Go.RowKit

/-- Where an object lies: its block, the place of its first cell, the block's size, the cells of an element. -/
structure Ent where
  g : Nat
  off : Nat
  sz : Nat
  es : Nat

abbrev Emb := Nat → Option Ent

def Emb.le (m m' : Emb) : Prop := ∀ b e, m b = some e → m' b = some e
theorem Emb.le.refl (m : Emb) : m.le m := fun _ _ h => h
theorem Emb.le.trans {a b c : Emb} (h : a.le b) (k : b.le c) : a.le c := fun x e hx => k x e (h x e hx)
def Emb.upd (m : Emb) (b : Nat) (e : Ent) : Emb := fun x => if x = b then some e else m x
theorem Emb.upd_same (m : Emb) (b : Nat) (e : Ent) : (m.upd b e) b = some e := by simp [Emb.upd]
theorem Emb.upd_ne (m : Emb) {b x : Nat} (e : Ent) (h : x ≠ b) : (m.upd b e) x = m x := by simp [Emb.upd, h]
theorem Emb.le_upd {m : Emb} {b : Nat} {e : Ent} (h : m b = none) : m.le (m.upd b e) := fun x f hx => by
  by_cases hxb : x = b
  · subst hxb; rw [h] at hx; cases hx
  · rw [Emb.upd_ne _ _ hxb]; exact hx

def isCell : Value → Bool
  | .agg _ => false
  | .tuple _ => false
  | _ => true

mutual
def VR (m : Emb) : AV → Value → Prop
  | .undef, v => v = .tuple #[]
  | .bool b, v => v = .bool b
  | .int k n, v => v = .int k n
  | .str s, v => v = .string ⟨s.toArray⟩
  | .ptr b o, v => ∃ e, m b = some e ∧ v = .pointer (some ⟨e.g, e.off + o, none⟩)
  | .nilptr, v => v = .pointer none
  | .slice b o n, v => ∃ e, m b = some e ∧ ((∃ c, v = .slice (some ⟨e.g, e.off + o, none⟩) n c ∧ n ≤ c ∧ e.off + o + c * e.es ≤ e.sz) ∨ (n = 0 ∧ ∃ a, v = .slice (some a) 0 0))
  | .nilslice, v => v = .slice none 0 0
  | .map r, v => ∃ e, m r = some e ∧ v = .map (some e.g)
  | .nilmap, v => v = .map none
  | .fn f cap, v => ∃ cs, v = .func (.func f) #[] cs ∧ VRs m cap cs.toList
  | .nilfn, v => v = .nilFunc
  | .iface t x, v => ∃ y, v = .iface t y ∧ VR m x y
  | .niliface, v => v = .nilIface
  | .agg l, v => ∃ cs, v = .agg cs ∧ VRs m l cs.toList ∧ ∀ c ∈ cs.toList, isCell c = true
  | .tuple l, v => ∃ cs, v = .tuple cs ∧ VRs m l cs.toList
def VRs (m : Emb) : List AV → List Value → Prop
  | [], l => l = []
  | a :: as, l => ∃ c cs, l = c :: cs ∧ VR m a c ∧ VRs m as cs
end

mutual
theorem VR.mono {m m' : Emb} (h : m.le m') : ∀ (a : AV) (v : Value), VR m a v → VR m' a v
  | .undef, v, hv => hv
  | .bool b, v, hv => hv
  | .int k n, v, hv => hv
  | .str s, v, hv => hv
  | .ptr b o, v, hv => by
    simp only [VR] at hv ⊢
    obtain ⟨e, he, hv⟩ := hv
    exact ⟨e, h _ _ he, hv⟩
  | .nilptr, v, hv => hv
  | .slice b o n, v, hv => by
    simp only [VR] at hv ⊢
    obtain ⟨e, he, hv⟩ := hv
    exact ⟨e, h _ _ he, hv⟩
  | .nilslice, v, hv => hv
  | .map r, v, hv => by
    simp only [VR] at hv ⊢
    obtain ⟨e, he, hv⟩ := hv
    exact ⟨e, h _ _ he, hv⟩
  | .nilmap, v, hv => hv
  | .fn f cap, v, hv => by
    simp only [VR] at hv ⊢
    obtain ⟨cs, hv, hc⟩ := hv
    exact ⟨cs, hv, VRs.mono h _ _ hc⟩
  | .nilfn, v, hv => hv
  | .iface t x, v, hv => by
    simp only [VR] at hv ⊢
    obtain ⟨y, hv, hy⟩ := hv
    exact ⟨y, hv, VR.mono h _ _ hy⟩
  | .niliface, v, hv => hv
  | .agg l, v, hv => by
    simp only [VR] at hv ⊢
    obtain ⟨cs, hv, hc, hk⟩ := hv
    exact ⟨cs, hv, VRs.mono h _ _ hc, hk⟩
  | .tuple l, v, hv => by
    simp only [VR] at hv ⊢
    obtain ⟨cs, hv, hc⟩ := hv
    exact ⟨cs, hv, VRs.mono h _ _ hc⟩
theorem VRs.mono {m m' : Emb} (h : m.le m') : ∀ (as : List AV) (vs : List Value), VRs m as vs → VRs m' as vs
  | [], vs, hv => hv
  | a :: as, vs, hv => by
    simp only [VRs] at hv ⊢
    obtain ⟨c, cs, hl, hc, hcs⟩ := hv
    exact ⟨c, cs, hl, VR.mono h _ _ hc, VRs.mono h _ _ hcs⟩
end

theorem VRs.length {m : Emb} : ∀ {as : List AV} {vs : List Value}, VRs m as vs → vs.length = as.length
  | [], vs, h => by simp only [VRs] at h; subst h; rfl
  | a :: as, vs, h => by
    simp only [VRs] at h
    obtain ⟨c, cs, rfl, _, h⟩ := h
    simp [VRs.length h]
theorem VRs.get {m : Emb} : ∀ {as : List AV} {vs : List Value}, VRs m as vs → ∀ (i : Nat) (a : AV), as[i]? = some a → ∃ v, vs[i]? = some v ∧ VR m a v
  | [], vs, h, i, a, ha => by simp at ha
  | x :: as, vs, h, i, a, ha => by
    simp only [VRs] at h
    obtain ⟨c, cs, rfl, hc, h⟩ := h
    cases i with
    | zero => simp at ha; subst ha; exact ⟨c, by simp, hc⟩
    | succ i => simpa using VRs.get h i a (by simpa using ha)
theorem VRs.of_get {m : Emb} : ∀ {as : List AV} {vs : List Value}, vs.length = as.length → (∀ (i : Nat) (a : AV), as[i]? = some a → ∃ v, vs[i]? = some v ∧ VR m a v) → VRs m as vs
  | [], vs, hl, h => by simp only [VRs]; exact List.eq_nil_of_length_eq_zero (by simpa using hl)
  | x :: as, vs, hl, h => by
    cases vs with
    | nil => simp at hl
    | cons c cs =>
      simp only [VRs]
      obtain ⟨v, hv, hx⟩ := h 0 x (by simp)
      simp at hv; subst hv
      exact ⟨c, cs, rfl, hx, VRs.of_get (by simpa using hl) fun i a ha => by simpa using h (i + 1) a (by simpa using ha)⟩
theorem VRs.append {m : Emb} : ∀ {as bs : List AV} {vs ws : List Value}, VRs m as vs → VRs m bs ws → VRs m (as ++ bs) (vs ++ ws)
  | [], bs, vs, ws, h, k => by simp only [VRs] at h; subst h; exact k
  | a :: as, bs, vs, ws, h, k => by
    simp only [VRs] at h
    obtain ⟨c, cs, rfl, hc, h⟩ := h
    simp only [List.cons_append, VRs]
    exact ⟨c, cs ++ ws, rfl, hc, VRs.append h k⟩
theorem VRs.take {m : Emb} {as : List AV} {vs : List Value} (h : VRs m as vs) (n : Nat) : VRs m (as.take n) (vs.take n) := by
  refine VRs.of_get (by simp [h.length]) fun i a ha => ?_
  rw [List.getElem?_take] at ha ⊢
  split at ha
  · rename_i hi
    rw [if_pos hi]
    exact h.get i a ha
  · cases ha
theorem VRs.drop {m : Emb} {as : List AV} {vs : List Value} (h : VRs m as vs) (n : Nat) : VRs m (as.drop n) (vs.drop n) := by
  refine VRs.of_get (by simp [h.length]) fun i a ha => ?_
  rw [List.getElem?_drop] at ha ⊢
  exact h.get _ a ha

/-! ### Objects and heaps -/
def AObj.rw : AObj → Bool
  | .arr _ _ ro => !ro
  | .map _ => true
  | .iter _ _ => true
  | .dead => false

def MapR (m : Emb) : List (AV × AV) → List MapEntry → Prop
  | [], l => l = []
  | x :: r, l => ∃ e es, l = e :: es ∧ VR m x.1 e.key ∧ VR m x.2 e.val ∧ MapR m r es

theorem MapR.mono {m m' : Emb} (h : m.le m') : ∀ (l : List (AV × AV)) (es : List MapEntry), MapR m l es → MapR m' l es
  | [], es, k => k
  | x :: r, es, k => by
    simp only [MapR] at k ⊢
    obtain ⟨e, es', hl, h1, h2, h3⟩ := k
    exact ⟨e, es', hl, VR.mono h _ _ h1, VR.mono h _ _ h2, MapR.mono h _ _ h3⟩

def ORel (m : Emb) (base : Nat) (b : Nat) (w : World) : AObj → Prop
  | .dead => True
  | .arr c es ro => ∃ e, m b = some e ∧ e.es = es ∧ ∃ cc t fr, w.heap[e.g]? = some (.cells cc t fr) ∧ cc.size = e.sz ∧ e.off + c.length ≤ e.sz ∧
      (∀ (i : Nat) (v : AV), c[i]? = some v → ∃ cv, cc[e.off + i]? = some cv ∧ VR m v cv ∧ isCell cv = true) ∧ (ro = false → fr = (0, 0) ∧ base ≤ e.g) ∧ (ro = true → e.g < base)
  | .map es => ∃ e, m b = some e ∧ base ≤ e.g ∧ ∃ ents clock, w.heap[e.g]? = some (.map ents clock) ∧ MapR m es ents.toList
  | .iter s pos => ∃ e, m b = some e ∧ base ≤ e.g ∧ w.heap[e.g]? = some (.stringIter ⟨s.toArray⟩ pos) ∧ e.off = 0

theorem ORel.mono {m m' : Emb} (h : m.le m') {base b : Nat} {w w' : World} {o : AObj} (k : ORel m base b w o)
    (hw : ∀ e, m b = some e → w'.heap[e.g]? = w.heap[e.g]?) : ORel m' base b w' o := by
  cases o with
  | dead => trivial
  | arr c es ro =>
    obtain ⟨e, he, h0, cc, t, fr, h1, h2, h3, h4, h5⟩ := k
    exact ⟨e, h _ _ he, h0, cc, t, fr, (hw e he).trans h1, h2, h3, fun i v hi => let ⟨cv, a, b, c⟩ := h4 i v hi; ⟨cv, a, VR.mono h _ _ b, c⟩, h5⟩
  | map es =>
    obtain ⟨e, he, h0, ents, clock, h1, h2⟩ := k
    exact ⟨e, h _ _ he, h0, ents, clock, (hw e he).trans h1, MapR.mono h _ _ h2⟩
  | iter s pos =>
    obtain ⟨e, he, h0, h1, h2⟩ := k
    exact ⟨e, h _ _ he, h0, (hw e he).trans h1, h2⟩

structure HR (m : Emb) (h : Heap) (base : Nat) (w0 w : World) : Prop where
  below : Below base w0 w
  size : base ≤ w.heap.size
  obj : ∀ (b : Nat) (o : AObj), h[b]? = some o → ORel m base b w o
  lt : ∀ (b : Nat) (e : Ent), m b = some e → e.g < w.heap.size ∧ b < h.length
  uniq : ∀ (b1 b2 : Nat) (o1 o2 : AObj) (e1 e2 : Ent), h[b1]? = some o1 → h[b2]? = some o2 → o1.rw = true → o2.rw = true → m b1 = some e1 → m b2 = some e2 → b1 ≠ b2 → e1.g ≠ e2.g

theorem HR.drewN {m : Emb} {h : Heap} {base : Nat} {w0 w : World} (k : HR m h base w0 w) : HR m h base w0 w.drew :=
  ⟨k.below.drew, k.size, fun b o ho => (k.obj b o ho).mono (Emb.le.refl m) (fun _ _ => rfl), k.lt, k.uniq⟩

theorem HR.none_of_len {m : Emb} {h : Heap} {base : Nat} {w0 w : World} (k : HR m h base w0 w) : m h.length = none := by
  cases hm : m h.length with
  | none => rfl
  | some e => exact absurd (k.lt _ _ hm).2 (Nat.lt_irrefl _)

/-- A new object in a new block. -/
theorem HR.push {m : Emb} {h : Heap} {base : Nat} {w0 w : World} (k : HR m h base w0 w) (o : AObj) (O : Obj) (off sz es : Nat)
    (ho : ORel (m.upd h.length ⟨w.heap.size, off, sz, es⟩) base h.length (w.alloc O) o) :
    HR (m.upd h.length ⟨w.heap.size, off, sz, es⟩) (h ++ [o]) base w0 (w.alloc O) := by
  have hle : m.le (m.upd h.length ⟨w.heap.size, off, sz, es⟩) := Emb.le_upd k.none_of_len
  refine ⟨k.below.alloc k.size O, by simp; have := k.size; omega, fun b o' hb => ?_, fun b e he => ?_, fun b1 b2 o1 o2 e1 e2 h1 h2 r1 r2 m1 m2 hne => ?_⟩
  · rw [List.getElem?_append] at hb
    split at hb
    · rename_i hlt
      refine (k.obj b o' hb).mono hle fun e he => ?_
      exact Below.heap_alloc _ _ _ (k.lt b e he).1
    · rename_i hge
      have : b = h.length := by
        have : b - h.length < [o].length := by
          rcases Nat.lt_or_ge (b - h.length) [o].length with h' | h'
          · exact h'
          · rw [List.getElem?_eq_none h'] at hb; cases hb
        simp at this; omega
      subst this
      simp at hb; subst hb
      exact ho
  · by_cases hb : b = h.length
    · subst hb
      rw [Emb.upd_same] at he
      cases he
      simp
    · rw [Emb.upd_ne _ _ hb] at he
      have := k.lt b e he
      simp; omega
  · have low : ∀ (b : Nat) (o' : AObj) (e' : Ent), (h ++ [o])[b]? = some o' → (m.upd h.length ⟨w.heap.size, off, sz, es⟩) b = some e' → b ≠ h.length → h[b]? = some o' ∧ m b = some e' := by
      intro b o' e' hb he hn
      rw [Emb.upd_ne _ _ hn] at he
      have := (k.lt b e' he).2
      rw [List.getElem?_append_left this] at hb
      exact ⟨hb, he⟩
    by_cases c1 : b1 = h.length
    · by_cases c2 : b2 = h.length
      · omega
      · obtain ⟨_, q2⟩ := low b2 o2 e2 h2 m2 c2
        subst c1
        rw [Emb.upd_same] at m1
        cases m1
        have := (k.lt b2 e2 q2).1
        show w.heap.size ≠ e2.g
        omega
    · by_cases c2 : b2 = h.length
      · obtain ⟨_, q1⟩ := low b1 o1 e1 h1 m1 c1
        subst c2
        rw [Emb.upd_same] at m2
        cases m2
        have := (k.lt b1 e1 q1).1
        show e1.g ≠ w.heap.size
        omega
      · obtain ⟨p1, q1⟩ := low b1 o1 e1 h1 m1 c1
        obtain ⟨p2, q2⟩ := low b2 o2 e2 h2 m2 c2
        exact k.uniq b1 b2 o1 o2 e1 e2 p1 p2 r1 r2 q1 q2 hne

/-- An object is changed, and with it its block alone. -/
theorem HR.change {m : Emb} {h : Heap} {base : Nat} {w0 w w' : World} (k : HR m h base w0 w) (b : Nat) (o o' : AObj) (e : Ent)
    (hb : h[b]? = some o) (he : m b = some e) (hrw : o.rw = true) (hbe : base ≤ e.g)
    (hsz : w'.heap.size = w.heap.size) (hos : w'.os = w.os) (ht : w'.tape = w.tape) (hout : w'.output = w.output)
    (hother : ∀ g, g ≠ e.g → w'.heap[g]? = w.heap[g]?) (ho : ORel m base b w' o') : HR m (h.set b o') base w0 w' := by
  have hbl : b < h.length := (k.lt b e he).2
  have roo : ∀ (x : Nat) (ox : AObj) (ex : Ent), h[x]? = some ox → m x = some ex → x ≠ b → ox ≠ .dead → ex.g ≠ e.g := by
    intro x ox ex hx hm hn hd
    by_cases hr : ox.rw = true
    · exact k.uniq x b ox o ex e hx hb hr hrw hm he hn
    · cases ox with
      | dead => exact absurd rfl hd
      | map _ => exact absurd rfl hr
      | iter _ _ => exact absurd rfl hr
      | arr c es ro =>
        have hro : ro = true := by simpa [AObj.rw] using hr
        obtain ⟨e', he', _, cc, t, fr, _, _, _, _, _, h7⟩ := k.obj x _ hx
        rw [hm] at he'
        cases he'
        have := h7 hro
        omega
  refine ⟨k.below.trans ⟨hos, ht, hout, by omega, fun i hi => hother i (by omega)⟩, by have := k.size; omega, fun x ox hx => ?_, fun x ex hm => ?_, fun b1 b2 o1 o2 e1 e2 h1 h2 r1 r2 m1 m2 hne => ?_⟩
  · rw [List.getElem?_set] at hx
    by_cases hxb : b = x
    · subst hxb
      simp [hbl] at hx
      subst hx
      exact ho
    · simp [hxb] at hx
      by_cases hd : ox = .dead
      · subst hd; trivial
      · exact (k.obj x ox hx).mono (Emb.le.refl m) fun ex hex => hother _ (roo x ox ex hx hex (Ne.symm hxb) hd)
  · have := k.lt x ex hm
    simp; omega
  · have back : ∀ (x : Nat) (ox : AObj) (ex : Ent), (h.set b o')[x]? = some ox → ox.rw = true → m x = some ex → ∃ oy, h[x]? = some oy ∧ oy.rw = true := by
      intro x ox ex hx hr hm
      rw [List.getElem?_set] at hx
      by_cases hxb : b = x
      · subst hxb; exact ⟨o, hb, hrw⟩
      · simp [hxb] at hx; exact ⟨ox, hx, hr⟩
    obtain ⟨p1, q1, s1⟩ := back b1 o1 e1 h1 r1 m1
    obtain ⟨p2, q2, s2⟩ := back b2 o2 e2 h2 r2 m2
    exact k.uniq b1 b2 p1 p2 e1 e2 q1 q2 s1 s2 m1 m2 hne

/-- An object is given up. -/
theorem HR.kill {m : Emb} {h : Heap} {base : Nat} {w0 w : World} (k : HR m h base w0 w) (b : Nat) : HR m (h.set b .dead) base w0 w := by
  refine ⟨k.below, k.size, fun x ox hx => ?_, fun x ex hm => ?_, fun b1 b2 o1 o2 e1 e2 h1 h2 r1 r2 m1 m2 hne => ?_⟩
  · rw [List.getElem?_set] at hx
    split at hx
    · split at hx
      · cases hx; trivial
      · cases hx
    · exact k.obj x ox hx
  · have := k.lt x ex hm
    simp; exact this
  · have back : ∀ (x : Nat) (ox : AObj), (h.set b .dead)[x]? = some ox → ox.rw = true → h[x]? = some ox := by
      intro x ox hx hr
      rw [List.getElem?_set] at hx
      split at hx
      · split at hx
        · cases hx; cases hr
        · cases hx
      · exact hx
    exact k.uniq b1 b2 o1 o2 e1 e2 (back _ _ h1 r1) (back _ _ h2 r2) r1 r2 m1 m2 hne
end Go.Abs
