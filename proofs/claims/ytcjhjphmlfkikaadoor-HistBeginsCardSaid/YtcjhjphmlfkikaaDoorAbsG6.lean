import Derived.Test.YtcjhjphmlfkikaaDoorAbsG5
import Derived.Test.YtcjhjphmlfkikaaDoorAbsG4
import Derived.Lib.AtoiAll
import Derived.Lib.ConvBytes
import Derived.Lib.AtoiErrMem
set_option linter.unusedVariables false
set_option linter.unusedSimpArgs false
namespace Go.Abs

section
variable {α : Type}
noncomputable def nthD (d : α) (l : List α) : Nat → α := @List.rec α (fun _ => Nat → α) (fun _ => d) (fun x _ ih i => @Nat.rec (fun _ => α) x (fun j _ => ih j) i) l
noncomputable def nthO (l : List α) : Nat → Option α := @List.rec α (fun _ => Nat → Option α) (fun _ => none) (fun x _ ih i => @Nat.rec (fun _ => Option α) (some x) (fun j _ => ih j) i) l
noncomputable def lenF (l : List α) : Nat := @List.rec α (fun _ => Nat) 0 (fun _ _ ih => Nat.succ ih) l
noncomputable def dropE (l : List α) : Nat → Option (List α) := @List.rec α (fun _ => Nat → Option (List α)) (fun i => @Nat.rec (fun _ => Option (List α)) (some []) (fun _ _ => none) i) (fun x xs ih i => @Nat.rec (fun _ => Option (List α)) (some (x :: xs)) (fun j _ => ih j) i) l
def consO (x : α) : Option (List α) → Option (List α)
  | some l => some (x :: l)
  | none => none
noncomputable def takeE (l : List α) : Nat → Option (List α) := @List.rec α (fun _ => Nat → Option (List α)) (fun i => @Nat.rec (fun _ => Option (List α)) (some []) (fun _ _ => none) i) (fun x xs ih i => @Nat.rec (fun _ => Option (List α)) (some []) (fun j _ => consO x (ih j)) i) l
noncomputable def appF (a b : List α) : List α := @List.rec α (fun _ => List α) b (fun x _ ih => x :: ih) a
end

abbrev R3 := Option (AV × Nat × List AObj)
def r3 (n : Nat) (r : List AObj) : Option AV → R3
  | some v => some (v, n, r)
  | none => none

def ptrK {R : Type} (v : AV) (k : Nat → Nat → Option R) : Option R := match v with
  | .ptr b o => k b o
  | _ => none
noncomputable def ratF (n : Nat) (r : List AObj) (b : Nat) : Option AObj := cond (Nat.blt b n) (nthO r (Nat.sub (Nat.sub n 1) b)) none
def arrK {R : Type} (x : Option AObj) (k : List AV → Nat → Bool → Option R) : Option R := match x with
  | some (.arr c es ro) => k c es ro
  | _ => none
def optK {α R : Type} (x : Option α) (k : α → Option R) : Option R := match x with
  | some v => k v
  | none => none
noncomputable def rdF (c : List AV) (o : Nat) (agg : Option Nat) : Option AV := match agg with
  | none => nthO c o
  | some k => optK (dropE c o) fun d => optK (takeE d k) fun l => some (.agg l)
section
variable (z n : Nat) (r : List AObj) (t : Tmps)
end

end Go.Abs

set_option linter.unusedVariables false
set_option linter.unusedSimpArgs false
namespace Go.Abs

abbrev Rec := ETask → Nat → Nat → List AObj → Option ERes

noncomputable def resF (n : Nat) (r : List AObj) (t : Tmps) (x : MRes) : Option AV := match x with
  | .tmp i => some (nthD .undef t i)
  | .cell agg i => ptrK (nthD .undef t i) fun b o => arrK (ratF n r b) fun c _ _ => rdF c o agg
noncomputable def resFs (n : Nat) (r : List AObj) (t : Tmps) (rs : List MRes) : Option (List AV) := @List.rec MRes (fun _ => Option (List AV)) (some []) (fun x _ ih => optK (resF n r t x) fun v => consO v ih) rs
def tupR (x : Option (List AV)) : Option AV := match x with
  | some [v] => some v
  | some vs => some (.tuple vs)
  | none => none
noncomputable def replF (k : Nat) : List AV := @Nat.rec (fun _ => List AV) [] (fun _ ih => .undef :: ih) k
noncomputable def retK (rs : List MRes) (x : Option ERes) : Option ERes := match x with
  | some (.code m t1 n1 r1) => cond (okX m) (optK (tupR (resFs n1 r1 t1 rs)) fun v => some (.val v n1 r1)) none
  | _ => none
noncomputable def bodyK (rec : Rec) (F : MFunc) (args : List AV) (z n : Nat) (r : List AObj) : Option ERes := retK F.results (rec (.code F.body (appF args (replF (Nat.sub F.ntmps (lenF args))))) z n r)
noncomputable def callK (E : EMod) (rec : Rec) (f : Nat) (args : List AV) (z n : Nat) (r : List AObj) : Option ERes := match E.prim f args with
  | some v => some (v.res n r)
  | none => match E.fn f with
    | some F => bodyK rec F args z n r
    | none => none
end Go.Abs

set_option linter.unusedVariables false
set_option linter.unusedSimpArgs false
namespace Go.Abs
open Go.RowKit

theorem HR.belowN {m : Emb} {h : Heap} {base : Nat} {w0 w w' : World} (k : HR m h base w0 w) (hb : Below w.heap.size w w') : HR m h base w0 w' :=
  ⟨k.below.trans ⟨hb.os, hb.tape, hb.output, hb.size, fun i hi => hb.block i (Nat.lt_of_lt_of_le hi k.size)⟩, Nat.le_trans k.size hb.size, fun b o ho => (k.obj b o ho).mono (Emb.le.refl m) (fun e he => hb.block e.g (k.lt b e he).1), fun b e he => ⟨Nat.lt_of_lt_of_le (k.lt b e he).1 hb.size, (k.lt b e he).2⟩, k.uniq⟩

mutual
/-- Every address lies below n. -/
def AV.inn (n : Nat) : AV → Prop
  | .ptr b _ => b < n
  | .slice b _ _ => b < n
  | .map b => b < n
  | .fn _ cap => AV.inns n cap
  | .iface _ v => AV.inn n v
  | .agg l => AV.inns n l
  | .tuple l => AV.inns n l
  | _ => True
def AV.inns (n : Nat) : List AV → Prop
  | [] => True
  | v :: l => AV.inn n v ∧ AV.inns n l
end
mutual
theorem inn_of_VR {m : Emb} {n : Nat} (hm : ∀ b e, m b = some e → b < n) : ∀ (a : AV) (v : Value), VR m a v → a.inn n
  | .ptr b o, v, h => by simp only [VR] at h; obtain ⟨e, he, _⟩ := h; simp only [AV.inn]; exact hm _ _ he
  | .slice b o k, v, h => by simp only [VR] at h; obtain ⟨e, he, _⟩ := h; simp only [AV.inn]; exact hm _ _ he
  | .map b, v, h => by simp only [VR] at h; obtain ⟨e, he, _⟩ := h; simp only [AV.inn]; exact hm _ _ he
  | .fn f cap, v, h => by simp only [VR] at h; obtain ⟨cs, _, hc⟩ := h; simp only [AV.inn]; exact inns_of_VRs hm _ _ hc
  | .iface t x, v, h => by simp only [VR] at h; obtain ⟨y, _, hc⟩ := h; simp only [AV.inn]; exact inn_of_VR hm _ _ hc
  | .agg l, v, h => by simp only [VR] at h; obtain ⟨cs, _, hc, _⟩ := h; simp only [AV.inn]; exact inns_of_VRs hm _ _ hc
  | .tuple l, v, h => by simp only [VR] at h; obtain ⟨cs, _, hc⟩ := h; simp only [AV.inn]; exact inns_of_VRs hm _ _ hc
  | .undef, _, _ | .bool _, _, _ | .int _ _, _, _ | .str _, _, _ | .nilptr, _, _ | .nilslice, _, _ | .nilmap, _, _ | .nilfn, _, _ | .niliface, _, _ => by simp only [AV.inn]
theorem inns_of_VRs {m : Emb} {n : Nat} (hm : ∀ b e, m b = some e → b < n) : ∀ (a : List AV) (v : List Value), VRs m a v → AV.inns n a
  | [], v, h => by simp only [AV.inns]
  | a :: as, v, h => by simp only [VRs] at h; obtain ⟨c, cs, _, h1, h2⟩ := h; simp only [AV.inns]; exact ⟨inn_of_VR hm _ _ h1, inns_of_VRs hm _ _ h2⟩
end
mutual
theorem inn_flat {n : Nat} : ∀ v : AV, v.flat = true → v.inn n
  | .ptr _ _, h => by simp [AV.flat] at h
  | .slice _ _ _, h => by simp [AV.flat] at h
  | .map _, h => by simp [AV.flat] at h
  | .fn _ cap, h => by simp only [AV.flat] at h; simp only [AV.inn]; exact inns_flat cap h
  | .iface _ v, h => by simp only [AV.flat] at h; simp only [AV.inn]; exact inn_flat v h
  | .agg l, h => by simp only [AV.flat] at h; simp only [AV.inn]; exact inns_flat l h
  | .tuple l, h => by simp only [AV.flat] at h; simp only [AV.inn]; exact inns_flat l h
  | .undef, _ | .bool _, _ | .int _ _, _ | .str _, _ | .nilptr, _ | .nilslice, _ | .nilmap, _ | .nilfn, _ | .niliface, _ => by simp only [AV.inn]
theorem inns_flat {n : Nat} : ∀ l : List AV, AV.flats l = true → AV.inns n l
  | [], _ => by simp only [AV.inns]
  | v :: l, h => by simp only [AV.flats, Bool.and_eq_true] at h; simp only [AV.inns]; exact ⟨inn_flat v h.1, inns_flat l h.2⟩
end
def Emb.cut (m : Emb) (n : Nat) : Emb := fun b => if b < n then m b else none
theorem Emb.cut_lt {m : Emb} {n b : Nat} (h : b < n) : m.cut n b = m b := by simp [Emb.cut, h]
theorem Emb.cut_some {m : Emb} {n b : Nat} {e : Ent} (h : m.cut n b = some e) : b < n ∧ m b = some e := by
  unfold Emb.cut at h
  split at h
  · exact ⟨‹_›, h⟩
  · cases h

mutual
/-- What is said below n is said of every embedding that is the same there. -/
theorem VR.same {m m' : Emb} {n : Nat} (hm : ∀ b, b < n → m' b = m b) : ∀ (a : AV) (v : Value), a.inn n → VR m a v → VR m' a v
  | .ptr b o, v, hi, h => by simp only [AV.inn] at hi; simp only [VR] at h ⊢; rw [hm b hi]; exact h
  | .slice b o k, v, hi, h => by simp only [AV.inn] at hi; simp only [VR] at h ⊢; rw [hm b hi]; exact h
  | .map b, v, hi, h => by simp only [AV.inn] at hi; simp only [VR] at h ⊢; rw [hm b hi]; exact h
  | .fn f cap, v, hi, h => by simp only [AV.inn] at hi; simp only [VR] at h ⊢; obtain ⟨cs, h1, h2⟩ := h; exact ⟨cs, h1, VRs.same hm _ _ hi h2⟩
  | .iface t x, v, hi, h => by simp only [AV.inn] at hi; simp only [VR] at h ⊢; obtain ⟨y, h1, h2⟩ := h; exact ⟨y, h1, VR.same hm _ _ hi h2⟩
  | .agg l, v, hi, h => by simp only [AV.inn] at hi; simp only [VR] at h ⊢; obtain ⟨cs, h1, h2, h3⟩ := h; exact ⟨cs, h1, VRs.same hm _ _ hi h2, h3⟩
  | .tuple l, v, hi, h => by simp only [AV.inn] at hi; simp only [VR] at h ⊢; obtain ⟨cs, h1, h2⟩ := h; exact ⟨cs, h1, VRs.same hm _ _ hi h2⟩
  | .undef, _, _, h | .bool _, _, _, h | .int _ _, _, _, h | .str _, _, _, h | .nilptr, _, _, h | .nilslice, _, _, h | .nilmap, _, _, h | .nilfn, _, _, h | .niliface, _, _, h => by simp only [VR] at h ⊢; exact h
theorem VRs.same {m m' : Emb} {n : Nat} (hm : ∀ b, b < n → m' b = m b) : ∀ (a : List AV) (v : List Value), AV.inns n a → VRs m a v → VRs m' a v
  | [], v, hi, h => by simp only [VRs] at h ⊢; exact h
  | a :: as, v, hi, h => by simp only [AV.inns] at hi; simp only [VRs] at h ⊢; obtain ⟨c, cs, h0, h1, h2⟩ := h; exact ⟨c, cs, h0, VR.same hm _ _ hi.1 h1, VRs.same hm _ _ hi.2 h2⟩
end
def AObj.inn (n : Nat) : AObj → Prop
  | .arr c _ _ => ∀ v ∈ c, v.inn n
  | .map es => ∀ p ∈ es, p.1.inn n ∧ p.2.inn n
  | .bld k x _ => k % 2 = 0 → x.inn n
  | _ => True

theorem MapR.same {m m' : Emb} {n : Nat} (hm : ∀ b, b < n → m' b = m b) : ∀ (l : List (AV × AV)) (es : List MapEntry), (∀ p ∈ l, p.1.inn n ∧ p.2.inn n) → MapR m l es → MapR m' l es
  | [], es, hi, k => k
  | x :: r, es, hi, k => by
    simp only [MapR] at k ⊢
    obtain ⟨e, es', hl, h1, h2, h3⟩ := k
    have := hi x List.mem_cons_self
    exact ⟨e, es', hl, VR.same hm _ _ this.1 h1, VR.same hm _ _ this.2 h2, MapR.same hm _ _ (fun p hp => hi p (List.mem_cons_of_mem _ hp)) h3⟩

theorem BufR.same {m m' : Emb} {n : Nat} (hm : ∀ b, b < n → m' b = m b) {x : AV} {v : Value} (hi : x.inn n) (k : BufR m x v) : BufR m' x v := by
  rcases k with k | ⟨r, l, er, rfl, h2, h3⟩
  · exact .inl k
  · simp only [AV.inn] at hi
    exact .inr ⟨r, l, er, rfl, (hm r hi).trans h2, h3⟩

theorem ORel.same {m m' : Emb} {n base b b' : Nat} {w : World} {o : AObj} (hm : ∀ b, b < n → m' b = m b) (hi : o.inn n) (hb : m' b' = m b) (k : ORel m base b w o) : ORel m' base b' w o := by
  cases o with
  | dead => trivial
  | arr c es ro =>
    obtain ⟨e, he, h0, cc, t, fr, h1, h2, h3, h4, h5⟩ := k
    exact ⟨e, hb.trans he, h0, cc, t, fr, h1, h2, h3, fun i v hv => let ⟨cv, a, b, c⟩ := h4 i v hv; ⟨cv, a, VR.same hm _ _ (hi v (List.mem_of_getElem? hv)) b, c⟩, h5⟩
  | map es =>
    obtain ⟨e, he, h0, ents, clock, h1, h2⟩ := k
    exact ⟨e, hb.trans he, h0, ents, clock, h1, MapR.same hm _ _ hi h2⟩
  | iter s pos =>
    obtain ⟨e, he, h0, h1, h2⟩ := k
    exact ⟨e, hb.trans he, h0, h1, h2⟩
  | bld q x s =>
    obtain ⟨e, he, h0, h1, cc, h2, h3, h4⟩ := k
    exact ⟨e, hb.trans he, h0, h1, cc, h2, fun hq => let ⟨p, v, a, b, c⟩ := h3 hq; ⟨p, v, a, b, BufR.same hm (hi hq) c⟩, h4⟩

theorem inn_of_ORel {m : Emb} {n base b : Nat} {w : World} {o : AObj} (hm : ∀ b e, m b = some e → b < n) (k : ORel m base b w o) : o.inn n := by
  cases o with
  | dead => trivial
  | arr c es ro =>
    obtain ⟨e, he, h0, cc, t, fr, h1, h2, h3, h4, h5⟩ := k
    intro v hv
    obtain ⟨i, hi⟩ := List.mem_iff_getElem?.1 hv
    obtain ⟨cv, _, h, _⟩ := h4 i v hi
    exact inn_of_VR hm _ _ h
  | map es =>
    obtain ⟨e, he, h0, ents, clock, h1, h2⟩ := k
    have : ∀ (l : List (AV × AV)) (es : List MapEntry), MapR m l es → ∀ p ∈ l, p.1.inn n ∧ p.2.inn n := by
      intro l
      induction l with
      | nil => intro es _ p hp; cases hp
      | cons x r ih =>
        intro es k p hp
        simp only [MapR] at k
        obtain ⟨e, es', _, h1, h2, h3⟩ := k
        rcases List.mem_cons.1 hp with rfl | hp
        · exact ⟨inn_of_VR hm _ _ h1, inn_of_VR hm _ _ h2⟩
        · exact ih _ h3 p hp
    exact this _ _ h2
  | iter s pos => trivial
  | bld q x s =>
    obtain ⟨e, he, h0, h1, cc, h2, h3, h4⟩ := k
    intro hq
    obtain ⟨p, v, _, _, h⟩ := h3 hq
    rcases h with ⟨rfl, _⟩ | ⟨r, l, er, rfl, h5, _⟩
    · simp only [AV.inn]
    · simp only [AV.inn]
      exact hm _ _ h5

theorem HR.inn {m : Emb} {h : Heap} {base : Nat} {w0 w : World} (k : HR m h base w0 w) {b : Nat} {o : AObj} (hb : h[b]? = some o) : o.inn h.length :=
  inn_of_ORel (fun b e he => (k.lt b e he).2) (k.obj b o hb)

theorem HR.drop {m m' : Emb} {h t : Heap} {base : Nat} {w0 w w' : World} (k0 : HR m h base w0 w) (hle : m.le m') (k : HR m' (h ++ t) base w0 w') : m.le (m'.cut h.length) ∧ HR (m'.cut h.length) h base w0 w' := by
  have hget : ∀ {b : Nat} {o : AObj}, h[b]? = some o → (h ++ t)[b]? = some o := fun {b o} hb => by
    rw [List.getElem?_append_left (List.getElem?_eq_some_iff.1 hb).1]; exact hb
  refine ⟨fun b e he => ?_, k.below, k.size, fun b o hb => ?_, fun b e he => ?_, fun b1 b2 o1 o2 e1 e2 h1 h2 r1 r2 m1 m2 hne => ?_⟩
  · rw [Emb.cut_lt (k0.lt b e he).2]
    exact hle b e he
  · have hlt := (List.getElem?_eq_some_iff.1 hb).1
    exact (k.obj b o (hget hb)).same (n := h.length) (fun b hb => Emb.cut_lt hb) (k0.inn hb) (Emb.cut_lt hlt)
  · obtain ⟨h1, h2⟩ := Emb.cut_some he
    exact ⟨(k.lt b e h2).1, h1⟩
  · exact k.uniq b1 b2 o1 o2 e1 e2 (hget h1) (hget h2) r1 r2 (Emb.cut_some m1).2 (Emb.cut_some m2).2 hne

theorem HR.dropRow {m m' : Emb} {h t : Heap} {base : Nat} {w0 w w' : World} (k0 : HR m h base w0 w) (hle : m.le m') (k : HR m' (h ++ t) base w0 w') {i : Nat} {c : List AV} {es : Nat} (hi : t[i]? = some (.arr c es false)) (hc : ∀ v ∈ c, v.inn h.length) :
    ∃ e, m' (h.length + i) = some e ∧ m.le ((m'.cut h.length).upd h.length e) ∧ HR ((m'.cut h.length).upd h.length e) (h ++ [.arr c es false]) base w0 w' := by
  obtain ⟨hle1, k1⟩ := k0.drop hle k
  have hti : (h ++ t)[h.length + i]? = some (.arr c es false) := by rw [List.getElem?_append_right (by omega), Nat.add_sub_cancel_left]; exact hi
  have ko := k.obj _ _ hti
  obtain ⟨e, he, _⟩ := id ko
  have hn : m'.cut h.length h.length = none := by simp [Emb.cut]
  have hupd : (m'.cut h.length).le ((m'.cut h.length).upd h.length e) := Emb.le_upd hn
  have hlt : i < t.length := (List.getElem?_eq_some_iff.1 hi).1
  have split : ∀ {b : Nat} {o : AObj}, (h ++ [AObj.arr c es false])[b]? = some o → h[b]? = some o ∨ (b = h.length ∧ o = .arr c es false) := by
    intro b o hb
    rw [List.getElem?_append] at hb
    split at hb
    · exact .inl hb
    · rename_i hge
      right
      have : b - h.length = 0 := by
        rcases Nat.eq_zero_or_pos (b - h.length) with h0 | h0
        · exact h0
        · rw [List.getElem?_eq_none (by simp; omega)] at hb; cases hb
      rw [this] at hb
      simp at hb
      exact ⟨by omega, hb.symm⟩
  have hget : ∀ {b : Nat} {o : AObj}, h[b]? = some o → (h ++ t)[b]? = some o := fun {b o} hb => by
    rw [List.getElem?_append_left (List.getElem?_eq_some_iff.1 hb).1]; exact hb
  refine ⟨e, he, fun b x hx => hupd b x (hle1 b x hx), k.below, k.size, fun b o hb => ?_, fun b x hx => ?_, fun b1 b2 o1 o2 e1 e2 h1 h2 r1 r2 m1 m2 hne => ?_⟩
  · rcases split hb with hb | ⟨rfl, rfl⟩
    · have hbl := (List.getElem?_eq_some_iff.1 hb).1
      exact (k1.obj b o hb).same (n := h.length) (fun x hx => Emb.upd_ne _ _ (by omega)) (k0.inn hb) (Emb.upd_ne _ _ (by omega))
    · exact ko.same (n := h.length) (fun x hx => by rw [Emb.upd_ne _ _ (by omega), Emb.cut_lt hx]) hc (by rw [Emb.upd_same, he])
  · by_cases hb : b = h.length
    · subst hb
      rw [Emb.upd_same] at hx
      cases hx
      exact ⟨(k.lt _ _ he).1, by simp⟩
    · rw [Emb.upd_ne _ _ hb] at hx
      obtain ⟨g1, g2⟩ := k1.lt b x hx
      exact ⟨g1, by simp; omega⟩
  · have back : ∀ {b : Nat} {o : AObj} {x : Ent}, (h ++ [AObj.arr c es false])[b]? = some o → (m'.cut h.length).upd h.length e b = some x → ∃ b', (h ++ t)[b']? = some o ∧ m' b' = some x ∧ (b < h.length ∧ b' = b ∨ b = h.length ∧ b' = h.length + i) := by
      intro b o x hb hx
      rcases split hb with hb | ⟨rfl, rfl⟩
      · have hbl := (List.getElem?_eq_some_iff.1 hb).1
        rw [Emb.upd_ne _ _ (by omega)] at hx
        exact ⟨b, hget hb, (Emb.cut_some hx).2, .inl ⟨hbl, rfl⟩⟩
      · rw [Emb.upd_same] at hx
        cases hx
        exact ⟨_, hti, he, .inr ⟨rfl, rfl⟩⟩
    obtain ⟨b1', p1, p2, p3⟩ := back h1 m1
    obtain ⟨b2', q1, q2, q3⟩ := back h2 m2
    exact k.uniq b1' b2' o1 o2 e1 e2 p1 q1 r1 r2 p2 q2 (by omega)

mutual
/-- Addresses by a table. -/
def AV.via (f : Nat → Nat) : AV → AV
  | .ptr b o => .ptr (f b) o
  | .slice b o n => .slice (f b) o n
  | .map r => .map (f r)
  | .fn g cap => .fn g (AV.vias f cap)
  | .iface t v => .iface t (AV.via f v)
  | .agg l => .agg (AV.vias f l)
  | .tuple l => .tuple (AV.vias f l)
  | .undef => .undef
  | .bool b => .bool b
  | .int q n => .int q n
  | .str s => .str s
  | .nilptr => .nilptr
  | .nilslice => .nilslice
  | .nilmap => .nilmap
  | .nilfn => .nilfn
  | .niliface => .niliface
def AV.vias (f : Nat → Nat) : List AV → List AV
  | [] => []
  | v :: l => AV.via f v :: AV.vias f l
end
mutual
theorem VR.via {m' m'' : Emb} {f : Nat → Nat} {n k : Nat} (hm : ∀ a, a < n → m'' (a + k) = m' (f a)) : ∀ (a : AV) (v : Value), a.inn n → VR m' (a.via f) v → VR m'' (a.sh k) v
  | .ptr b o, v, hi, h => by simp only [AV.inn] at hi; simp only [AV.via, VR] at h; simp only [AV.sh, VR]; rw [hm b hi]; exact h
  | .slice b o n', v, hi, h => by simp only [AV.inn] at hi; simp only [AV.via, VR] at h; simp only [AV.sh, VR]; rw [hm b hi]; exact h
  | .map b, v, hi, h => by simp only [AV.inn] at hi; simp only [AV.via, VR] at h; simp only [AV.sh, VR]; rw [hm b hi]; exact h
  | .fn g cap, v, hi, h => by simp only [AV.inn] at hi; simp only [AV.via, VR] at h; simp only [AV.sh, VR]; obtain ⟨cs, h1, h2⟩ := h; exact ⟨cs, h1, VRs.via hm _ _ hi h2⟩
  | .iface t x, v, hi, h => by simp only [AV.inn] at hi; simp only [AV.via, VR] at h; simp only [AV.sh, VR]; obtain ⟨y, h1, h2⟩ := h; exact ⟨y, h1, VR.via hm _ _ hi h2⟩
  | .agg l, v, hi, h => by simp only [AV.inn] at hi; simp only [AV.via, VR] at h; simp only [AV.sh, VR]; obtain ⟨cs, h1, h2, h3⟩ := h; exact ⟨cs, h1, VRs.via hm _ _ hi h2, h3⟩
  | .tuple l, v, hi, h => by simp only [AV.inn] at hi; simp only [AV.via, VR] at h; simp only [AV.sh, VR]; obtain ⟨cs, h1, h2⟩ := h; exact ⟨cs, h1, VRs.via hm _ _ hi h2⟩
  | .undef, v, _, h | .bool _, v, _, h | .int _ _, v, _, h | .str _, v, _, h | .nilptr, v, _, h | .nilslice, v, _, h | .nilmap, v, _, h | .nilfn, v, _, h | .niliface, v, _, h => by simp only [AV.via, VR] at h; simp only [AV.sh, VR]; exact h
theorem VRs.via {m' m'' : Emb} {f : Nat → Nat} {n k : Nat} (hm : ∀ a, a < n → m'' (a + k) = m' (f a)) : ∀ (a : List AV) (v : List Value), AV.inns n a → VRs m' (AV.vias f a) v → VRs m'' (AV.shs k a) v
  | [], v, hi, h => by simp only [AV.vias, VRs] at h; simp only [AV.shs, VRs]; exact h
  | a :: as, v, hi, h => by simp only [AV.inns] at hi; simp only [AV.vias, VRs] at h; simp only [AV.shs, VRs]; obtain ⟨c, cs, h0, h1, h2⟩ := h; exact ⟨c, cs, h0, VR.via hm _ _ hi.1 h1, VRs.via hm _ _ hi.2 h2⟩
end
theorem HR.pick {m m' : Emb} {h t : Heap} {base : Nat} {w0 w w' : World} (k0 : HR m h base w0 w) (hle : m.le m') (k : HR m' (h ++ t) base w0 w') (l : List (List AV × Nat)) (idx : Nat → Nat)
    (hl : ∀ j p, l[j]? = some p → t[idx j]? = some (.arr (p.1.map (AV.via fun a => h.length + idx a)) p.2 false) ∧ ∀ v ∈ p.1, v.inn l.length)
    (hinj : ∀ i j, i < l.length → j < l.length → idx i = idx j → i = j) :
    ∃ m'' : Emb, (∀ a, a < l.length → m'' (a + h.length) = m' (h.length + idx a)) ∧ m.le m'' ∧ HR m'' (h ++ l.map (objOf h.length)) base w0 w' := by
  obtain ⟨hle1, k1⟩ := k0.drop hle k
  have hti : ∀ {j p}, l[j]? = some p → (h ++ t)[h.length + idx j]? = some (.arr (p.1.map (AV.via fun a => h.length + idx a)) p.2 false) := fun {j p} hj => by
    rw [List.getElem?_append_right (by omega), Nat.add_sub_cancel_left]
    exact (hl j p hj).1
  have hget : ∀ {b : Nat} {o : AObj}, h[b]? = some o → (h ++ t)[b]? = some o := fun {b o} hb => by
    rw [List.getElem?_append_left (List.getElem?_eq_some_iff.1 hb).1]; exact hb
  let m2 : Emb := fun b => if b < h.length then m' b else if b - h.length < l.length then m' (h.length + idx (b - h.length)) else none
  have hnew : ∀ a, a < l.length → m2 (a + h.length) = m' (h.length + idx a) := fun a ha => by
    show (if a + h.length < h.length then _ else _) = _
    rw [if_neg (by omega), Nat.add_sub_cancel, if_pos ha]
  have hold : ∀ b, b < h.length → m2 b = m'.cut h.length b := fun b hb => by
    rw [Emb.cut_lt hb]
    show (if b < h.length then _ else _) = _
    rw [if_pos hb]
  have hsome : ∀ {b e}, m2 b = some e → (b < h.length ∧ m' b = some e) ∨ ∃ a, a < l.length ∧ b = a + h.length ∧ m' (h.length + idx a) = some e := by
    intro b e hb
    by_cases h1 : b < h.length
    · rw [hold b h1] at hb
      exact .inl ⟨h1, (Emb.cut_some hb).2⟩
    · by_cases h2 : b - h.length < l.length
      · refine .inr ⟨b - h.length, h2, by omega, ?_⟩
        rw [← hnew _ h2]
        rw [show b - h.length + h.length = b by omega]
        exact hb
      · have : m2 b = none := by
          show (if b < h.length then _ else if b - h.length < l.length then _ else _) = _
          rw [if_neg h1, if_neg h2]
        rw [this] at hb
        cases hb
  have split : ∀ {b : Nat} {o : AObj}, (h ++ l.map (objOf h.length))[b]? = some o → h[b]? = some o ∨ ∃ j p, l[j]? = some p ∧ b = j + h.length ∧ o = objOf h.length p := by
    intro b o hb
    rw [List.getElem?_append] at hb
    split at hb
    · exact .inl hb
    · rename_i hge
      right
      rw [List.getElem?_map] at hb
      cases hp : l[b - h.length]? with
      | none => rw [hp] at hb; cases hb
      | some p =>
        rw [hp] at hb
        simp only [Option.map_some, Option.some.injEq] at hb
        exact ⟨b - h.length, p, hp, by omega, hb.symm⟩
  refine ⟨m2, hnew, fun b e he => ?_, k.below, k.size, fun b o hb => ?_, fun b e he => ?_, fun b1 b2 o1 o2 e1 e2 h1 h2 r1 r2 q1 q2 hne => ?_⟩
  · have hlt := (k0.lt b e he).2
    rw [hold b hlt]
    exact hle1 b e he
  · rcases split hb with hb | ⟨j, p, hj, rfl, rfl⟩
    · have hbl := (List.getElem?_eq_some_iff.1 hb).1
      exact (k1.obj b o hb).same (n := h.length) (fun x hx => hold x hx) (k0.inn hb) (hold b hbl)
    · have hjl := (List.getElem?_eq_some_iff.1 hj).1
      obtain ⟨e, he, h0, cc, ty, fr, g1, g2, g3, g4, g5⟩ := k.obj _ _ (hti hj)
      refine ⟨e, (hnew j hjl).trans he, h0, cc, ty, fr, g1, g2, by simpa using g3, fun i v hv => ?_, g5⟩
      rw [List.getElem?_map] at hv
      cases hu : p.1[i]? with
      | none => rw [hu] at hv; cases hv
      | some u =>
        rw [hu] at hv
        simp only [Option.map_some, Option.some.injEq] at hv
        subst hv
        obtain ⟨cv, c1, c2, c3⟩ := g4 i (u.via fun a => h.length + idx a) (by rw [List.getElem?_map, hu]; rfl)
        exact ⟨cv, c1, VR.via (n := l.length) (fun a ha => hnew a ha) _ _ ((hl j p hj).2 u (List.mem_of_getElem? hu)) c2, c3⟩
  · rcases hsome he with ⟨hb, h1⟩ | ⟨a, ha, rfl, h1⟩
    · exact ⟨(k.lt b e h1).1, by simp; omega⟩
    · exact ⟨(k.lt _ e h1).1, by simp; omega⟩
  · have back : ∀ {b : Nat} {o : AObj} {x : Ent}, (h ++ l.map (objOf h.length))[b]? = some o → m2 b = some x → o.rw = true → ∃ b' o', (h ++ t)[b']? = some o' ∧ o'.rw = true ∧ m' b' = some x ∧ (b < h.length ∧ b' = b ∨ ∃ j, j < l.length ∧ b = j + h.length ∧ b' = h.length + idx j) := by
      intro b o x hb hx hr
      rcases split hb with hb | ⟨j, p, hj, rfl, rfl⟩
      · have hbl := (List.getElem?_eq_some_iff.1 hb).1
        rw [hold b hbl] at hx
        exact ⟨b, o, hget hb, hr, (Emb.cut_some hx).2, .inl ⟨hbl, rfl⟩⟩
      · have hjl := (List.getElem?_eq_some_iff.1 hj).1
        rw [hnew j hjl] at hx
        exact ⟨_, _, hti hj, rfl, hx, .inr ⟨j, hjl, rfl, rfl⟩⟩
    obtain ⟨b1', o1', p1, p2, p3, p4⟩ := back h1 q1 r1
    obtain ⟨b2', o2', s1, s2, s3, s4⟩ := back h2 q2 r2
    refine k.uniq b1' b2' o1' o2' e1 e2 p1 s1 p2 s2 p3 s3 fun e => ?_
    rcases p4 with ⟨a1, a2⟩ | ⟨j1, a1, a2, a3⟩ <;> rcases s4 with ⟨c1, c2⟩ | ⟨j2, c1, c2, c3⟩
    · omega
    · omega
    · omega
    · have := hinj j1 j2 a1 c1 (by omega)
      omega

def primV (p : PrimsV) (f : Nat) (args : List AV) (h : Heap) (Q : AV → Heap → Prop) : Prop := ∃ v, p f args = some v ∧ v.put h Q

def Told (P : Program) (f : Nat) (cargs : Array Value) (cv : Value) (w : World) : Prop :=
  ∃ fn c, P.funcs[f]? = some fn ∧ (fn.name == "runtime.NumGoroutine") = false ∧ fn.body = some c ∧ Calls P f cargs w fun e w' => e = .returned cv ∧ Below w.heap.size w w'

def PVal.left (h : Heap) : PVal → AV → Heap → Prop
  | .flat v => fun v' h' => v' = v ∧ v.flat = true ∧ ∃ t, h' = h ++ t
  | .row n c es => fun v' h' => AV.flats c = true ∧ ∃ t i, h' = h ++ t ∧ t[i]? = some (.arr c es false) ∧ v' = .slice (h.length + i) 0 n
  | .objs v l => fun v' h' => v.inn l.length ∧ ∃ (t : Heap) (idx : Nat → Nat), h' = h ++ t ∧ (∀ j p, l[j]? = some p → t[idx j]? = some (.arr (p.1.map (AV.via fun a => h.length + idx a)) p.2 false) ∧ ∀ v ∈ p.1, v.inn l.length) ∧ (∀ i j, i < l.length → j < l.length → idx i = idx j → i = j) ∧ v' = v.via fun a => h.length + idx a

inductive PrimWay (P : Program) (base : Nat) (w0 : World) (out : Prop) (f : Nat) (args : List AV) : PVal → Prop
  | native (v : AV) : (∀ (m : Emb) (w : World) (cargs : Array Value), VRs m args cargs.toList → ∃ cv, (callFunc f cargs).run P w = .ok (.value cv) w ∧ VR m v cv) → PrimWay P base w0 out f args (.flat v)
  | told (v : AV) : (∀ (m : Emb) (w : World) (cargs : Array Value), VRs m args cargs.toList → Below base w0 w → ∃ cv, VR m v cv ∧ Told P f cargs cv w) → PrimWay P base w0 out f args (.flat v)
  | runs (v : PVal) (M : Model) : Fits P base w0 out M → (∀ h, Runs M (.call f args (v.left h)) h) → PrimWay P base w0 out f args v

theorem good_way {P : Program} {base : Nat} {w0 : World} {out : Prop} {f : Nat} {args : List AV} {v : PVal} (hw : PrimWay P base w0 out f args v) {h : Heap} {Q : AV → Heap → Prop} (hQ : v.put h Q) : Good P base w0 out (.call f args Q) h := by
  cases hw with
  | native v hn =>
    intro m w cargs ha hk O a next Q' hnext hlet
    obtain ⟨cv, hrun, hcv⟩ := hn m w cargs ha
    rw [hrun]
    exact hnext v h m cv w hQ (Emb.le.refl m) hcv hk
  | told v ht =>
    intro m w cargs ha hk O a next Q' hnext hlet
    obtain ⟨cv, hcv, fn, c, h1, h2, h3, h4⟩ := ht m w cargs ha hk.below
    rw [callFunc_run h1 h2 h3, Oper.upon_enter]
    refine h4.mono ?_
    rintro e w' ⟨rfl, hb⟩
    exact hnext v h m cv w' hQ (Emb.le.refl m) hcv (hk.belowN hb)
  | runs v M hM hr =>
    intro m w cargs ha hk O a next Q' hnext hlet
    refine sound hM (hr h) m w cargs ha hk O a next Q' (fun v' h1 m' cv w' hq hle hv hk' => ?_) hlet
    cases v with
    | flat v =>
      obtain ⟨rfl, hfl, t, rfl⟩ := hq
      obtain ⟨g1, g2⟩ := hk.drop hle hk'
      exact hnext v' h _ cv w' hQ g1 (VR.same (n := 0) (fun b hb => by omega) _ _ (inn_flat v' hfl) hv) g2
    | row n c es =>
      obtain ⟨hfl, t, i, rfl, hi, rfl⟩ := hq
      have hcs : ∀ v ∈ c, v.inn h.length := by
        have : ∀ l : List AV, AV.flats l = true → ∀ v ∈ l, v.inn h.length := by
          intro l
          induction l with
          | nil => intro _ v hv; cases hv
          | cons x l ih =>
            intro hf v hv
            simp only [AV.flats, Bool.and_eq_true] at hf
            rcases List.mem_cons.1 hv with rfl | hv
            · exact inn_flat _ hf.1
            · exact ih hf.2 v hv
        exact this c hfl
      obtain ⟨e, he, g1, g2⟩ := hk.dropRow hle hk' hi hcs
      refine hnext _ _ _ cv w' hQ g1 ?_ g2
      simp only [VR] at hv ⊢
      obtain ⟨e', he', hv⟩ := hv
      rw [he] at he'
      cases he'
      exact ⟨e, Emb.upd_same _ _ _, hv⟩
    | objs v l =>
      obtain ⟨hvi, t, idx, rfl, hl, hinj, rfl⟩ := hq
      obtain ⟨m2, g0, g1, g2⟩ := hk.pick hle hk' l idx hl hinj
      exact hnext _ _ _ cv w' hQ g1 (VR.via (n := l.length) g0 _ _ hvi hv) g2

def WaysOK (P : Program) (base : Nat) (w0 : World) (out : Prop) (p : PrimsV) : Prop := ∀ f args v, p f args = some v → PrimWay P base w0 out f args v

theorem fits_ways {P : Program} {base : Nat} {w0 : World} {out : Prop} (hm : P.follows .mixedOrders = true) (l : List (Nat × MFunc)) (hl : ∀ p ∈ l, (modelOf P noPrim).fn p.1 = some p.2) (p : PrimsV) (hp : WaysOK P base w0 out p) : Fits P base w0 out ⟨fnOf l, primV p⟩ where
  mixed := hm
  fn := fun f F hF => by
    have := hl _ (fnOf_mem hF)
    simp only [modelOf, Option.bind_eq_some_iff] at this
    exact this
  prim := fun f args h Q hq => by
    obtain ⟨v, hv, hQ⟩ := hq
    exact good_way (hp f args v hv) hQ
  ops := fun O mo hc htodo a m h h' w t v ht hk he => op_sound hc htodo ht hk he

def orPrims (p q : PrimsV) : PrimsV := fun f args => match p f args with
  | some v => some v
  | none => q f args
theorem orPrims_ok {P : Program} {base : Nat} {w0 : World} {out : Prop} {p q : PrimsV} (hp : WaysOK P base w0 out p) (hq : WaysOK P base w0 out q) : WaysOK P base w0 out (orPrims p q) := by
  intro f args v hv
  unfold orPrims at hv
  cases hpf : p f args with
  | some u =>
    rw [hpf] at hv
    injection hv with hv
    subst hv
    exact hp f args _ hpf
  | none =>
    rw [hpf] at hv
    exact hq f args v hv
end Go.Abs

set_option linter.unusedVariables false
set_option linter.unusedSimpArgs false
namespace Go.Abs

end Go.Abs

set_option linter.unusedVariables false
set_option linter.unusedSimpArgs false
namespace Go.Abs
open Go.RowKit

def IsFn (P : Program) (f : Nat) : Prop := ∃ fn c, P.funcs[f]? = some fn ∧ (fn.name == "runtime.NumGoroutine") = false ∧ fn.body = some c

end Go.Abs

set_option linter.unusedVariables false
set_option linter.unusedSimpArgs false
namespace Go.Abs

end Go.Abs

