import Derived.Test.YtcjhjphmlfkikaaDoorAbsG2
set_option linter.unusedVariables false
set_option linter.unusedSimpArgs false
namespace Go.Abs

structure Slc where
  b : Nat
  o : Nat
  n : Nat
  nil : Bool
def Slc.av (s : Slc) : AV := cond s.nil .nilslice (.slice s.b s.o s.n)
def Slc.len (s : Slc) : Nat := cond s.nil 0 s.n

inductive SV where
  | av (v : AV)
  | new (s o : Nat)
  | nix (s o : Nat)
  | sln (s o n : Nat)
  | slc (s : Slc)
  | pto (nil : Bool) (b o : Nat)
  | err (nil : Bool) (t : Nat) (v : AV)
  | agg (l : List SV)
  | tup (l : List SV)
  | fn (f : Nat) (cap : List SV)
  | ifc (t : Nat) (v : SV)
  | mpn (s : Nat)
  | ob (o : AObj)
  | hp (g : List AObj)
  | bad

mutual
def conc (A : Nat → Nat) : SV → AV
  | .av v => v
  | .new s o => .ptr (A s) o
  | .nix s o => .ptr (A s) o
  | .sln s o n => .slice (A s) o n
  | .slc s => s.av
  | .pto nil b o => cond nil .nilptr (.ptr b o)
  | .err nil t v => cond nil .niliface (.iface t v)
  | .agg l => .agg (concs A l)
  | .tup l => .tuple (concs A l)
  | .fn f cap => .fn f (concs A cap)
  | .ifc t v => .iface t (conc A v)
  | .mpn s => .map (A s)
  | .ob _ => .undef
  | .hp _ => .undef
  | .bad => .undef
def concs (A : Nat → Nat) : List SV → List AV
  | [] => []
  | v :: l => conc A v :: concs A l
end
mutual
def SV.ok (n : Nat) : SV → Prop
  | .av _ => True
  | .new s _ => s < n
  | .nix s _ => s < n
  | .sln s _ _ => s < n
  | .slc _ => True
  | .pto _ _ _ => True
  | .err _ _ _ => True
  | .agg l => oks n l
  | .tup l => oks n l
  | .fn _ cap => oks n cap
  | .ifc _ v => SV.ok n v
  | .mpn s => s < n
  | .ob _ => True
  | .hp _ => True
  | .bad => False
def oks (n : Nat) : List SV → Prop
  | [] => True
  | v :: l => SV.ok n v ∧ oks n l
end
mutual
def dem (A : Nat → Nat) (J : Nat) : SV → SV
  | .av v => .av v
  | .new s o => cond (Nat.blt s J) (.new s o) (.av (.ptr (A s) o))
  | .nix s o => cond (Nat.blt s J) (.nix s o) (.av (.ptr (A s) o))
  | .sln s o n => cond (Nat.blt s J) (.sln s o n) (.slc ⟨A s, o, n, false⟩)
  | .slc s => .slc s
  | .pto nil b o => .pto nil b o
  | .err nil t v => .err nil t v
  | .agg l => .agg (dems A J l)
  | .tup l => .tup (dems A J l)
  | .fn f cap => .fn f (dems A J cap)
  | .ifc t v => .ifc t (dem A J v)
  | .mpn s => cond (Nat.blt s J) (.mpn s) (.av (.map (A s)))
  | .ob o => .ob o
  | .hp g => .hp g
  | .bad => .bad
def dems (A : Nat → Nat) (J : Nat) : List SV → List SV
  | [] => []
  | v :: l => dem A J v :: dems A J l
end
theorem concs_map (A : Nat → Nat) : ∀ l, concs A l = l.map (conc A)
  | [] => by simp [concs]
  | v :: l => by simp [concs, concs_map A l]
theorem oks_iff (n : Nat) : ∀ l, oks n l ↔ ∀ v ∈ l, SV.ok n v
  | [] => by simp [oks]
  | v :: l => by simp [oks, oks_iff n l]
theorem dems_map (A : Nat → Nat) (J : Nat) : ∀ l, dems A J l = l.map (dem A J)
  | [] => by simp [dems]
  | v :: l => by simp [dems, dems_map A J l]
theorem concs_length (A : Nat → Nat) (l : List SV) : (concs A l).length = l.length := by simp [concs_map]

mutual
theorem conc_congr {A A' : Nat → Nat} {n : Nat} (h : ∀ s, s < n → A' s = A s) : ∀ (v : SV), v.ok n → conc A' v = conc A v
  | .av v, _ => by simp only [conc]
  | .new s o, k => by simp only [SV.ok] at k; simp only [conc, h s k]
  | .nix s o, k => by simp only [SV.ok] at k; simp only [conc, h s k]
  | .sln s o m, k => by simp only [SV.ok] at k; simp only [conc, h s k]
  | .slc s, _ => by simp only [conc]
  | .pto _ _ _, _ => by simp only [conc]
  | .err _ _ _, _ => by simp only [conc]
  | .agg l, k => by simp only [SV.ok] at k; simp only [conc, concs_congr h l k]
  | .tup l, k => by simp only [SV.ok] at k; simp only [conc, concs_congr h l k]
  | .fn f l, k => by simp only [SV.ok] at k; simp only [conc, concs_congr h l k]
  | .ifc t v, k => by simp only [SV.ok] at k; simp only [conc, conc_congr h v k]
  | .mpn s, k => by simp only [SV.ok] at k; simp only [conc, h s k]
  | .ob _, _ => by simp only [conc]
  | .hp _, _ => by simp only [conc]
  | .bad, _ => by simp only [conc]
theorem concs_congr {A A' : Nat → Nat} {n : Nat} (h : ∀ s, s < n → A' s = A s) : ∀ (l : List SV), oks n l → concs A' l = concs A l
  | [], _ => by simp only [concs]
  | v :: l, k => by simp only [oks] at k; simp only [concs, conc_congr h v k.1, concs_congr h l k.2]
end
mutual
theorem SV.ok_mono {n n' : Nat} (h : n ≤ n') : ∀ (v : SV), v.ok n → v.ok n'
  | .av v, _ => by simp only [SV.ok]
  | .new s o, k => by simp only [SV.ok] at k ⊢; omega
  | .nix s o, k => by simp only [SV.ok] at k ⊢; omega
  | .sln s o m, k => by simp only [SV.ok] at k ⊢; omega
  | .slc s, _ => by simp only [SV.ok]
  | .pto _ _ _, _ => by simp only [SV.ok]
  | .err _ _ _, _ => by simp only [SV.ok]
  | .agg l, k => by simp only [SV.ok] at k ⊢; exact oks_mono h l k
  | .tup l, k => by simp only [SV.ok] at k ⊢; exact oks_mono h l k
  | .fn f l, k => by simp only [SV.ok] at k ⊢; exact oks_mono h l k
  | .ifc t v, k => by simp only [SV.ok] at k ⊢; exact SV.ok_mono h v k
  | .mpn s, k => by simp only [SV.ok] at k ⊢; omega
  | .ob _, _ => by simp only [SV.ok]
  | .hp _, _ => by simp only [SV.ok]
  | .bad, k => by simp only [SV.ok] at k
theorem oks_mono {n n' : Nat} (h : n ≤ n') : ∀ (l : List SV), oks n l → oks n' l
  | [], _ => by simp only [oks]
  | v :: l, k => by simp only [oks] at k ⊢; exact ⟨SV.ok_mono h v k.1, oks_mono h l k.2⟩
end
theorem blt_eq {a b : Nat} : Nat.blt a b = decide (a < b) := by
  simp [Nat.blt, Nat.succ_le_iff]
  rw [Bool.eq_iff_iff]
  simp [Nat.ble_eq, Nat.succ_le_iff]

mutual
theorem dem_conc {A A' : Nat → Nat} {J : Nat} (h : ∀ s, s < J → A' s = A s) : ∀ (v : SV), conc A' (dem A J v) = conc A v
  | .av v => by simp only [conc, dem]
  | .new s o => by
    simp only [dem, blt_eq]
    by_cases hs : s < J
    · simp [hs, conc, h s hs]
    · simp [hs, conc]
  | .nix s o => by
    simp only [dem, blt_eq]
    by_cases hs : s < J
    · simp [hs, conc, h s hs]
    · simp [hs, conc]
  | .sln s o n => by
    simp only [dem, blt_eq]
    by_cases hs : s < J
    · simp [hs, conc, h s hs]
    · simp [hs, conc, Slc.av]
  | .slc s => by simp only [conc, dem]
  | .pto _ _ _ => by simp only [conc, dem]
  | .err _ _ _ => by simp only [conc, dem]
  | .agg l => by simp only [conc, dem, dems_conc h l]
  | .tup l => by simp only [conc, dem, dems_conc h l]
  | .fn f l => by simp only [conc, dem, dems_conc h l]
  | .ifc t v => by simp only [conc, dem, dem_conc h v]
  | .mpn s => by
    simp only [dem, blt_eq]
    by_cases hs : s < J
    · simp [hs, conc, h s hs]
    · simp [hs, conc]
  | .ob _ => by simp only [conc, dem]
  | .hp _ => by simp only [conc, dem]
  | .bad => by simp only [conc, dem]
theorem dems_conc {A A' : Nat → Nat} {J : Nat} (h : ∀ s, s < J → A' s = A s) : ∀ (l : List SV), concs A' (dems A J l) = concs A l
  | [] => by simp only [concs, dems]
  | v :: l => by simp only [concs, dems, dem_conc h v, dems_conc h l]
end
mutual
theorem dem_ok {A : Nat → Nat} {J n : Nat} : ∀ (v : SV), v.ok n → (dem A J v).ok J
  | .av v, _ => by simp only [SV.ok, dem]
  | .new s o, _ => by
    simp only [dem, blt_eq]
    by_cases hs : s < J <;> simp [hs, SV.ok]
  | .nix s o, _ => by
    simp only [dem, blt_eq]
    by_cases hs : s < J <;> simp [hs, SV.ok]
  | .sln s o m, _ => by
    simp only [dem, blt_eq]
    by_cases hs : s < J <;> simp [hs, SV.ok]
  | .slc s, _ => by simp only [SV.ok, dem]
  | .pto _ _ _, _ => by simp only [SV.ok, dem]
  | .err _ _ _, _ => by simp only [SV.ok, dem]
  | .agg l, k => by simp only [SV.ok] at k; simp only [SV.ok, dem]; exact dems_ok l k
  | .tup l, k => by simp only [SV.ok] at k; simp only [SV.ok, dem]; exact dems_ok l k
  | .fn f l, k => by simp only [SV.ok] at k; simp only [SV.ok, dem]; exact dems_ok l k
  | .ifc t v, k => by simp only [SV.ok] at k; simp only [SV.ok, dem]; exact dem_ok v k
  | .mpn s, _ => by
    simp only [dem, blt_eq]
    by_cases hs : s < J <;> simp [hs, SV.ok]
  | .ob _, _ => by simp only [SV.ok, dem]
  | .hp _, _ => by simp only [SV.ok, dem]
  | .bad, k => by simp only [SV.ok] at k
theorem dems_ok {A : Nat → Nat} {J n : Nat} : ∀ (l : List SV), oks n l → oks J (dems A J l)
  | [], _ => by simp only [oks, dems]
  | v :: l, k => by simp only [oks] at k; simp only [oks, dems]; exact ⟨dem_ok v k.1, dems_ok l k.2⟩
end
inductive Seg where
  | sym (h : Heap)
  | con (c : List SV) (es : Nat)
  | row (c : List AV) (es : Nat)
  | obj (o : AObj)

def Seg.len : Seg → Nat
  | .sym h => h.length
  | _ => 1
def Seg.heap (A : Nat → Nat) : Seg → Heap
  | .sym h => h
  | .con c es => [.arr (concs A c) es false]
  | .row c es => [.arr c es false]
  | .obj o => [o]
def Seg.ok (n : Nat) : Seg → Prop
  | .con c _ => oks n c
  | _ => True
def Seg.dem (A : Nat → Nat) (J : Nat) : Seg → Seg
  | .con c es => .con (dems A J c) es
  | s => s

def addr : List Seg → Nat → Nat
  | [], _ => 0
  | _ :: _, 0 => 0
  | s :: r, n + 1 => s.len + addr r n

def flat (A : Nat → Nat) : List Seg → Heap
  | [] => []
  | [s] => s.heap A
  | s :: r => s.heap A ++ flat A r

theorem flat_cons (A : Nat → Nat) (s : Seg) (r : List Seg) : flat A (s :: r) = s.heap A ++ flat A r := by
  cases r <;> simp [flat]
theorem flat_append (A : Nat → Nat) : ∀ (a b : List Seg), flat A (a ++ b) = flat A a ++ flat A b
  | [], b => by simp [flat]
  | s :: a, b => by rw [List.cons_append, flat_cons, flat_cons, flat_append A a b, List.append_assoc]
theorem heap_length (A : Nat → Nat) (s : Seg) : (s.heap A).length = s.len := by cases s <;> simp [Seg.heap, Seg.len]

theorem addr_zero (H : List Seg) : addr H 0 = 0 := by cases H <;> simp [addr]
theorem addr_append : ∀ (H r : List Seg) (s : Nat), s ≤ H.length → addr (H ++ r) s = addr H s
  | [], r, s, h => by
    have : s = 0 := by simpa using h
    subst this
    simp [addr_zero]
  | x :: H, r, 0, h => by simp [addr]
  | x :: H, r, s + 1, h => by
    simp only [List.cons_append, addr]
    rw [addr_append H r s (by simpa using h)]
theorem flat_length (A : Nat → Nat) : ∀ (H : List Seg), (flat A H).length = addr H H.length
  | [] => by simp [flat, addr]
  | s :: r => by rw [flat_cons, List.length_append, heap_length, flat_length A r]; simp [addr]
theorem addr_take {H : List Seg} {j s : Nat} (hs : s ≤ j) (hj : j ≤ H.length) : addr (H.take j) s = addr H s := by
  have := addr_append (H.take j) (H.drop j) s (by simp; omega)
  rw [List.take_append_drop] at this
  exact this.symm
theorem addr_lens : ∀ {H H' : List Seg} {s : Nat}, H'.map Seg.len = H.map Seg.len → addr H' s = addr H s
  | [], [], s, h => rfl
  | [], _ :: _, s, h => by simp at h
  | _ :: _, [], s, h => by simp at h
  | x :: H, y :: H', 0, h => by simp [addr]
  | x :: H, y :: H', s + 1, h => by
    simp only [List.map_cons, List.cons.injEq] at h
    simp only [addr, h.1, addr_lens h.2]

theorem flat_congr {A A' : Nat → Nat} {n : Nat} (h : ∀ s, s < n → A' s = A s) : ∀ (H : List Seg), (∀ s ∈ H, s.ok n) → flat A' H = flat A H
  | [], _ => by simp [flat]
  | s :: r, k => by
    rw [flat_cons, flat_cons, flat_congr h r fun x hx => k x (List.mem_cons_of_mem _ hx)]
    congr 1
    have := k s List.mem_cons_self
    cases s <;> simp only [Seg.heap]
    simp only [Seg.ok] at this
    rw [concs_congr h _ this]

theorem seg_split {H : List Seg} {s : Nat} {x : Seg} (hs : H[s]? = some x) : H = H.take s ++ x :: H.drop (s + 1) ∧ s < H.length ∧ (H.take s).length = s := by
  obtain ⟨hlt, rfl⟩ := List.getElem?_eq_some_iff.1 hs
  refine ⟨?_, hlt, by simp; omega⟩
  rw [List.getElem_cons_drop, List.take_append_drop]

theorem flat_get {A : Nat → Nat} {H : List Seg} {s k : Nat} {x : Seg} (hs : H[s]? = some x) (hk : k < x.len) : (flat A H)[addr H s + k]? = (x.heap A)[k]? := by
  obtain ⟨e, hlt, hl⟩ := seg_split hs
  have hlen : (flat A (H.take s)).length = addr H s := by
    rw [flat_length, hl, addr_take (Nat.le_refl s) (by omega)]
  have e2 : flat A H = flat A (H.take s) ++ (x.heap A ++ flat A (H.drop (s + 1))) := by
    conv => lhs; rw [e]
    rw [flat_append, flat_cons]
  rw [e2, List.getElem?_append_right (by omega), hlen, Nat.add_sub_cancel_left, List.getElem?_append_left (by rw [heap_length]; exact hk)]

theorem flat_set {A : Nat → Nat} {H : List Seg} {s k : Nat} {x y : Seg} {o : AObj} (hs : H[s]? = some x) (hk : k < x.len) (hy : y.heap A = (x.heap A).set k o) : (flat A H).set (addr H s + k) o = flat A (H.set s y) := by
  obtain ⟨e, hlt, hl⟩ := seg_split hs
  have hlen : (flat A (H.take s)).length = addr H s := by
    rw [flat_length, hl, addr_take (Nat.le_refl s) (by omega)]
  have e2 : flat A H = flat A (H.take s) ++ (x.heap A ++ flat A (H.drop (s + 1))) := by
    conv => lhs; rw [e]
    rw [flat_append, flat_cons]
  have e3 : H.set s y = H.take s ++ y :: H.drop (s + 1) := by
    rw [List.set_eq_take_append_cons_drop, if_pos hlt]
  rw [e3, flat_append, flat_cons, e2, List.set_append_right _ _ (by omega), hlen, Nat.add_sub_cancel_left, List.set_append_left _ _ (by rw [heap_length]; exact hk), hy]

def HV (H : List Seg) (h : Heap) : Prop := h = flat (addr H) H ∧ ∀ s ∈ H, s.ok H.length

def VV (H : List Seg) (v : SV) (a : AV) : Prop := v = .bad ∨ (v.ok H.length ∧ a = conc (addr H) v)

structure Val (t : List SV) (H : List Seg) (t' : Tmps) (h : Heap) : Prop where
  heap : HV H h
  len : t'.length = t.length
  tok : ∀ (i : Nat) (v : SV), t[i]? = some v → VV H v (t'.getD i .undef)

def KeepH (z : Nat) (W : List Nat) (H : List Seg) (h : Heap) (H' : List Seg) (h' : Heap) : Prop :=
  z ≤ H'.length ∧ (∀ s, s ≤ z → addr H' s = addr H s) ∧ ∀ s, s < z → s ∉ W → ∀ k, addr H s ≤ k → k < addr H (s + 1) → h'[k]? = h[k]?

theorem KeepH.refl {z : Nat} {W : List Nat} {H : List Seg} {h : Heap} (hz : z ≤ H.length) : KeepH z W H h H h := ⟨hz, fun _ _ => rfl, fun _ _ _ _ _ _ => rfl⟩
theorem KeepH.trans {z : Nat} {W : List Nat} {H H1 H2 : List Seg} {h h1 h2 : Heap} (a : KeepH z W H h H1 h1) (b : KeepH z W H1 h1 H2 h2) : KeepH z W H h H2 h2 :=
  ⟨b.1, fun s hs => by rw [b.2.1 s hs, a.2.1 s hs], fun s hs hw k h1 h2 => by
    rw [b.2.2 s hs hw k (by rw [a.2.1 s (by omega)]; exact h1) (by rw [a.2.1 (s + 1) (by omega)]; exact h2), a.2.2 s hs hw k h1 h2]⟩
theorem KeepH.weaken {z j : Nat} {W V : List Nat} {H H' : List Seg} {h h' : Heap} (hj : z ≤ j) (hW : ∀ s, s < z → s ∈ V → s ∈ W) (k : KeepH j V H h H' h') : KeepH z W H h H' h' :=
  ⟨by have := k.1; omega, fun s hs => k.2.1 s (by omega), fun s hs hw i h1 h2 => k.2.2 s (by omega) (fun hv => hw (hW s hs hv)) i h1 h2⟩

def wr (z : Nat) (W : List Nat) (s : Nat) : Bool := Nat.ble z s || W.elem s
theorem wr_spec {z s : Nat} {W : List Nat} (h : wr z W s = true) : z ≤ s ∨ s ∈ W := by
  simp only [wr, Bool.or_eq_true, Nat.ble_eq, List.elem_eq_mem, decide_eq_true_eq] at h
  exact h

theorem VV.mono {H H' : List Seg} (hl : H.length ≤ H'.length) (ha : ∀ s, s < H.length → addr H' s = addr H s) {v : SV} {a : AV} (h : VV H v a) : VV H' v a := by
  rcases h with h | ⟨h1, h2⟩
  · exact .inl h
  · exact .inr ⟨SV.ok_mono hl _ h1, by rw [conc_congr ha _ h1]; exact h2⟩

theorem Val.mono {t : List SV} {H H' : List Seg} {t' : Tmps} {h h' : Heap} (k : Val t H t' h) (hl : H.length ≤ H'.length) (ha : ∀ s, s < H.length → addr H' s = addr H s) (hh : HV H' h') : Val t H' t' h' :=
  ⟨hh, k.len, fun i v hi => (k.tok i v hi).mono hl ha⟩

def MO.ev (t : List SV) : MO → SV
  | .tmp i => t.getD i .bad
  | .const v => .av v

theorem Val.ev {t : List SV} {H : List Seg} {t' : Tmps} {h : Heap} (k : Val t H t' h) (x : MO) : VV H (x.ev t) (x.eval t') := by
  cases x with
  | const v => exact .inr ⟨by simp [MO.ev, SV.ok], by simp [MO.ev, MO.eval, conc]⟩
  | tmp i =>
    simp only [MO.ev, MO.eval]
    cases hi : t[i]? with
    | none => exact .inl (by simp [List.getD, hi])
    | some v =>
      have := k.tok i v hi
      simpa [List.getD, hi] using this

theorem VV.ok {H : List Seg} {v : SV} {a : AV} (h : VV H v a) (hv : v ≠ .bad) : v.ok H.length ∧ a = conc (addr H) v := h.resolve_left hv

def putS (t : List SV) (d : Option Nat) (v : SV) : List SV :=
  match d with
  | some d => t.set d v
  | none => t

theorem Val.put {t : List SV} {H : List Seg} {t' : Tmps} {h : Heap} (k : Val t H t' h) (d : Option Nat) {v : SV} {a : AV} (hv : VV H v a) : Val (putS t d v) H (Abs.put t' d a) h := by
  cases d with
  | none => exact k
  | some d =>
    refine ⟨k.heap, by simp [putS, Abs.put, k.len], fun i x hi => ?_⟩
    simp only [putS, List.getElem?_set] at hi
    simp only [Abs.put, List.getD_eq_getElem?_getD, List.getElem?_set]
    split at hi
    · rename_i hdi
      split at hi
      · rename_i hlt
        cases hi
        subst hdi
        rw [if_pos rfl, if_pos (by rw [k.len]; exact hlt)]
        exact hv
      · cases hi
    · rename_i hdi
      rw [if_neg hdi]
      have := k.tok i x hi
      rwa [List.getD_eq_getElem?_getD] at this
end Go.Abs

set_option linter.unusedVariables false
set_option linter.unusedSimpArgs false
namespace Go.Abs

inductive Sh where
  | int (k : IntKind) | bool | str | slc | raw | ptr | pto | err | mapv | cells | iter | mapo | heap
  | agg (l : List Sh) | tup (l : List Sh)

mutual
def Sh.ex : Sh → (SV → Prop) → Prop
  | .int k, f => ∃ x : Int, f (.av (.int k x))
  | .bool, f => ∃ b : Bool, f (.av (.bool b))
  | .str, f => ∃ s : List UInt8, f (.av (.str s))
  | .slc, f => ∃ s : Slc, f (.slc s)
  | .raw, f => ∃ v : AV, f (.av v)
  | .ptr, f => ∃ b o : Nat, f (.av (.ptr b o))
  | .pto, f => ∃ (n : Bool) (b o : Nat), f (.pto n b o)
  | .err, f => ∃ (n : Bool) (t : Nat) (v : AV), f (.err n t v)
  | .mapv, f => ∃ r : Nat, f (.av (.map r))
  | .cells, f => ∃ c : List AV, f (.av (.agg c))
  | .iter, f => ∃ (s : List UInt8) (p : Nat), f (.ob (.iter s p))
  | .mapo, f => ∃ es : List (AV × AV), f (.ob (.map es))
  | .heap, f => ∃ g : Heap, f (.hp g)
  | .agg l, f => exs l fun vs => f (.agg vs)
  | .tup l, f => exs l fun vs => f (.tup vs)
def exs : List Sh → (List SV → Prop) → Prop
  | [], f => f []
  | s :: l, f => s.ex fun v => exs l fun vs => f (v :: vs)
end
mutual
theorem ex_spec : ∀ (s : Sh) {f : SV → Prop}, s.ex f → ∃ v, f v ∧ ∀ n, v.ok n
  | .int k, f, h => by simp only [Sh.ex] at h; obtain ⟨x, h⟩ := h; exact ⟨_, h, fun n => by simp only [SV.ok]⟩
  | .bool, f, h => by simp only [Sh.ex] at h; obtain ⟨x, h⟩ := h; exact ⟨_, h, fun n => by simp only [SV.ok]⟩
  | .str, f, h => by simp only [Sh.ex] at h; obtain ⟨x, h⟩ := h; exact ⟨_, h, fun n => by simp only [SV.ok]⟩
  | .slc, f, h => by simp only [Sh.ex] at h; obtain ⟨x, h⟩ := h; exact ⟨_, h, fun n => by simp only [SV.ok]⟩
  | .raw, f, h => by simp only [Sh.ex] at h; obtain ⟨x, h⟩ := h; exact ⟨_, h, fun n => by simp only [SV.ok]⟩
  | .ptr, f, h => by simp only [Sh.ex] at h; obtain ⟨x, y, h⟩ := h; exact ⟨_, h, fun n => by simp only [SV.ok]⟩
  | .pto, f, h => by simp only [Sh.ex] at h; obtain ⟨x, y, z, h⟩ := h; exact ⟨_, h, fun n => by simp only [SV.ok]⟩
  | .err, f, h => by simp only [Sh.ex] at h; obtain ⟨x, y, z, h⟩ := h; exact ⟨_, h, fun n => by simp only [SV.ok]⟩
  | .mapv, f, h => by simp only [Sh.ex] at h; obtain ⟨x, h⟩ := h; exact ⟨_, h, fun n => by simp only [SV.ok]⟩
  | .cells, f, h => by simp only [Sh.ex] at h; obtain ⟨x, h⟩ := h; exact ⟨_, h, fun n => by simp only [SV.ok]⟩
  | .iter, f, h => by simp only [Sh.ex] at h; obtain ⟨x, y, h⟩ := h; exact ⟨_, h, fun n => by simp only [SV.ok]⟩
  | .mapo, f, h => by simp only [Sh.ex] at h; obtain ⟨x, h⟩ := h; exact ⟨_, h, fun n => by simp only [SV.ok]⟩
  | .heap, f, h => by simp only [Sh.ex] at h; obtain ⟨x, h⟩ := h; exact ⟨_, h, fun n => by simp only [SV.ok]⟩
  | .agg l, f, h => by
    simp only [Sh.ex] at h
    obtain ⟨vs, h, k⟩ := exs_spec l h
    exact ⟨_, h, fun n => by simp only [SV.ok]; exact k n⟩
  | .tup l, f, h => by
    simp only [Sh.ex] at h
    obtain ⟨vs, h, k⟩ := exs_spec l h
    exact ⟨_, h, fun n => by simp only [SV.ok]; exact k n⟩
theorem exs_spec : ∀ (l : List Sh) {f : List SV → Prop}, exs l f → ∃ vs, f vs ∧ ∀ n, oks n vs
  | [], f, h => by simp only [exs] at h; exact ⟨[], h, fun n => by simp only [oks]⟩
  | s :: l, f, h => by
    simp only [exs] at h
    obtain ⟨v, h, k⟩ := ex_spec s h
    obtain ⟨vs, h, k2⟩ := exs_spec l h
    exact ⟨v :: vs, h, fun n => by simp only [oks]; exact ⟨k n, k2 n⟩⟩
end
structure OH where
  sh : Sh
  seg : Nat
  lit : Bool
  mode : Nat

def partS (agg : Option Nat) (l : List SV) (off : Nat) : Option SV :=
  match agg with
  | none => l[off]?
  | some n => if off + n ≤ l.length then some (.agg ((l.drop off).take n)) else none

def SV.cells : SV → Option (List SV)
  | .agg l => some l
  | .av (.agg l) => some (l.map .av)
  | .av .undef => none
  | .av (.tuple _) => none
  | .tup _ => none
  | .ob _ => none
  | .hp _ => none
  | .bad => none
  | v => some [v]

def fillS (z : List SV) : List (Nat × Nat × SV) → Option (List SV)
  | [] => some z
  | (off, sz, v) :: r => match v.cells with
    | some cs => if cs.length = sz ∧ off + sz ≤ z.length then fillS (setCells z off cs) r else none
    | none => none

def eqS : EqK → SV → SV → Option Bool
  | k, .av a, .av b => valEq k a b
  | .ptr, .new _ _, .av .nilptr => some false
  | .ptr, .nix _ _, .av .nilptr => some false
  | .ptr, .pto n _ _, .av .nilptr => some n
  | .ptr, .av .nilptr, .new _ _ => some false
  | .ptr, .av .nilptr, .pto n _ _ => some n
  | .slice, .slc s, .av .nilslice => some s.nil
  | .slice, .sln _ _ _, .av .nilslice => some false
  | .slice, .av .nilslice, .slc s => some s.nil
  | .fn, .fn _ _, .av .nilfn => some false
  | .map, .mpn _, .av .nilmap => some false
  | _, _, _ => none

def evs (t : List SV) : List MO → Option (List SV)
  | [] => some []
  | x :: l => match x.ev t, evs t l with
    | .bad, _ => none
    | v, some vs => some (v :: vs)
    | _, none => none

def pureS (A : Nat → Nat) (t : List SV) : MOp → Option SV
  | .mov x => some (x.ev t)
  | .pick c a b => match c.ev t with
    | .av (.bool true) => some (a.ev t)
    | .av (.bool false) => some (b.ev t)
    | _ => none
  | .build z ps => (fillS (z.map .av) (ps.map fun p => (p.1, p.2.1, p.2.2.ev t))).map .agg
  | .nilCheck x => match x.ev t with
    | .new s o => some (.new s o)
    | .nix s o => some (.nix s o)
    | .av (.ptr b o) => some (.av (.ptr b o))
    | _ => none
  | .bin op x y => match x.ev t, y.ev t with
    | .av a, .av b => (binAV op a b).map .av
    | _, _ => none
  | .eqv k neg x y => (eqS k (x.ev t) (y.ev t)).map fun r => .av (.bool (r != neg))
  | .eqAgg ks neg x y => match x.ev t, y.ev t with
    | .agg a, .agg b => (cksEq ks (concs A a) (concs A b)).map fun r => .av (.bool (r != neg))
    | _, _ => none
  | .isNil neg x => match x.ev t with
    | .av .niliface => some (.av (.bool (!neg)))
    | .av (.iface _ _) => some (.av (.bool neg))
    | .ifc _ _ => some (.av (.bool neg))
    | .err n _ _ => some (.av (.bool (n != neg)))
    | _ => none
  | .un op x => match x.ev t with
    | .av a => (unAV op a).map .av
    | _ => none
  | .convInt k x => match x.ev t with
    | .av (.int _ n) => some (.av (.int k (k.wrap n)))
    | _ => none
  | .convStr x => match x.ev t with
    | .av (.str s) => some (.av (.str s))
    | _ => none
  | .mkIface ty x => match x.ev t with
    | .bad => none
    | v => some (.ifc ty v)
  | .mkFn f cap => (evs t cap).map (.fn f)
  | .fieldAddr off x => match x.ev t with
    | .new s o => some (.new s (o + off))
    | .nix s o => some (.nix s (o + off))
    | .av (.ptr b o) => some (.av (.ptr b (o + off)))
    | _ => none
  | .field off agg x => match x.ev t with
    | .agg l => partS agg l off
    | .av (.agg l) => (partOf agg l off).map .av
    | _ => none
  | .lenStr x => match x.ev t with
    | .av (.str s) => some (.av (.int .i64 s.length))
    | _ => none
  | .lenSlc x => match x.ev t with
    | .slc s => some (.av (.int .i64 s.len))
    | .sln _ _ n => some (.av (.int .i64 n))
    | .av .nilslice => some (.av (.int .i64 0))
    | .av (.slice _ _ n) => some (.av (.int .i64 n))
    | _ => none
  | .lenConst n => some (.av (.int .i64 n))
  | .mini x y => match x.ev t, y.ev t with
    | .av (.int k a), .av (.int _ b) => some (.av (.int k (if b < a then b else a)))
    | _, _ => none
  | .maxi x y => match x.ev t, y.ev t with
    | .av (.int k a), .av (.int _ b) => some (.av (.int k (if b > a then b else a)))
    | _, _ => none
  | .extract i x => match x.ev t with
    | .tup l => l[i]?
    | .av (.tuple l) => (l[i]?).map .av
    | _ => none
  | _ => none

def bndS (d : Int) : Option SV → Option Int
  | none => some d
  | some (.av (.int _ i)) => some i
  | some _ => none

def CallE (M : Model) (g : Nat) (args : List AV) (h : Heap) (P : AV → Heap → Prop) : Prop := ∀ Q : AV → Heap → Prop, (∀ v tail, P v tail → Q v (h ++ tail)) → Runs M (.call g args Q) h
def CallP (M : Model) (g : Nat) (args : List AV) (p r : Heap) (P : AV → Heap → Prop) : Prop := ∀ Q : AV → Heap → Prop, (∀ v rest, P v rest → Q v (p ++ rest)) → Runs M (.call g args Q) (p ++ r)

def mapEs (A : Nat → Nat) (H : List Seg) (q : Nat) : SV → (List (AV × AV) → Prop) → Prop
  | .mpn s, f => match H[s]? with
    | some (.obj (.map es)) => f es
    | _ => False
  | .av .nilmap, f => f []
  | .av (.map r), f => ∃ es, (flat A (H.take q))[r]? = some (.map es) ∧ f es
  | _, _ => False

def takeS (z : Nat) (W : List Nat) (A : Nat → Nat) (H : List Seg) (q es : Nat) : SV → (Sum (List SV) (List AV) → Nat → List Seg → Prop) → Prop
  | .av .nilslice, f => f (.inl []) 0 H
  | .sln s o n, f => match H[s]? with
    | some (.con c es') => if wr z W s = true ∧ es' = es ∧ o + n * es ≤ c.length then f (.inl ((c.drop o).take (n * es))) n (H.set s (.obj .dead)) else False
    | some (.row c es') => if wr z W s = true ∧ es' = es then o + n * es ≤ c.length ∧ f (.inr ((c.drop o).take (n * es))) n (H.set s (.obj .dead)) else False
    | _ => False
  | .slc s, f => if wr z W q = true then (match H[q]? with
    | some (.sym g) =>
      ∃ old g', ((s.nil = true ∧ old = [] ∧ g' = g) ∨ (s.nil = false ∧ ∃ k c, s.b = A q + k ∧ g[k]? = some (.arr c es false) ∧ s.o + s.n * es ≤ c.length ∧ old = (c.drop s.o).take (s.n * es) ∧ g' = g.set k .dead)) ∧ f (.inr old) s.len (H.set q (.sym g'))
    | _ => False) else False
  | _, _ => False

def newS (A : Nat → Nat) (H : List Seg) (q es : Nat) : SV → (Sum (List SV) (List AV) → Nat → Prop) → Prop
  | .sln s o n, f => match H[s]? with
    | some (.con c es') => if es' = es ∧ 0 < n ∧ o + n * es ≤ c.length then f (.inl ((c.drop o).take (n * es))) n else False
    | some (.row c es') => if es' = es then 0 < n ∧ o + n * es ≤ c.length ∧ f (.inr ((c.drop o).take (n * es))) n else False
    | _ => False
  | .slc s, f => 0 < s.len ∧ ∃ new, rowOf (flat A (H.take q)) es s.av = some new ∧ f (.inr new) s.len
  | _, _ => False

def joinRow (A : Nat → Nat) (es : Nat) : Sum (List SV) (List AV) → Sum (List SV) (List AV) → Seg
  | .inl a, .inl b => .con (a ++ b) es
  | .inl a, .inr b => .row (concs A a ++ b) es
  | .inr a, .inl b => .row (a ++ concs A b) es
  | .inr a, .inr b => .row (a ++ b) es

section
variable (M : Model) (z : Nat) (W : List Nat)

def wpOp (hi : OH) (o : MOp) (t : List SV) (H : List Seg) (K : SV → List SV → List Seg → Prop) : Prop :=
  match o with
  | .alloc zs es => K (.new H.length 0) t (H ++ [.con (zs.map .av) es])
  | .box n x => match (x.ev t).cells with
    | some cs => if cs.length = n then K (.new H.length 0) t (H ++ [.con cs n]) else False
    | none => False
  | .buildSlice n es zs ps => match fillS (zs.map .av) (ps.map fun p => (p.1, p.2.1, p.2.2.ev t)) with
    | some l => K (.sln H.length 0 n) t (H ++ [.con l es])
    | none => False
  | .load agg a => match a.ev t with
    | .new s o => (match H[s]? with
      | some (.con c es) => (match partS agg c o with
        | some v => K v t H
        | none => False)
      | some (.row c es) => hi.sh.ex fun v => partOf agg c o = some (conc (addr H) v) ∧ K v t H
      | _ => False)
    | .nix s o => (match H[s]? with
      | some (.con c es) => hi.sh.ex fun v => partOf agg (concs (addr H) c) o = some (conc (addr H) v) ∧ K v t H
      | some (.row c es) => hi.sh.ex fun v => partOf agg c o = some (conc (addr H) v) ∧ K v t H
      | _ => False)
    | .av (.ptr b o) => if hi.mode = 0 then (hi.sh.ex fun v => rdVar (flat (addr H) (H.take hi.seg)) agg b o = some (conc (addr H) v) ∧ K v t H)
      else ∃ caps : List AV, rdVar (flat (addr H) (H.take hi.seg)) agg b o = some (.fn hi.mode caps) ∧ K (.av (.fn hi.mode caps)) t H
    | _ => False
  | .store n a x => match (x.ev t).cells with
    | none => False
    | some cs => if cs.length = n then (match a.ev t with
      | .new s o => if wr z W s = true then (match H[s]? with
        | some (.con c es) => if o + n ≤ c.length then K (.av .undef) t (H.set s (.con (setCells c o cs) es)) else False
        | some (.row c es) => o + n ≤ c.length ∧ K (.av .undef) t (H.set s (.row (setCells c o (concs (addr H) cs)) es))
        | _ => False) else False
      | .nix s o => if wr z W s = true then (match H[s]? with
        | some (.con c es) => o + n ≤ (concs (addr H) c).length ∧ K (.av .undef) t (H.set s (.row (setCells (concs (addr H) c) o (concs (addr H) cs)) es))
        | some (.row c es) => o + n ≤ c.length ∧ K (.av .undef) t (H.set s (.row (setCells c o (concs (addr H) cs)) es))
        | _ => False) else False
      | .av (.ptr b o) => if wr z W hi.seg = true then (match H[hi.seg]? with
        | some (.sym g) => ∃ k g', b = addr H hi.seg + k ∧ wrCells g k o (concs (addr H) cs) = some g' ∧ K (.av .undef) t (H.set hi.seg (.sym g'))
        | _ => False) else False
      | _ => False) else False
  | .indexAddr es x i => match x.ev t, i.ev t with
    | .sln s o n, .av (.int _ j) => if hi.mode = 0 then (if 0 ≤ j ∧ j < n then K (.new s (o + j.toNat * es)) t H else False) else (0 ≤ j ∧ j < (n : Int)) ∧ K (.nix s (o + j.toNat * es)) t H
    | .slc s, .av (.int _ j) => (0 ≤ j ∧ j < (s.len : Int)) ∧ K (.av (.ptr s.b (s.o + j.toNat * es))) t H
    | _, _ => False
  | .indexArr es n x i => match x.ev t, i.ev t with
    | .new s o, .av (.int _ j) => if hi.mode = 0 then (if 0 ≤ j ∧ j < n then K (.new s (o + j.toNat * es)) t H else False) else (0 ≤ j ∧ j < (n : Int)) ∧ K (.nix s (o + j.toNat * es)) t H
    | .nix s o, .av (.int _ j) => (0 ≤ j ∧ j < (n : Int)) ∧ K (.nix s (o + j.toNat * es)) t H
    | .av (.ptr b o), .av (.int _ j) => (0 ≤ j ∧ j < (n : Int)) ∧ K (.av (.ptr b (o + j.toNat * es))) t H
    | _, _ => False
  | .indexStr x i => match x.ev t, i.ev t with
    | .av (.str s), .av (.int _ j) => if hi.mode = 0 then (match s[j.toNat]? with
      | some c => if 0 ≤ j then K (.av (.int .u8 c.toNat)) t H else False
      | none => False) else ∃ c, (0 ≤ j ∧ s[j.toNat]? = some c) ∧ K (.av (.int .u8 (c.toNat : Nat))) t H
    | _, _ => False
  | .indexAgg es agg n x i => match x.ev t, i.ev t with
    | .agg l, .av (.int _ j) => if hi.mode = 0 then (if 0 ≤ j ∧ j < n then (match partS agg l (j.toNat * es) with
      | some v => K v t H
      | none => False) else False) else hi.sh.ex fun v => ((0 ≤ j ∧ j < (n : Int)) ∧ partOf agg (concs (addr H) l) (j.toNat * es) = some (conc (addr H) v)) ∧ K v t H
    | .av (.agg l), .av (.int _ j) => hi.sh.ex fun v => ((0 ≤ j ∧ j < (n : Int)) ∧ partOf agg l (j.toNat * es) = some (conc (addr H) v)) ∧ K v t H
    | _, _ => False
  | .sliceStr x lo hi' => match x.ev t, bndS 0 (lo.map (·.ev t)) with
    | .av (.str s), some l => (match bndS s.length (hi'.map (·.ev t)) with
      | some e => (0 ≤ l ∧ l ≤ e ∧ e ≤ (s.length : Int)) ∧ K (.av (.str ((s.drop l.toNat).take (e.toNat - l.toNat)))) t H
      | none => False)
    | _, _ => False
  | .sliceSlc es x lo hi' => match x.ev t, bndS 0 (lo.map (·.ev t)) with
    | .slc s, some l => (match bndS s.len (hi'.map (·.ev t)) with
      | some e => (s.nil = false → ∃ c ro, (flat (addr H) (H.take hi.seg))[s.b]? = some (.arr c es ro)) ∧ (0 ≤ l ∧ l ≤ e ∧ e ≤ (s.len : Int)) ∧ K (.slc ⟨s.b, s.o + l.toNat * es, e.toNat - l.toNat, s.nil⟩) t H
      | none => False)
    | .sln q o n, some l => (match bndS n (hi'.map (·.ev t)) with
      | some e => (match H[q]? with
        | some (.con c es') => if es' = es then (0 ≤ l ∧ l ≤ e ∧ e ≤ (n : Int)) ∧ K (.sln q (o + l.toNat * es) (e.toNat - l.toNat)) t H else False
        | some (.row c es') => if es' = es then (0 ≤ l ∧ l ≤ e ∧ e ≤ (n : Int)) ∧ K (.sln q (o + l.toNat * es) (e.toNat - l.toNat)) t H else False
        | _ => False)
      | none => False)
    | _, _ => False
  | .bin op x y => if hi.mode = 0 then (match pureS (addr H) t (.bin op x y) with
      | some v => K v t H
      | none => False) else (match op, x.ev t, y.ev t with
    | .quo, .av (.int k a), .av (.int k' b) => if k = k' then b ≠ 0 ∧ K (.av (.int k (k.wrap (a.tdiv b)))) t H else False
    | .rem, .av (.int k a), .av (.int k' b) => if k = k' then b ≠ 0 ∧ K (.av (.int k (a.tmod b))) t H else False
    | .add, .av (.str a), .av (.str b) => ((a.length + b.length : Nat) : Int) ≤ 9223372036854775807 ∧ K (.av (.str (a ++ b))) t H
    | _, _, _ => False)
  | .mkMap => K (.mpn H.length) t (H ++ [.obj (.map [])])
  | .mkSlice zs bytes len cap => match len.ev t, cap.ev t with
    | .av (.int .i64 l), .av (.int .i64 c) => (0 ≤ l ∧ l = c ∧ l * bytes ≤ 140737488355328) ∧ (if hi.mode = 0 then K (.sln H.length 0 l.toNat) t (H ++ [.con ((List.flatten (List.replicate l.toNat zs)).map .av) zs.length]) else K (.sln H.length 0 l.toNat) t (H ++ [.row (List.flatten (List.replicate l.toNat zs)) zs.length]))
    | _, _ => False
  | .lookup zv ok m k => match k.ev t with
    | .av kv => mapEs (addr H) H hi.seg (m.ev t) fun es => hi.sh.ex fun v => (∃ r, keyOk kv = true ∧ findKey kv es = some r ∧ conc (addr H) v = if ok then AV.tuple [r.getD zv, .bool r.isSome] else r.getD zv) ∧ K v t H
    | _ => False
  | .mapUpdate m k x => match m.ev t, k.ev t with
    | .mpn s, .av kv => if wr z W s = true ∧ (conc (addr H) (x.ev t)).cells.isSome then (match H[s]? with
      | some (.obj (.map es)) => ∃ es', (keyOk kv = true ∧ setKey kv (conc (addr H) (x.ev t)) es = some es') ∧ K (.av .undef) t (H.set s (.obj (.map es')))
      | _ => False) else False
    | .av (.map r), .av kv => if wr z W hi.seg = true then (match H[hi.seg]? with
      | some (.sym g) => ∃ i es es', (x.ev t ≠ .bad ∧ r = addr H hi.seg + i ∧ g[i]? = some (.map es) ∧ keyOk kv = true ∧ setKey kv (conc (addr H) (x.ev t)) es = some es') ∧ K (.av .undef) t (H.set hi.seg (.sym (g.set i (.map es'))))
      | _ => False) else False
    | _, _ => False
  | .mapDelete m k => match m.ev t, k.ev t with
    | .mpn s, .av kv => if wr z W s = true then (match H[s]? with
      | some (.obj (.map es)) => ∃ es', (keyOk kv = true ∧ delKey kv es = some es') ∧ K (.av .undef) t (H.set s (.obj (.map es')))
      | _ => False) else False
    | .av (.map r), .av kv => if wr z W hi.seg = true then (match H[hi.seg]? with
      | some (.sym g) => ∃ i es es', (r = addr H hi.seg + i ∧ g[i]? = some (.map es) ∧ keyOk kv = true ∧ delKey kv es = some es') ∧ K (.av .undef) t (H.set hi.seg (.sym (g.set i (.map es'))))
      | _ => False) else False
    | _, _ => False
  | .lenMap m => mapEs (addr H) H hi.seg (m.ev t) fun es => K (.av (.int .i64 es.length)) t H
  | .append es bytes s x => newS (addr H) H hi.seg es (x.ev t) fun new n => takeS z W (addr H) H hi.seg es (s.ev t) fun old l H1 =>
      (l + n) * bytes ≤ 140737488355328 ∧ K (.sln H1.length 0 (l + n)) t (H1 ++ [joinRow (addr H) es old new])
  | .appendStr s x => match x.ev t with
    | .av (.str y) => 0 < y.length ∧ takeS z W (addr H) H hi.seg 1 (s.ev t) fun old l H1 =>
      (l + y.length) * 1 ≤ 140737488355328 ∧ K (.sln H1.length 0 (l + y.length)) t (H1 ++ [joinRow (addr H) 1 old (.inr (y.map fun c => .int .u8 c.toNat))])
    | _ => False
  | .runes x => match x.ev t with
    | .av (.str s) => s.all (fun c => Nat.blt c.toNat 128) = true ∧ s.length ≤ 70368744177664 ∧ K (.sln H.length 0 s.length) t (H ++ [.row (s.map fun c => .int .i32 c.toNat) 1])
    | _ => False
  | .copy k x y => match x.ev t with
    | .av .undef => cond (Nat.beq k 0) False (K (.new H.length 0) t (H ++ [.obj (.bld k .nilslice [])]))
    | .slc s => match y.ev t with
      | .new q _ => (s.nil = false ∧ s.b ≠ addr H q) ∧ K (.av .undef) t H
      | _ => False
    | _ => False
  | .rangeStr x => match x.ev t with
    | .av (.str s) => K (.new H.length 0) t (H ++ [.obj (.iter s 0)])
    | _ => False
  | .call f args => match evs t args with
    | none => False
    | some as =>
      let go : Nat → List AV → Prop := fun g l => if hi.mode = 0 then CallE M g l (flat (addr H) H) (fun v tail => hi.sh.ex fun x => v = conc (addr H) x ∧ K x t (H ++ [.sym tail]))
        else (if z ≤ hi.seg ∧ hi.seg ≤ H.length then CallP M g l (flat (addr H) (H.take hi.seg)) (flat (addr H) (H.drop hi.seg)) (fun v rest => hi.sh.ex fun x => v = conc (addr H) x ∧ K x (t.map (dem (addr H) hi.seg)) ((H.take hi.seg).map (Seg.dem (addr H) hi.seg) ++ [.sym rest])) else False)
      match f.ev t with
      | .av (.fn g cap) => go g (concs (addr H) as ++ cap)
      | .fn g cap => go g (concs (addr H) as ++ concs (addr H) cap)
      | _ => False
  | o => match pureS (addr H) t o with
    | some v => K v t H
    | none => False

def wpNext (x : MO) (t : List SV) (H : List Seg) (K K2 : SV → List SV → List Seg → Prop) : Prop :=
  match x.ev t with
  | .new s 0 => if wr z W s = true then (match H[s]? with
    | some (.obj (.iter y p)) => (p < y.length → K (.tup [.av (.bool true), .av (.int .i64 p), .av (.int .i32 (Utf8.decode ⟨y.toArray⟩ p).1)]) t (H.set s (.obj (.iter y (p + (Utf8.decode ⟨y.toArray⟩ p).2))))) ∧ (¬ p < y.length → K2 (.tup [.av (.bool false)]) t H)
    | _ => False) else False
  | _ => False
end
end Go.Abs

set_option linter.unusedVariables false
set_option linter.unusedSimpArgs false
namespace Go.Abs

theorem addr_mono : ∀ (H : List Seg) {a b : Nat}, a ≤ b → addr H a ≤ addr H b
  | [], _, _, _ => by simp [addr]
  | _ :: _, 0, _, _ => by simp [addr]
  | _ :: _, _ + 1, 0, h => by omega
  | x :: H, a + 1, b + 1, h => by
    simp only [addr]
    have := addr_mono H (a := a) (b := b) (by omega)
    omega

theorem take_flat (A : Nat → Nat) {H : List Seg} {z : Nat} (hz : z ≤ H.length) : (flat A H).take (addr H z) = flat A (H.take z) := by
  have e : flat A H = flat A (H.take z) ++ flat A (H.drop z) := by rw [← flat_append, List.take_append_drop]
  have hl : (flat A (H.take z)).length = addr H z := by
    rw [flat_length]
    have : (H.take z).length = z := by simp; omega
    rw [this, addr_take (Nat.le_refl z) hz]
  rw [e, ← hl, List.take_left]

theorem drop_flat (A : Nat → Nat) {H : List Seg} {z : Nat} (hz : z ≤ H.length) : (flat A H).drop (addr H z) = flat A (H.drop z) := by
  have e : flat A H = flat A (H.take z) ++ flat A (H.drop z) := by rw [← flat_append, List.take_append_drop]
  have hl : (flat A (H.take z)).length = addr H z := by
    rw [flat_length]
    have : (H.take z).length = z := by simp; omega
    rw [this, addr_take (Nat.le_refl z) hz]
  rw [e, ← hl, List.drop_left]

theorem concs_av (A : Nat → Nat) (l : List AV) : concs A (l.map .av) = l := by
  rw [concs_map, List.map_map]
  have : (conc A ∘ SV.av) = id := by funext v; simp [conc]
  rw [this, List.map_id]
theorem oks_av (n : Nat) (l : List AV) : oks n (l.map .av) := by
  rw [oks_iff]
  intro v hv
  obtain ⟨a, _, rfl⟩ := List.mem_map.1 hv
  simp [SV.ok]

theorem seg_at {H : List Seg} {h : Heap} (hh : HV H h) {s : Nat} {x : Seg} (hs : H[s]? = some x) (hx : x.len = 1) : h[addr H s]? = (x.heap (addr H))[0]? := by
  have := flat_get (A := addr H) hs (k := 0) (by omega)
  rw [Nat.add_zero] at this
  rw [hh.1]
  exact this

variable {t : List SV} {H : List Seg} {t' : Tmps} {h : Heap} {z : Nat} {W : List Nat}

theorem Val.push (hv : Val t H t' h) (hz : z ≤ H.length) {x : Seg} (hx : x.ok H.length) :
    Val t (H ++ [x]) t' (h ++ x.heap (addr H)) ∧ KeepH z W H h (H ++ [x]) (h ++ x.heap (addr H)) ∧ addr (H ++ [x]) H.length = h.length := by
  have ha : ∀ s, s ≤ H.length → addr (H ++ [x]) s = addr H s := fun s hs => addr_append H [x] s hs
  have hh : HV (H ++ [x]) (h ++ x.heap (addr H)) := by
    refine ⟨?_, ?_⟩
    · rw [flat_append, flat_congr (n := H.length) (fun s hs => ha s (by omega)) H hv.heap.2, ← hv.heap.1]
      congr 1
      have := flat_congr (A := addr H) (A' := addr (H ++ [x])) (n := H.length) (fun s hs => ha s (by omega)) [x] (by simpa using hx)
      rw [this]
      simp [flat]
    · intro s hs
      have hl : (H ++ [x]).length = H.length + 1 := by simp
      rw [hl]
      have hs' : s.ok H.length := by
        rcases List.mem_append.1 hs with h1 | h1
        · exact hv.heap.2 s h1
        · simp at h1; subst h1; exact hx
      cases s <;> simp only [Seg.ok] at hs' ⊢
      exact oks_mono (by omega) _ hs'
  have hlen : h.length = addr H H.length := by rw [hv.heap.1, flat_length]
  refine ⟨hv.mono (by simp) (fun s hs => ha s (by omega)) hh, ⟨by simp; omega, fun s hs => ha s (by omega), ?_⟩, ?_⟩
  · intro s hs hw k h1 h2
    have := addr_mono H (a := s + 1) (b := H.length) (by omega)
    rw [List.getElem?_append_left (by omega)]
  · rw [ha _ (Nat.le_refl _), hlen]

theorem addr_succ : ∀ {H : List Seg} {s : Nat} {x : Seg}, H[s]? = some x → addr H (s + 1) = addr H s + x.len
  | [], s, x, h => by simp at h
  | y :: r, 0, x, h => by simp at h; subst h; simp [addr, addr_zero]
  | y :: r, s + 1, x, h => by
    simp only [addr]
    have := addr_succ (H := r) (s := s) (x := x) (by simpa using h)
    simp only [this]
    omega

theorem set_lens {s : Nat} {x y : Seg} (hs : H[s]? = some x) (hl : y.len = x.len) : (H.set s y).map Seg.len = H.map Seg.len := by
  refine List.ext_getElem? fun i => ?_
  simp only [List.getElem?_map, List.getElem?_set]
  by_cases hi : s = i
  · subst hi
    have hlt := (List.getElem?_eq_some_iff.1 hs).1
    rw [if_pos rfl, if_pos hlt, hs]
    simp [hl]
  · simp [hi]

theorem Val.setSeg (hv : Val t H t' h) (hz0 : z ≤ H.length) {s : Nat} (hz : z ≤ s ∨ s ∈ W) {x y : Seg} (hs : H[s]? = some x) (hl : y.len = x.len) (hy : y.ok H.length) :
    Val t (H.set s y) t' (flat (addr H) (H.set s y)) ∧ KeepH z W H h (H.set s y) (flat (addr H) (H.set s y)) ∧ addr (H.set s y) = addr H ∧ (H.set s y).length = H.length := by
  have hlt := (List.getElem?_eq_some_iff.1 hs).1
  have ha : addr (H.set s y) = addr H := by funext i; exact addr_lens (set_lens hs hl)
  have hh : HV (H.set s y) (flat (addr H) (H.set s y)) := by
    refine ⟨by rw [ha], fun u hu => ?_⟩
    rw [List.length_set]
    rcases List.mem_or_eq_of_mem_set hu with h1 | h1
    · exact hv.heap.2 u h1
    · subst h1; exact hy
  refine ⟨hv.mono (by simp) (fun i _ => by rw [ha]) hh, ⟨by simp; omega, fun i _ => by rw [ha], ?_⟩, ha, by simp⟩
  intro u hu hw k h1 h2
  have hne : s ≠ u := by
    rintro rfl
    rcases hz with hz | hz
    · omega
    · exact hw hz
  have hul : u < H.length := by omega
  have e1 : H[u]? = some H[u] := List.getElem?_eq_getElem hul
  have e2 : (H.set s y)[u]? = some H[u] := by rw [List.getElem?_set_ne hne, e1]
  rw [addr_succ e1] at h2
  obtain ⟨i, rfl⟩ : ∃ i, k = addr H u + i := ⟨k - addr H u, by omega⟩
  have g1 := flat_get (A := addr H) e1 (k := i) (by omega)
  have g2 := flat_get (A := addr H) e2 (k := i) (by omega)
  rw [ha] at g2
  rw [g2, hv.heap.1, g1]

theorem cells_spec {v : SV} {cs : List SV} {n : Nat} {A : Nat → Nat} (h : v.cells = some cs) (hv : v.ok n) : (conc A v).cells = some (concs A cs) ∧ oks n cs := by
  cases v with
  | av v =>
    cases v <;> simp only [SV.cells, Option.some.injEq, reduceCtorEq] at h <;> subst h <;> (try simp [conc, concs, AV.cells, oks, SV.ok, concs_av])
    exact oks_av n _
  | slc s =>
    simp only [SV.cells, Option.some.injEq] at h
    subst h
    cases hs : s.nil <;> simp [conc, concs, Slc.av, hs, AV.cells, oks, SV.ok]
  | pto nil b o =>
    simp only [SV.cells, Option.some.injEq] at h
    subst h
    cases nil <;> simp [conc, concs, AV.cells, oks, SV.ok]
  | err nil b o =>
    simp only [SV.cells, Option.some.injEq] at h
    subst h
    cases nil <;> simp [conc, concs, AV.cells, oks, SV.ok]
  | agg l =>
    simp only [SV.cells, Option.some.injEq] at h
    subst h
    simp only [SV.ok] at hv
    exact ⟨by simp [conc, AV.cells], hv⟩
  | tup l => simp [SV.cells] at h
  | ob l => simp [SV.cells] at h
  | hp l => simp [SV.cells] at h
  | bad => simp [SV.cells] at h
  | _ =>
    simp only [SV.cells, Option.some.injEq] at h
    subst h
    refine ⟨by simp [conc, concs, AV.cells], ?_⟩
    simp only [oks, and_true]
    exact hv

theorem concs_setCells (A : Nat → Nat) : ∀ (cs c : List SV) (o : Nat), concs A (setCells c o cs) = setCells (concs A c) o (concs A cs)
  | [], c, o => by simp [setCells, concs]
  | x :: cs, c, o => by
    simp only [setCells, concs]
    rw [concs_setCells A cs]
    congr 1
    simp [concs_map, List.map_set]

theorem oks_setCells {n : Nat} {cs c : List SV} {o : Nat} (h1 : oks n c) (h2 : oks n cs) : oks n (setCells c o cs) := by
  rw [oks_iff] at *
  exact setCells_mem (p := SV.ok n) cs c o h1 h2

theorem fill_spec {A : Nat → Nat} {n : Nat} {ps : List (Nat × Nat × MO)} (hv : Val t H t' h) : ∀ {z0 l : List SV}, fillS z0 (ps.map fun p => (p.1, p.2.1, p.2.2.ev t)) = some l → oks H.length z0 →
    fill (concs (addr H) z0) (ps.map fun p => (p.1, p.2.1, p.2.2.eval t')) = some (concs (addr H) l) ∧ oks H.length l := by
  induction ps with
  | nil =>
    intro z0 l h0 hz
    simp only [List.map_nil, fillS, Option.some.injEq] at h0
    subst h0
    exact ⟨by simp [fill], hz⟩
  | cons p ps ih =>
    intro z0 l h0 hz
    obtain ⟨off, sz, x⟩ := p
    simp only [List.map_cons, fillS] at h0
    split at h0
    · rename_i cs hcs
      split at h0
      · rename_i hc
        have hb : x.ev t ≠ .bad := by
          intro hb
          rw [hb] at hcs
          simp [SV.cells] at hcs
        obtain ⟨ok, e⟩ := (hv.ev x).ok hb
        obtain ⟨c1, c2⟩ := cells_spec (A := addr H) hcs ok
        obtain ⟨i1, i2⟩ := ih h0 (oks_setCells hz c2)
        refine ⟨?_, i2⟩
        simp only [List.map_cons, fill]
        rw [e, c1]
        simp only [concs_length]
        rw [if_pos hc, ← concs_setCells]
        exact i1
      · cases h0
    · cases h0

theorem partS_spec {agg : Option Nat} {l : List SV} {off : Nat} {v : SV} (h : partS agg l off = some v) (A : Nat → Nat) (n : Nat) (hl : oks n l) : partOf agg (concs A l) off = some (conc A v) ∧ v.ok n := by
  rw [oks_iff] at hl
  unfold partS at h
  unfold partOf
  split at h
  · refine ⟨by simp [concs_map, h], hl v ?_⟩
    exact List.mem_of_getElem? h
  · split at h
    · rename_i hc
      cases h
      simp only [concs_length, if_pos hc, conc, SV.ok]
      refine ⟨by simp [concs_map, List.map_drop, List.map_take], ?_⟩
      rw [oks_iff]
      exact fun v hv => hl v (List.mem_of_mem_drop (List.mem_of_mem_take hv))
    · cases h

theorem rdVar_part {h : Heap} {b o es : Nat} {c : List AV} {ro : Bool} (hb : h[b]? = some (.arr c es ro)) (agg : Option Nat) : rdVar h agg b o = partOf agg c o := by
  unfold rdVar partOf rdCells
  rw [hb]
  cases agg with
  | none =>
    simp only
    split
    · rename_i hc
      have : o < c.length := by omega
      simp [List.head?_take, List.head?_drop]
    · rename_i hc
      simp [List.getElem?_eq_none (by omega : c.length ≤ o)]
  | some n =>
    simp only
    split <;> simp

theorem rdVar_take {A : Nat → Nat} {q : Nat} {agg : Option Nat} {b o : Nat} {v : AV} (hr : rdVar (flat A (H.take q)) agg b o = some v) : rdVar (flat A H) agg b o = some v := by
  have e : flat A H = flat A (H.take q) ++ flat A (H.drop q) := by rw [← flat_append, List.take_append_drop]
  rw [e]
  exact Ext.rdVar ⟨_, rfl⟩ hr

theorem get_take {A : Nat → Nat} {q b : Nat} {o : AObj} (hr : (flat A (H.take q))[b]? = some o) : (flat A H)[b]? = some o := by
  have e : flat A H = flat A (H.take q) ++ flat A (H.drop q) := by rw [← flat_append, List.take_append_drop]
  rw [e]
  exact Ext.get ⟨_, rfl⟩ hr

theorem evs_spec (hv : Val t H t' h) : ∀ {args : List MO} {as : List SV}, evs t args = some as → args.map (·.eval t') = concs (addr H) as ∧ oks H.length as
  | [], as, h0 => by simp only [evs, Option.some.injEq] at h0; subst h0; simp [concs, oks]
  | x :: l, as, h0 => by
    simp only [evs] at h0
    split at h0
    · cases h0
    · rename_i v vs hx hvs hb
      cases h0
      obtain ⟨i1, i2⟩ := evs_spec hv hvs
      obtain ⟨ok, e⟩ := (hv.ev x).ok (by intro hb'; exact hb hb')
      exact ⟨by simp only [List.map_cons, concs, i1, e], by simp only [oks]; exact ⟨ok, i2⟩⟩
    · cases h0

theorem eqS_spec {k : EqK} {x y : SV} {r : Bool} (h0 : eqS k x y = some r) (A : Nat → Nat) : valEq k (conc A x) (conc A y) = some r := by
  unfold eqS at h0
  split at h0
  all_goals first
    | (simp only [conc]; exact h0)
    | (cases h0; simp [conc, valEq]; done)
    | (cases h0; cases r <;> simp [conc, valEq]; done)
    | (cases h0; rename_i s; cases hs : s.nil <;> simp [conc, Slc.av, hs, valEq]; done)
    | (cases h0; done)

theorem ret_ok {o : MOp} {v : SV} (hv : v.ok H.length) (he : evalOp t' h o = some (conc (addr H) v, h)) : ∃ a, evalOp t' h o = some (a, h) ∧ VV H v a := ⟨_, he, .inr ⟨hv, rfl⟩⟩

theorem pureS_sound (hv : Val t H t' h) {o : MOp} {v : SV} (hp : pureS (addr H) t o = some v) : ∃ a, evalOp t' h o = some (a, h) ∧ VV H v a := by
  have hx : ∀ (x : MO) {u : SV}, x.ev t = u → u ≠ .bad → u.ok H.length ∧ x.eval t' = conc (addr H) u := fun x u e hb => by subst e; exact (hv.ev x).ok hb
  cases o with
  | mov x =>
    simp only [pureS, Option.some.injEq] at hp
    subst hp
    exact ⟨_, rfl, hv.ev x⟩
  | pick c a b =>
    simp only [pureS] at hp
    split at hp
    · rename_i e
      cases hp
      obtain ⟨_, e⟩ := hx c e (by simp)
      simp only [conc] at e
      exact ⟨_, by simp [evalOp, e], hv.ev a⟩
    · rename_i e
      cases hp
      obtain ⟨_, e⟩ := hx c e (by simp)
      simp only [conc] at e
      exact ⟨_, by simp [evalOp, e], hv.ev b⟩
    · cases hp
  | build z0 ps =>
    simp only [pureS, Option.map_eq_some_iff] at hp
    obtain ⟨l, hl, rfl⟩ := hp
    obtain ⟨f1, f2⟩ := fill_spec (A := addr H) (n := H.length) hv hl (oks_av _ _)
    rw [concs_av] at f1
    exact ret_ok (by simp only [SV.ok]; exact f2) (by simp only [evalOp, f1, Option.map_some, conc])
  | nilCheck x =>
    simp only [pureS] at hp
    split at hp
    all_goals first
      | (cases hp; done)
      | (rename_i e; cases hp; obtain ⟨k1, e⟩ := hx x e (by simp); simp only [conc] at e; exact ret_ok (k1) (by simp only [evalOp, e, conc]))
  | bin op x y =>
    simp only [pureS] at hp
    split at hp
    · rename_i a b e1 e2
      simp only [Option.map_eq_some_iff] at hp
      obtain ⟨r, hr, rfl⟩ := hp
      obtain ⟨_, e1⟩ := hx x e1 (by simp)
      obtain ⟨_, e2⟩ := hx y e2 (by simp)
      simp only [conc] at e1 e2
      exact ret_ok (by simp only [SV.ok]) (by simp only [evalOp, e1, e2, hr, Option.map_some, conc])
    · cases hp
  | eqv k neg x y =>
    simp only [pureS, Option.map_eq_some_iff] at hp
    obtain ⟨r, hr, rfl⟩ := hp
    have hxb : x.ev t ≠ .bad := by intro e; rw [e] at hr; cases k <;> simp [eqS] at hr
    have hyb : y.ev t ≠ .bad := by
      intro e
      rw [e] at hr
      cases k <;> cases hxe : x.ev t <;> rw [hxe] at hr <;> simp [eqS] at hr
    obtain ⟨_, e1⟩ := hx x rfl hxb
    obtain ⟨_, e2⟩ := hx y rfl hyb
    exact ret_ok (by simp only [SV.ok]) (by simp only [evalOp, e1, e2, eqS_spec hr (addr H), Option.map_some, conc])
  | eqAgg ks neg x y =>
    simp only [pureS] at hp
    split at hp
    · rename_i a b e1 e2
      simp only [Option.map_eq_some_iff] at hp
      obtain ⟨r, hr, rfl⟩ := hp
      obtain ⟨_, e1⟩ := hx x e1 (by simp)
      obtain ⟨_, e2⟩ := hx y e2 (by simp)
      simp only [conc] at e1 e2
      exact ret_ok (by simp only [SV.ok]) (by simp only [evalOp, e1, e2, hr, Option.map_some, conc])
    · cases hp
  | isNil neg x =>
    simp only [pureS] at hp
    split at hp
    · rename_i e
      cases hp
      obtain ⟨_, e⟩ := hx x e (by simp)
      simp only [conc] at e
      exact ret_ok (by simp only [SV.ok]) (by simp only [evalOp, e, conc])
    · rename_i e
      cases hp
      obtain ⟨_, e⟩ := hx x e (by simp)
      simp only [conc] at e
      exact ret_ok (by simp only [SV.ok]) (by simp only [evalOp, e, conc])
    · rename_i e
      cases hp
      obtain ⟨_, e⟩ := hx x e (by simp)
      simp only [conc] at e
      exact ret_ok (by simp only [SV.ok]) (by simp only [evalOp, e, conc])
    · rename_i n ty v0 e
      cases hp
      obtain ⟨_, e⟩ := hx x e (by simp)
      simp only [conc] at e
      cases n <;> simp only [cond_true, cond_false] at e <;> exact ret_ok (by simp only [SV.ok]) (by simp [evalOp, e, conc])
    · cases hp
  | un op x =>
    simp only [pureS] at hp
    split at hp
    · rename_i a e1
      simp only [Option.map_eq_some_iff] at hp
      obtain ⟨r, hr, rfl⟩ := hp
      obtain ⟨_, e1⟩ := hx x e1 (by simp)
      simp only [conc] at e1
      exact ret_ok (by simp only [SV.ok]) (by simp only [evalOp, e1, hr, Option.map_some, conc])
    · cases hp
  | convInt k x =>
    simp only [pureS] at hp
    split at hp
    · rename_i e
      cases hp
      obtain ⟨_, e⟩ := hx x e (by simp)
      simp only [conc] at e
      exact ret_ok (by simp only [SV.ok]) (by simp only [evalOp, e, conc])
    · cases hp
  | convStr x =>
    simp only [pureS] at hp
    split at hp
    · rename_i e
      cases hp
      obtain ⟨_, e⟩ := hx x e (by simp)
      simp only [conc] at e
      exact ret_ok (by simp only [SV.ok]) (by simp only [evalOp, e, conc])
    · cases hp
  | mkIface ty x =>
    simp only [pureS] at hp
    split at hp
    · cases hp
    · rename_i hb
      cases hp
      obtain ⟨k1, e⟩ := hx x rfl (fun e => hb e)
      exact ret_ok (by simp only [SV.ok]; exact k1) (by simp only [evalOp, e, conc])
  | mkFn f cap =>
    simp only [pureS, Option.map_eq_some_iff] at hp
    obtain ⟨l, hl, rfl⟩ := hp
    obtain ⟨e1, e2⟩ := evs_spec hv hl
    exact ret_ok (by simp only [SV.ok]; exact e2) (by simp only [evalOp, e1, conc])
  | fieldAddr off x =>
    simp only [pureS] at hp
    split at hp
    all_goals first
      | (cases hp; done)
      | (rename_i e; cases hp; obtain ⟨k1, e⟩ := hx x e (by simp); simp only [conc] at e; exact ret_ok (by simp only [SV.ok] at k1 ⊢; first | done | exact k1) (by simp only [evalOp, e, conc]))
  | field off agg x =>
    simp only [pureS] at hp
    split at hp
    · rename_i l e
      obtain ⟨k1, e⟩ := hx x e (by simp)
      simp only [conc] at e
      simp only [SV.ok] at k1
      obtain ⟨p1, p2⟩ := partS_spec hp (addr H) H.length k1
      exact ⟨_, by simp only [evalOp, e, p1, Option.map_some], .inr ⟨p2, rfl⟩⟩
    · rename_i l e
      simp only [Option.map_eq_some_iff] at hp
      obtain ⟨r, hr, rfl⟩ := hp
      obtain ⟨_, e⟩ := hx x e (by simp)
      simp only [conc] at e
      exact ret_ok (by simp only [SV.ok]) (by simp only [evalOp, e, hr, Option.map_some, conc])
    · cases hp
  | lenStr x =>
    simp only [pureS] at hp
    split at hp
    · rename_i e
      cases hp
      obtain ⟨_, e⟩ := hx x e (by simp)
      simp only [conc] at e
      exact ret_ok (by simp only [SV.ok]) (by simp only [evalOp, e, conc])
    · cases hp
  | lenSlc x =>
    simp only [pureS] at hp
    split at hp
    · rename_i s e
      cases hp
      obtain ⟨_, e⟩ := hx x e (by simp)
      simp only [conc] at e
      refine ⟨.int .i64 s.len, ?_, .inr ⟨by simp only [SV.ok], by simp only [conc]⟩⟩
      cases hs : s.nil <;> simp [evalOp, e, Slc.av, Slc.len, hs]
    all_goals first
      | (cases hp; done)
      | (rename_i e; cases hp; obtain ⟨k1, e⟩ := hx x e (by simp); simp only [conc] at e; exact ret_ok (by simp only [SV.ok]) (by simp only [evalOp, e, conc]))
  | lenConst n =>
    simp only [pureS, Option.some.injEq] at hp
    subst hp
    exact ⟨_, rfl, .inr ⟨by simp only [SV.ok], by simp only [conc]⟩⟩
  | mini x y =>
    simp only [pureS] at hp
    split at hp
    · rename_i a b e1 e2
      cases hp
      obtain ⟨_, e1⟩ := hx x e1 (by simp)
      obtain ⟨_, e2⟩ := hx y e2 (by simp)
      simp only [conc] at e1 e2
      exact ret_ok (by simp only [SV.ok]) (by simp only [evalOp, e1, e2, conc])
    · cases hp
  | maxi x y =>
    simp only [pureS] at hp
    split at hp
    · rename_i a b e1 e2
      cases hp
      obtain ⟨_, e1⟩ := hx x e1 (by simp)
      obtain ⟨_, e2⟩ := hx y e2 (by simp)
      simp only [conc] at e1 e2
      exact ret_ok (by simp only [SV.ok]) (by simp only [evalOp, e1, e2, conc])
    · cases hp
  | extract i x =>
    simp only [pureS] at hp
    split at hp
    · rename_i l e
      obtain ⟨k1, e⟩ := hx x e (by simp)
      simp only [conc] at e
      simp only [SV.ok, oks_iff] at k1
      refine ⟨_, by simp only [evalOp, e, concs_map, List.getElem?_map, hp, Option.map_some], .inr ⟨k1 v (List.mem_of_getElem? hp), rfl⟩⟩
    · rename_i l e
      simp only [Option.map_eq_some_iff] at hp
      obtain ⟨r, hr, rfl⟩ := hp
      obtain ⟨_, e⟩ := hx x e (by simp)
      simp only [conc] at e
      exact ret_ok (by simp only [SV.ok]) (by simp only [evalOp, e, hr, Option.map_some, conc])
    · cases hp
  | _ => simp [pureS] at hp
end Go.Abs

set_option linter.unusedVariables false
set_option linter.unusedSimpArgs false
namespace Go.Abs

section
variable {M : Model} {t : List SV} {H : List Seg} {t' : Tmps} {h : Heap} {z : Nat} {W : List Nat} {hi : OH} {K : SV → List SV → List Seg → Prop} {Q : AV → Heap → Prop}

def Posts (z : Nat) (W : List Nat) (H : List Seg) (h : Heap) (t' : Tmps) (K : SV → List SV → List Seg → Prop) (Q : AV → Heap → Prop) : Prop :=
  ∀ v t1 H1 a h1, Val t1 H1 t' h1 → VV H1 v a → KeepH z W H h H1 h1 → K v t1 H1 → Q a h1

theorem ev_ok (hv : Val t H t' h) (x : MO) {u : SV} (e : x.ev t = u) (hb : u ≠ .bad) : u.ok H.length ∧ x.eval t' = conc (addr H) u := by
  subst e
  exact (hv.ev x).ok hb

theorem fin_stay (hv : Val t H t' h) (hz : z ≤ H.length) (hK : Posts z W H h t' K Q) {o : MOp} {a : AV} {v : SV} (he : evalOp t' h o = some (a, h)) (hvv : VV H v a) (hk : K v t H) : Runs M (.op o t' Q) h :=
  .op he (hK _ _ _ _ _ hv hvv (KeepH.refl hz) hk)

theorem fin_ok (hv : Val t H t' h) (hz : z ≤ H.length) (hK : Posts z W H h t' K Q) {o : MOp} {v : SV} (ok : v.ok H.length) (he : evalOp t' h o = some (conc (addr H) v, h)) (hk : K v t H) : Runs M (.op o t' Q) h :=
  fin_stay hv hz hK he (.inr ⟨ok, rfl⟩) hk

theorem fin_push (hv : Val t H t' h) (hz : z ≤ H.length) (hK : Posts z W H h t' K Q) {o : MOp} {a : AV} {v : SV} {x : Seg} (hx : x.ok H.length) (he : evalOp t' h o = some (a, h ++ x.heap (addr H)))
    (hvv : addr (H ++ [x]) H.length = h.length → VV (H ++ [x]) v a) (hk : K v t (H ++ [x])) : Runs M (.op o t' Q) h := by
  obtain ⟨h1, h2, h3⟩ := hv.push hz hx
  exact .op he (hK _ _ _ _ _ h1 (hvv h3) h2 hk)

theorem fin_set (hv : Val t H t' h) (hz0 : z ≤ H.length) (hK : Posts z W H h t' K Q) {o : MOp} {a : AV} {v : SV} {s : Nat} {x y : Seg} (hz : z ≤ s ∨ s ∈ W) (hs : H[s]? = some x) (hl : y.len = x.len) (hy : y.ok H.length)
    (he : evalOp t' h o = some (a, flat (addr H) (H.set s y))) (hvv : VV H v a) (hk : K v t (H.set s y)) : Runs M (.op o t' Q) h := by
  obtain ⟨h1, h2, h3, h4⟩ := hv.setSeg hz0 hz hs hl hy
  exact .op he (hK _ _ _ _ _ h1 (hvv.mono (by omega) (fun i _ => by rw [h3])) h2 hk)

theorem av_ok {H : List Seg} (v : AV) : VV H (.av v) v := .inr ⟨by simp only [SV.ok], by simp only [conc]⟩

theorem fin_ex (hv : Val t H t' h) (hz : z ≤ H.length) (hK : Posts z W H h t' K Q) {o : MOp} {s : Sh} {p : SV → Prop} (hw : s.ex fun v => p v ∧ K v t H) (he : ∀ v, p v → evalOp t' h o = some (conc (addr H) v, h)) : Runs M (.op o t' Q) h := by
  obtain ⟨v, ⟨hp, hk⟩, ok⟩ := ex_spec s hw
  exact fin_stay hv hz hK (he v hp) (.inr ⟨ok _, rfl⟩) hk

theorem op_alloc (hv : Val t H t' h) (hz : z ≤ H.length) (hK : Posts z W H h t' K Q) {zs : List AV} {es : Nat} (hw : wpOp M z W hi (.alloc zs es) t H K) : Runs M (.op (.alloc zs es) t' Q) h := by
  simp only [wpOp] at hw
  refine fin_push hv hz hK (x := .con (zs.map .av) es) (by simp only [Seg.ok]; exact oks_av _ _) (a := .ptr h.length 0) (by simp only [evalOp, Seg.heap, concs_av]) (fun e => .inr ⟨by simp [SV.ok], by simp [conc, e]⟩) hw

theorem op_box (hv : Val t H t' h) (hz : z ≤ H.length) (hK : Posts z W H h t' K Q) {n : Nat} {x : MO} (hw : wpOp M z W hi (.box n x) t H K) : Runs M (.op (.box n x) t' Q) h := by
  simp only [wpOp] at hw
  split at hw
  · rename_i cs hcs
    split at hw
    · rename_i hn
      obtain ⟨ok, e⟩ := ev_ok hv x rfl (by intro hb; rw [hb] at hcs; simp [SV.cells] at hcs)
      obtain ⟨c1, c2⟩ := cells_spec (A := addr H) hcs ok
      refine fin_push hv hz hK (x := .con cs n) (by simp only [Seg.ok]; exact c2) (a := .ptr h.length 0) (by simp only [evalOp, e, c1, concs_length, if_pos hn, Seg.heap]) (fun e => .inr ⟨by simp [SV.ok], by simp [conc, e]⟩) hw
    · exact hw.elim
  · exact hw.elim

theorem op_buildSlice (hv : Val t H t' h) (hz : z ≤ H.length) (hK : Posts z W H h t' K Q) {n es : Nat} {zs : List AV} {ps : List (Nat × Nat × MO)} (hw : wpOp M z W hi (.buildSlice n es zs ps) t H K) : Runs M (.op (.buildSlice n es zs ps) t' Q) h := by
  simp only [wpOp] at hw
  split at hw
  · rename_i l hl
    obtain ⟨f1, f2⟩ := fill_spec (A := addr H) (n := H.length) hv hl (oks_av _ _)
    rw [concs_av] at f1
    refine fin_push hv hz hK (x := .con l es) (by simp only [Seg.ok]; exact f2) (a := .slice h.length 0 n) (by simp only [evalOp, f1, Option.map_some, Seg.heap]) (fun e => .inr ⟨by simp [SV.ok], by simp [conc, e]⟩) hw
  · exact hw.elim

theorem con_at (hv : Val t H t' h) {s es : Nat} {c : List SV} (hs : H[s]? = some (.con c es)) : h[addr H s]? = some (.arr (concs (addr H) c) es false) ∧ oks H.length c := by
  refine ⟨by rw [seg_at hv.heap hs rfl]; simp [Seg.heap], ?_⟩
  exact hv.heap.2 _ (List.mem_of_getElem? hs)
theorem row_at (hv : Val t H t' h) {s es : Nat} {c : List AV} (hs : H[s]? = some (.row c es)) : h[addr H s]? = some (.arr c es false) := by rw [seg_at hv.heap hs rfl]; simp [Seg.heap]
theorem obj_at (hv : Val t H t' h) {s : Nat} {o : AObj} (hs : H[s]? = some (.obj o)) : h[addr H s]? = some o := by rw [seg_at hv.heap hs rfl]; simp [Seg.heap]

theorem op_load (hv : Val t H t' h) (hz : z ≤ H.length) (hK : Posts z W H h t' K Q) {agg : Option Nat} {x : MO} (hw : wpOp M z W hi (.load agg x) t H K) : Runs M (.op (.load agg x) t' Q) h := by
  simp only [wpOp] at hw
  split at hw
  · rename_i s o e
    obtain ⟨ok, e⟩ := ev_ok hv x e (by simp)
    simp only [conc] at e
    split at hw
    · rename_i c es hs
      obtain ⟨h1, h2⟩ := con_at hv hs
      split at hw
      · rename_i v hp
        obtain ⟨p1, p2⟩ := partS_spec hp (addr H) _ h2
        exact fin_stay hv hz hK (by simp only [evalOp, e, rdVar_part h1, p1, Option.map_some]) (.inr ⟨p2, rfl⟩) hw
      · exact hw.elim
    · rename_i c es hs
      have h1 := row_at hv hs
      exact fin_ex hv hz hK hw fun v hp => by simp only [evalOp, e, rdVar_part h1, hp, Option.map_some]
    · exact hw.elim
  · rename_i s o e
    obtain ⟨ok, e⟩ := ev_ok hv x e (by simp)
    simp only [conc] at e
    split at hw
    · rename_i c es hs
      obtain ⟨h1, h2⟩ := con_at hv hs
      exact fin_ex hv hz hK hw fun v hp => by simp only [evalOp, e, rdVar_part h1, hp, Option.map_some]
    · rename_i c es hs
      have h1 := row_at hv hs
      exact fin_ex hv hz hK hw fun v hp => by simp only [evalOp, e, rdVar_part h1, hp, Option.map_some]
    · exact hw.elim
  · rename_i b o e
    obtain ⟨ok, e⟩ := ev_ok hv x e (by simp)
    simp only [conc] at e
    split at hw
    · refine fin_ex hv hz hK hw fun v hp => ?_
      have := rdVar_take (H := H) hp
      rw [← hv.heap.1] at this
      simp only [evalOp, e, this, Option.map_some]
    · obtain ⟨caps, hp, hw⟩ := hw
      have := rdVar_take (H := H) hp
      rw [← hv.heap.1] at this
      have he : evalOp t' h (.load agg x) = some (.fn hi.mode caps, h) := by simp only [evalOp, e, this, Option.map_some]
      exact fin_stay hv hz hK he (.inr ⟨by simp only [SV.ok], by simp only [conc]⟩) hw
  · exact hw.elim

theorem wr_at {b o es : Nat} {c vs : List AV} (hb : h[b]? = some (.arr c es false)) (hl : o + vs.length ≤ c.length) : wrCells h b o vs = some (h.set b (.arr (setCells c o vs) es false)) := by simp [wrCells, hb, hl]

theorem set_at (hv : Val t H t' h) {s : Nat} {x y : Seg} {o : AObj} (hs : H[s]? = some x) (hl : x.len = 1) (hy : y.heap (addr H) = [o]) (hx : ∃ p, x.heap (addr H) = [p]) : h.set (addr H s) o = flat (addr H) (H.set s y) := by
  obtain ⟨p, hp⟩ := hx
  have := flat_set (A := addr H) hs (k := 0) (y := y) (o := o) (by omega) (by rw [hp, hy]; rfl)
  rw [Nat.add_zero] at this
  rw [← this, hv.heap.1]

theorem sym_wr (hv : Val t H t' h) {q k o : Nat} {g g' : Heap} {vs : List AV} (hs : H[q]? = some (.sym g)) (hw : wrCells g k o vs = some g') : wrCells h (addr H q + k) o vs = some (flat (addr H) (H.set q (.sym g'))) ∧ g'.length = g.length := by
  unfold wrCells at hw
  split at hw
  · rename_i c es hk
    split at hw
    · rename_i hl
      cases hw
      have hlt := (List.getElem?_eq_some_iff.1 hk).1
      have h1 := flat_get (A := addr H) hs (k := k) hlt
      rw [← hv.heap.1] at h1
      simp only [Seg.heap] at h1
      rw [hk] at h1
      refine ⟨?_, by simp⟩
      rw [wr_at h1 hl]
      congr 1
      rw [← flat_set (A := addr H) hs (k := k) (o := .arr (setCells c o vs) es false) hlt (by simp only [Seg.heap]), ← hv.heap.1]
    · cases hw
  · cases hw

theorem op_store (hv : Val t H t' h) (hz : z ≤ H.length) (hK : Posts z W H h t' K Q) {n : Nat} {a x : MO} (hw : wpOp M z W hi (.store n a x) t H K) : Runs M (.op (.store n a x) t' Q) h := by
  simp only [wpOp] at hw
  split at hw
  · exact hw.elim
  · rename_i cs hcs
    split at hw
    · rename_i hn
      obtain ⟨ok, ex⟩ := ev_ok hv x rfl (by intro hb; rw [hb] at hcs; simp [SV.cells] at hcs)
      obtain ⟨c1, c2⟩ := cells_spec (A := addr H) hcs ok
      have hn' : (concs (addr H) cs).length = n := by rw [concs_length, hn]
      split at hw
      · rename_i s o e
        obtain ⟨ok2, e⟩ := ev_ok hv a e (by simp)
        simp only [conc] at e
        split at hw
        · rename_i hzs
          split at hw
          · rename_i c es hs
            obtain ⟨h1, h2⟩ := con_at hv hs
            split at hw
            · rename_i hl
              refine fin_set hv hz hK (wr_spec hzs) hs (y := .con (setCells c o cs) es) rfl (by simp only [Seg.ok]; exact oks_setCells h2 c2) ?_ (av_ok _) hw
              simp only [evalOp, e, ex, c1, if_pos hn', wr_at h1 (vs := concs (addr H) cs) (o := o) (by rw [hn', concs_length]; exact hl), Option.map_some]
              rw [set_at hv hs rfl (y := .con (setCells c o cs) es) (by simp only [Seg.heap, concs_setCells]) ⟨_, rfl⟩]
            · exact hw.elim
          · rename_i c es hs
            have h1 := row_at hv hs
            obtain ⟨hl, hw⟩ := hw
            refine fin_set hv hz hK (wr_spec hzs) hs (y := .row (setCells c o (concs (addr H) cs)) es) rfl (by simp only [Seg.ok]) ?_ (av_ok _) hw
            simp only [evalOp, e, ex, c1, if_pos hn', wr_at h1 (vs := concs (addr H) cs) (o := o) (by rw [hn']; exact hl), Option.map_some]
            rw [set_at hv hs rfl (y := .row (setCells c o (concs (addr H) cs)) es) (by simp only [Seg.heap]) ⟨_, rfl⟩]
          · exact hw.elim
        · exact hw.elim
      · rename_i s o e
        obtain ⟨ok2, e⟩ := ev_ok hv a e (by simp)
        simp only [conc] at e
        split at hw
        · rename_i hzs
          split at hw
          · rename_i c es hs
            obtain ⟨h1, h2⟩ := con_at hv hs
            obtain ⟨hl, hw⟩ := hw
            refine fin_set hv hz hK (wr_spec hzs) hs (y := .row (setCells (concs (addr H) c) o (concs (addr H) cs)) es) rfl (by simp only [Seg.ok]) ?_ (av_ok _) hw
            simp only [evalOp, e, ex, c1, if_pos hn', wr_at h1 (vs := concs (addr H) cs) (o := o) (by rw [hn']; exact hl), Option.map_some]
            rw [set_at hv hs rfl (y := .row (setCells (concs (addr H) c) o (concs (addr H) cs)) es) (by simp only [Seg.heap]) ⟨_, rfl⟩]
          · rename_i c es hs
            have h1 := row_at hv hs
            obtain ⟨hl, hw⟩ := hw
            refine fin_set hv hz hK (wr_spec hzs) hs (y := .row (setCells c o (concs (addr H) cs)) es) rfl (by simp only [Seg.ok]) ?_ (av_ok _) hw
            simp only [evalOp, e, ex, c1, if_pos hn', wr_at h1 (vs := concs (addr H) cs) (o := o) (by rw [hn']; exact hl), Option.map_some]
            rw [set_at hv hs rfl (y := .row (setCells c o (concs (addr H) cs)) es) (by simp only [Seg.heap]) ⟨_, rfl⟩]
          · exact hw.elim
        · exact hw.elim
      · rename_i b o e
        obtain ⟨ok2, e⟩ := ev_ok hv a e (by simp)
        simp only [conc] at e
        split at hw
        · rename_i hzs
          split at hw
          · rename_i g hs
            obtain ⟨k, g', rfl, hwr, hw⟩ := hw
            obtain ⟨w1, w2⟩ := sym_wr hv hs hwr
            refine fin_set hv hz hK (wr_spec hzs) hs (y := .sym g') (by simp only [Seg.len]; exact w2) (by simp only [Seg.ok]) ?_ (av_ok _) hw
            simp only [evalOp, e, ex, c1, if_pos hn', w1, Option.map_some]
          · exact hw.elim
        · exact hw.elim
      · exact hw.elim
    · exact hw.elim

theorem op_indexAddr (hv : Val t H t' h) (hz : z ≤ H.length) (hK : Posts z W H h t' K Q) {es : Nat} {x i : MO} (hw : wpOp M z W hi (.indexAddr es x i) t H K) : Runs M (.op (.indexAddr es x i) t' Q) h := by
  simp only [wpOp] at hw
  split at hw
  · rename_i s o n k j e1 e2
    obtain ⟨ok, e1⟩ := ev_ok hv x e1 (by simp)
    obtain ⟨_, e2⟩ := ev_ok hv i e2 (by simp)
    simp only [conc] at e1 e2
    simp only [SV.ok] at ok
    split at hw
    · split at hw
      · rename_i hc
        exact fin_ok hv hz hK (by simpa only [SV.ok] using ok) (by simp only [evalOp, e1, e2, if_pos hc, conc]) hw
      · exact hw.elim
    · obtain ⟨hc, hw⟩ := hw
      exact fin_ok hv hz hK (by simpa only [SV.ok] using ok) (by simp only [evalOp, e1, e2, if_pos hc, conc]) hw
  · rename_i s k j e1 e2
    obtain ⟨ok, e1⟩ := ev_ok hv x e1 (by simp)
    obtain ⟨_, e2⟩ := ev_ok hv i e2 (by simp)
    simp only [conc] at e1 e2
    obtain ⟨hc, hw⟩ := hw
    have hnil : s.nil = false := by
      cases hs : s.nil with
      | false => rfl
      | true => simp [Slc.len, hs] at hc; omega
    simp only [Slc.len, hnil, cond_false] at hc
    simp only [Slc.av, hnil, cond_false] at e1
    exact fin_ok hv hz hK (by simp only [SV.ok]) (by simp only [evalOp, e1, e2, if_pos hc, conc]) hw
  · exact hw.elim

theorem op_indexArr (hv : Val t H t' h) (hz : z ≤ H.length) (hK : Posts z W H h t' K Q) {es n : Nat} {x i : MO} (hw : wpOp M z W hi (.indexArr es n x i) t H K) : Runs M (.op (.indexArr es n x i) t' Q) h := by
  simp only [wpOp] at hw
  split at hw
  · rename_i s o k j e1 e2
    obtain ⟨ok, e1⟩ := ev_ok hv x e1 (by simp)
    obtain ⟨_, e2⟩ := ev_ok hv i e2 (by simp)
    simp only [conc] at e1 e2
    simp only [SV.ok] at ok
    split at hw
    · split at hw
      · rename_i hc
        exact fin_ok hv hz hK (by simpa only [SV.ok] using ok) (by simp only [evalOp, e1, e2, if_pos hc, conc]) hw
      · exact hw.elim
    · obtain ⟨hc, hw⟩ := hw
      exact fin_ok hv hz hK (by simpa only [SV.ok] using ok) (by simp only [evalOp, e1, e2, if_pos hc, conc]) hw
  · rename_i s o k j e1 e2
    obtain ⟨ok, e1⟩ := ev_ok hv x e1 (by simp)
    obtain ⟨_, e2⟩ := ev_ok hv i e2 (by simp)
    simp only [conc] at e1 e2
    simp only [SV.ok] at ok
    obtain ⟨hc, hw⟩ := hw
    exact fin_ok hv hz hK (by simpa only [SV.ok] using ok) (by simp only [evalOp, e1, e2, if_pos hc, conc]) hw
  · rename_i b o k j e1 e2
    obtain ⟨ok, e1⟩ := ev_ok hv x e1 (by simp)
    obtain ⟨_, e2⟩ := ev_ok hv i e2 (by simp)
    simp only [conc] at e1 e2
    obtain ⟨hc, hw⟩ := hw
    exact fin_ok hv hz hK (by simp only [SV.ok]) (by simp only [evalOp, e1, e2, if_pos hc, conc]) hw
  · exact hw.elim

theorem op_indexStr (hv : Val t H t' h) (hz : z ≤ H.length) (hK : Posts z W H h t' K Q) {x i : MO} (hw : wpOp M z W hi (.indexStr x i) t H K) : Runs M (.op (.indexStr x i) t' Q) h := by
  simp only [wpOp] at hw
  split at hw
  · rename_i s k j e1 e2
    obtain ⟨ok, e1⟩ := ev_ok hv x e1 (by simp)
    obtain ⟨_, e2⟩ := ev_ok hv i e2 (by simp)
    simp only [conc] at e1 e2
    split at hw
    · split at hw
      · rename_i c hc
        split at hw
        · rename_i h0
          exact fin_stay hv hz hK (by simp only [evalOp, e1, e2, if_pos h0, hc, Option.map_some]) (av_ok _) hw
        · exact hw.elim
      · exact hw.elim
    · obtain ⟨c, ⟨h0, hc⟩, hw⟩ := hw
      exact fin_stay hv hz hK (by simp only [evalOp, e1, e2, if_pos h0, hc, Option.map_some]) (av_ok _) hw
  · exact hw.elim

theorem op_indexAgg (hv : Val t H t' h) (hz : z ≤ H.length) (hK : Posts z W H h t' K Q) {es n : Nat} {agg : Option Nat} {x i : MO} (hw : wpOp M z W hi (.indexAgg es agg n x i) t H K) : Runs M (.op (.indexAgg es agg n x i) t' Q) h := by
  simp only [wpOp] at hw
  split at hw
  · rename_i l k j e1 e2
    obtain ⟨ok, e1⟩ := ev_ok hv x e1 (by simp)
    obtain ⟨_, e2⟩ := ev_ok hv i e2 (by simp)
    simp only [conc] at e1 e2
    simp only [SV.ok] at ok
    split at hw
    · split at hw
      · rename_i hc
        split at hw
        · rename_i v hp
          obtain ⟨p1, p2⟩ := partS_spec hp (addr H) _ ok
          exact fin_stay hv hz hK (by simp only [evalOp, e1, e2, if_pos hc, p1, Option.map_some]) (.inr ⟨p2, rfl⟩) hw
        · exact hw.elim
      · exact hw.elim
    · exact fin_ex hv hz hK hw fun v hp => by simp only [evalOp, e1, e2, if_pos hp.1, hp.2, Option.map_some]
  · rename_i l k j e1 e2
    obtain ⟨ok, e1⟩ := ev_ok hv x e1 (by simp)
    obtain ⟨_, e2⟩ := ev_ok hv i e2 (by simp)
    simp only [conc] at e1 e2
    exact fin_ex hv hz hK hw fun v hp => by simp only [evalOp, e1, e2, if_pos hp.1, hp.2, Option.map_some]
  · exact hw.elim

theorem bnd_spec (hv : Val t H t' h) {d : Int} {x : Option MO} {i : Int} (hb : bndS d (x.map (·.ev t)) = some i) : (x = none ∧ i = d) ∨ ∃ y k, x = some y ∧ y.eval t' = .int k i := by
  cases x with
  | none => simp [bndS] at hb; exact .inl ⟨rfl, hb.symm⟩
  | some y =>
    simp only [Option.map_some] at hb
    unfold bndS at hb
    split at hb
    · rename_i hh; cases hh
    · rename_i k j hh
      simp only [Option.some.injEq] at hh
      cases hb
      obtain ⟨_, e⟩ := ev_ok hv y hh (by simp)
      simp only [conc] at e
      exact .inr ⟨y, k, rfl, e⟩
    · cases hb

theorem bounds_spec (hv : Val t H t' h) {n : Nat} {lo hi' : Option MO} {l e : Int} (h1 : bndS 0 (lo.map (·.ev t)) = some l) (h2 : bndS n (hi'.map (·.ev t)) = some e) (hc : 0 ≤ l ∧ l ≤ e ∧ e ≤ (n : Int)) :
    bounds n (lo.map (·.eval t')) (hi'.map (·.eval t')) = some (l.toNat, e.toNat) := by
  have b2 : boundOf n n (hi'.map (·.eval t')) = some e.toNat := by
    rcases bnd_spec hv h2 with ⟨rfl, rfl⟩ | ⟨y, k, rfl, hy⟩
    · simp [boundOf]
    · simp only [Option.map_some, hy, boundOf]
      rw [if_pos (by omega)]
  have b1 : boundOf 0 e.toNat (lo.map (·.eval t')) = some l.toNat := by
    rcases bnd_spec hv h1 with ⟨rfl, rfl⟩ | ⟨y, k, rfl, hy⟩
    · simp [boundOf]
    · simp only [Option.map_some, hy, boundOf]
      rw [if_pos (by omega)]
  simp only [bounds, b2, b1]

theorem op_sliceStr (hv : Val t H t' h) (hz : z ≤ H.length) (hK : Posts z W H h t' K Q) {x : MO} {lo hi' : Option MO} (hw : wpOp M z W hi (.sliceStr x lo hi') t H K) : Runs M (.op (.sliceStr x lo hi') t' Q) h := by
  simp only [wpOp] at hw
  split at hw
  · rename_i s l e1 h1
    obtain ⟨_, e1⟩ := ev_ok hv x e1 (by simp)
    simp only [conc] at e1
    split at hw
    · rename_i e h2
      obtain ⟨hc, hw⟩ := hw
      exact fin_stay hv hz hK (by simp only [evalOp, e1, bounds_spec hv h1 h2 hc, Option.map_some]) (av_ok _) hw
    · exact hw.elim
  · exact hw.elim

theorem op_sliceSlc (hv : Val t H t' h) (hz : z ≤ H.length) (hK : Posts z W H h t' K Q) {es : Nat} {x : MO} {lo hi' : Option MO} (hw : wpOp M z W hi (.sliceSlc es x lo hi') t H K) : Runs M (.op (.sliceSlc es x lo hi') t' Q) h := by
  simp only [wpOp] at hw
  split at hw
  · rename_i s l e1 h1
    obtain ⟨_, e1⟩ := ev_ok hv x e1 (by simp)
    simp only [conc] at e1
    split at hw
    · rename_i e h2
      obtain ⟨hrow, hc, hw⟩ := hw
      have hb := bounds_spec hv h1 h2 hc
      cases hs : s.nil with
      | true =>
        simp only [Slc.len, hs, cond_true] at hb
        simp only [Slc.av, hs, cond_true] at e1
        exact fin_ok hv hz hK (by simp only [SV.ok]) (by simp [evalOp, e1, hb, Option.map_some, conc, Slc.av, hs]) hw
      | false =>
        obtain ⟨c, ro, hg⟩ := hrow hs
        have hg := get_take (H := H) hg
        rw [← hv.heap.1] at hg
        simp only [Slc.len, hs, cond_false] at hb
        simp only [Slc.av, hs, cond_false] at e1
        exact fin_ok hv hz hK (by simp only [SV.ok]) (by simp [evalOp, e1, hg, hb, Option.map_some, conc, Slc.av, hs]) hw
    · exact hw.elim
  · rename_i q o n l e1 h1
    obtain ⟨ok, e1⟩ := ev_ok hv x e1 (by simp)
    simp only [conc] at e1
    simp only [SV.ok] at ok
    split at hw
    · rename_i e h2
      split at hw
      · rename_i c es' hs
        obtain ⟨g1, _⟩ := con_at hv hs
        split at hw
        · rename_i hes
          obtain ⟨hc, hw⟩ := hw
          exact fin_ok hv hz hK (by simpa only [SV.ok] using ok) (by simp only [evalOp, e1, g1, if_pos hes, bounds_spec hv h1 h2 hc, Option.map_some, conc]) hw
        · exact hw.elim
      · rename_i c es' hs
        have g1 := row_at hv hs
        split at hw
        · rename_i hes
          obtain ⟨hc, hw⟩ := hw
          exact fin_ok hv hz hK (by simpa only [SV.ok] using ok) (by simp only [evalOp, e1, g1, if_pos hes, bounds_spec hv h1 h2 hc, Option.map_some, conc]) hw
        · exact hw.elim
      · exact hw.elim
    · exact hw.elim
  · exact hw.elim

theorem op_bin (hv : Val t H t' h) (hz : z ≤ H.length) (hK : Posts z W H h t' K Q) {op : BinOp} {x y : MO} (hw : wpOp M z W hi (.bin op x y) t H K) : Runs M (.op (.bin op x y) t' Q) h := by
  simp only [wpOp] at hw
  split at hw
  · split at hw
    · rename_i v hp
      obtain ⟨a, he, hvv⟩ := pureS_sound hv hp
      exact fin_stay hv hz hK he hvv hw
    · exact hw.elim
  · split at hw
    · rename_i k a k' b e1 e2
      obtain ⟨_, e1⟩ := ev_ok hv x e1 (by simp)
      obtain ⟨_, e2⟩ := ev_ok hv y e2 (by simp)
      simp only [conc] at e1 e2
      split at hw
      · rename_i hk
        obtain ⟨hb, hw⟩ := hw
        exact fin_stay hv hz hK (by simp only [evalOp, e1, e2, binAV, if_pos hk, intBin, if_neg hb, Option.map_some]) (av_ok _) hw
      · exact hw.elim
    · rename_i k a k' b e1 e2
      obtain ⟨_, e1⟩ := ev_ok hv x e1 (by simp)
      obtain ⟨_, e2⟩ := ev_ok hv y e2 (by simp)
      simp only [conc] at e1 e2
      split at hw
      · rename_i hk
        obtain ⟨hb, hw⟩ := hw
        exact fin_stay hv hz hK (by simp only [evalOp, e1, e2, binAV, if_pos hk, intBin, if_neg hb, Option.map_some]) (av_ok _) hw
      · exact hw.elim
    · rename_i a b e1 e2
      obtain ⟨_, e1⟩ := ev_ok hv x e1 (by simp)
      obtain ⟨_, e2⟩ := ev_ok hv y e2 (by simp)
      simp only [conc] at e1 e2
      obtain ⟨hb, hw⟩ := hw
      exact fin_stay hv hz hK (by simp only [evalOp, e1, e2, binAV, strBin]; rw [if_neg (by omega)]; simp only [Option.map_some]) (av_ok _) hw
    · exact hw.elim
end
end Go.Abs

set_option linter.unusedVariables false
set_option linter.unusedSimpArgs false
namespace Go.Abs

section
variable {M : Model} {t : List SV} {H : List Seg} {t' : Tmps} {h : Heap} {z : Nat} {W : List Nat} {hi : OH} {K : SV → List SV → List Seg → Prop} {Q : AV → Heap → Prop}

theorem op_mkMap (hv : Val t H t' h) (hz : z ≤ H.length) (hK : Posts z W H h t' K Q) (hw : wpOp M z W hi .mkMap t H K) : Runs M (.op .mkMap t' Q) h := by
  simp only [wpOp] at hw
  exact fin_push hv hz hK (x := .obj (.map [])) (by simp only [Seg.ok]) (a := .map h.length) (by simp only [evalOp, Seg.heap]) (fun e => .inr ⟨by simp [SV.ok], by simp only [conc]; rw [e]⟩) hw

theorem op_copy (hv : Val t H t' h) (hz : z ≤ H.length) (hK : Posts z W H h t' K Q) {k : Nat} {x y : MO} (hw : wpOp M z W hi (.copy k x y) t H K) : Runs M (.op (.copy k x y) t' Q) h := by
  simp only [wpOp] at hw
  split at hw
  · rename_i e1
    obtain ⟨_, e1⟩ := ev_ok hv x e1 (by simp)
    simp only [conc] at e1
    cases hk : Nat.beq k 0 with
    | true => rw [hk] at hw; exact hw.elim
    | false =>
      rw [hk] at hw
      exact fin_push hv hz hK (x := .obj (.bld k .nilslice [])) (by simp only [Seg.ok]) (a := .ptr h.length 0) (by simp only [evalOp, e1, hk, cond_false, Seg.heap]) (fun e => .inr ⟨by simp [SV.ok], by simp only [conc]; rw [e]⟩) hw
  · rename_i s e1
    split at hw
    · rename_i q o e2
      obtain ⟨_, e1⟩ := ev_ok hv x e1 (by simp)
      obtain ⟨_, e2⟩ := ev_ok hv y e2 (by simp)
      simp only [conc] at e1 e2
      obtain ⟨⟨h1, h2⟩, hw⟩ := hw
      exact fin_ok hv hz hK (v := .av .undef) (by simp [SV.ok]) (by simp only [evalOp, e1, e2, Slc.av, h1, cond_false, if_neg h2, conc]) hw
    · exact hw.elim
  · exact hw.elim

theorem op_rangeStr (hv : Val t H t' h) (hz : z ≤ H.length) (hK : Posts z W H h t' K Q) {x : MO} (hw : wpOp M z W hi (.rangeStr x) t H K) : Runs M (.op (.rangeStr x) t' Q) h := by
  simp only [wpOp] at hw
  split at hw
  · rename_i s e1
    obtain ⟨_, e1⟩ := ev_ok hv x e1 (by simp)
    simp only [conc] at e1
    exact fin_push hv hz hK (x := .obj (.iter s 0)) (by simp only [Seg.ok]) (a := .ptr h.length 0) (by simp only [evalOp, e1, Seg.heap]) (fun e => .inr ⟨by simp [SV.ok], by simp only [conc]; rw [e]⟩) hw
  · exact hw.elim

theorem op_runes (hv : Val t H t' h) (hz : z ≤ H.length) (hK : Posts z W H h t' K Q) {x : MO} (hw : wpOp M z W hi (.runes x) t H K) : Runs M (.op (.runes x) t' Q) h := by
  simp only [wpOp] at hw
  split at hw
  · rename_i s e1
    obtain ⟨_, e1⟩ := ev_ok hv x e1 (by simp)
    simp only [conc] at e1
    obtain ⟨h1, h2, hw⟩ := hw
    exact fin_push hv hz hK (x := .row (s.map fun c => .int .i32 c.toNat) 1) (by simp only [Seg.ok]) (a := .slice h.length 0 s.length) (by simp only [evalOp, e1, if_pos (And.intro h1 h2), Seg.heap]) (fun e => .inr ⟨by simp [SV.ok], by simp only [conc]; rw [e]⟩) hw
  · exact hw.elim

theorem op_nextStr {K2 : SV → List SV → List Seg → Prop} (hv : Val t H t' h) (hz : z ≤ H.length) {x : MO} (hw : wpNext z W x t H K K2) (hK : Posts z W H h t' K Q) (hK2 : Posts z W H h t' K2 Q) : Runs M (.op (.nextStr x) t' Q) h := by
  unfold wpNext at hw
  split at hw
  · rename_i s e1
    obtain ⟨_, e1⟩ := ev_ok hv x e1 (by simp)
    simp only [conc] at e1
    split at hw
    · rename_i hzs
      split at hw
      · rename_i y p hs
        have g1 := obj_at hv hs
        obtain ⟨hw1, hw2⟩ := hw
        by_cases hp : p < y.length
        · refine fin_set hv hz hK (wr_spec hzs) hs (y := .obj (.iter y (p + (Utf8.decode ⟨y.toArray⟩ p).2))) rfl (by simp only [Seg.ok]) ?_ (.inr ⟨by simp [SV.ok, oks], rfl⟩) (hw1 hp)
          simp only [evalOp, e1, g1, if_pos hp]
          rw [set_at hv hs rfl (y := .obj (.iter y (p + (Utf8.decode ⟨y.toArray⟩ p).2))) (by simp only [Seg.heap]) ⟨_, rfl⟩]
          simp only [conc, concs]
        · exact fin_ok hv hz hK2 (v := .tup [.av (.bool false)]) (by simp [SV.ok, oks]) (by simp only [evalOp, e1, g1, if_neg hp, conc, concs]) (hw2 hp)
      · exact hw.elim
    · exact hw.elim
  · exact hw.elim

theorem op_mkSlice (hv : Val t H t' h) (hz : z ≤ H.length) (hK : Posts z W H h t' K Q) {zs : List AV} {bytes : Nat} {len cap : MO} (hw : wpOp M z W hi (.mkSlice zs bytes len cap) t H K) : Runs M (.op (.mkSlice zs bytes len cap) t' Q) h := by
  simp only [wpOp] at hw
  split at hw
  · rename_i l c e1 e2
    obtain ⟨_, e1⟩ := ev_ok hv len e1 (by simp)
    obtain ⟨_, e2⟩ := ev_ok hv cap e2 (by simp)
    simp only [conc] at e1 e2
    obtain ⟨hc, hw⟩ := hw
    have hc : 0 ≤ l ∧ l ≤ c ∧ c * (bytes : Int) ≤ 140737488355328 := ⟨hc.1, by omega, by rw [← hc.2.1]; exact hc.2.2⟩
    split at hw
    · exact fin_push hv hz hK (x := .con ((List.flatten (List.replicate l.toNat zs)).map .av) zs.length) (by simp only [Seg.ok]; exact oks_av _ _) (a := .slice h.length 0 l.toNat) (by simp only [evalOp, e1, e2, if_pos hc, Seg.heap, concs_av]) (fun e => .inr ⟨by simp [SV.ok], by simp only [conc]; rw [e]⟩) hw
    · exact fin_push hv hz hK (x := .row (List.flatten (List.replicate l.toNat zs)) zs.length) (by simp only [Seg.ok]) (a := .slice h.length 0 l.toNat) (by simp only [evalOp, e1, e2, if_pos hc, Seg.heap]) (fun e => .inr ⟨by simp [SV.ok], by simp only [conc]; rw [e]⟩) hw
  · exact hw.elim

theorem mapEs_spec (hv : Val t H t' h) {q : Nat} {m : MO} {f : List (AV × AV) → Prop} (hm : mapEs (addr H) H q (m.ev t) f) : ∃ es, f es ∧ ((m.eval t' = .nilmap ∧ es = []) ∨ ∃ r, m.eval t' = .map r ∧ h[r]? = some (.map es)) := by
  unfold mapEs at hm
  split at hm
  · rename_i f s e1
    obtain ⟨_, e1⟩ := ev_ok hv m e1 (by simp)
    simp only [conc] at e1
    split at hm
    · rename_i es hs
      exact ⟨es, hm, .inr ⟨_, e1, obj_at hv hs⟩⟩
    · exact hm.elim
  · rename_i f e1
    obtain ⟨_, e1⟩ := ev_ok hv m e1 (by simp)
    simp only [conc] at e1
    exact ⟨[], hm, .inl ⟨e1, rfl⟩⟩
  · rename_i f r e1
    obtain ⟨_, e1⟩ := ev_ok hv m e1 (by simp)
    simp only [conc] at e1
    obtain ⟨es, hr, hf⟩ := hm
    have hr := get_take (H := H) hr
    rw [← hv.heap.1] at hr
    exact ⟨es, hf, .inr ⟨r, e1, hr⟩⟩
  · exact hm.elim

theorem op_lookup (hv : Val t H t' h) (hz : z ≤ H.length) (hK : Posts z W H h t' K Q) {zv : AV} {ok : Bool} {m k : MO} (hw : wpOp M z W hi (.lookup zv ok m k) t H K) : Runs M (.op (.lookup zv ok m k) t' Q) h := by
  simp only [wpOp] at hw
  split at hw
  · rename_i kv e1
    obtain ⟨_, e1⟩ := ev_ok hv k e1 (by simp)
    simp only [conc] at e1
    obtain ⟨es, hw, hm⟩ := mapEs_spec hv hw
    refine fin_ex hv hz hK hw fun v ⟨r, h1, h2, h3⟩ => ?_
    rcases hm with ⟨e2, rfl⟩ | ⟨r', e2, hr⟩
    · simp only [evalOp, e1, e2, h1, if_true, h2]
      rw [h3]
    · simp only [evalOp, e1, e2, hr, h1, if_true, h2]
      rw [h3]
  · exact hw.elim

theorem op_lenMap (hv : Val t H t' h) (hz : z ≤ H.length) (hK : Posts z W H h t' K Q) {m : MO} (hw : wpOp M z W hi (.lenMap m) t H K) : Runs M (.op (.lenMap m) t' Q) h := by
  simp only [wpOp] at hw
  obtain ⟨es, hw, hm⟩ := mapEs_spec hv hw
  refine fin_stay hv hz hK (a := .int .i64 es.length) ?_ (av_ok _) hw
  rcases hm with ⟨e2, rfl⟩ | ⟨r', e2, hr⟩
  · simp [evalOp, e2]
  · simp [evalOp, e2, hr]

theorem sym_map (hv : Val t H t' h) {q i : Nat} {g : Heap} {o : AObj} (hs : H[q]? = some (.sym g)) (hg : g[i]? = some o) (o' : AObj) : h[addr H q + i]? = some o ∧ h.set (addr H q + i) o' = flat (addr H) (H.set q (.sym (g.set i o'))) := by
  have hlt := (List.getElem?_eq_some_iff.1 hg).1
  have h1 := flat_get (A := addr H) hs (k := i) hlt
  rw [← hv.heap.1] at h1
  simp only [Seg.heap] at h1
  refine ⟨by rw [h1, hg], ?_⟩
  rw [← flat_set (A := addr H) hs (k := i) (o := o') hlt (by simp only [Seg.heap]), ← hv.heap.1]

theorem op_mapUpdate (hv : Val t H t' h) (hz : z ≤ H.length) (hK : Posts z W H h t' K Q) {m k x : MO} (hw : wpOp M z W hi (.mapUpdate m k x) t H K) : Runs M (.op (.mapUpdate m k x) t' Q) h := by
  simp only [wpOp] at hw
  split at hw
  · rename_i s kv e1 e2
    obtain ⟨_, e1⟩ := ev_ok hv m e1 (by simp)
    obtain ⟨_, e2⟩ := ev_ok hv k e2 (by simp)
    simp only [conc] at e1 e2
    split at hw
    · rename_i hc
      obtain ⟨_, e3⟩ := ev_ok hv x rfl (by intro hb; rw [hb] at hc; simp [conc, AV.cells] at hc)
      split at hw
      · rename_i es hs
        obtain ⟨es', ⟨hk, hset⟩, hw⟩ := hw
        have g1 := obj_at hv hs
        refine fin_set hv hz hK (wr_spec hc.1) hs (y := .obj (.map es')) rfl (by simp only [Seg.ok]) ?_ (av_ok _) hw
        simp only [evalOp, e1, e2, e3, g1, hk, if_true, hset, Option.map_some]
        rw [set_at hv hs rfl (y := .obj (.map es')) (by simp only [Seg.heap]) ⟨_, rfl⟩]
      · exact hw.elim
    · exact hw.elim
  · rename_i r kv e1 e2
    obtain ⟨_, e1⟩ := ev_ok hv m e1 (by simp)
    obtain ⟨_, e2⟩ := ev_ok hv k e2 (by simp)
    simp only [conc] at e1 e2
    split at hw
    · rename_i hc
      split at hw
      · rename_i g hs
        obtain ⟨i, es, es', ⟨hb, rfl, hg, hk, hset⟩, hw⟩ := hw
        obtain ⟨_, e3⟩ := ev_ok hv x rfl hb
        obtain ⟨s1, s2⟩ := sym_map hv hs hg (.map es')
        refine fin_set hv hz hK (wr_spec hc) hs (y := .sym (g.set i (.map es'))) (by simp [Seg.len]) (by simp only [Seg.ok]) ?_ (av_ok _) hw
        simp only [evalOp, e1, e2, e3, s1, hk, if_true, hset, Option.map_some, s2]
      · exact hw.elim
    · exact hw.elim
  · exact hw.elim

theorem op_mapDelete (hv : Val t H t' h) (hz : z ≤ H.length) (hK : Posts z W H h t' K Q) {m k : MO} (hw : wpOp M z W hi (.mapDelete m k) t H K) : Runs M (.op (.mapDelete m k) t' Q) h := by
  simp only [wpOp] at hw
  split at hw
  · rename_i s kv e1 e2
    obtain ⟨_, e1⟩ := ev_ok hv m e1 (by simp)
    obtain ⟨_, e2⟩ := ev_ok hv k e2 (by simp)
    simp only [conc] at e1 e2
    split at hw
    · rename_i hc
      split at hw
      · rename_i es hs
        obtain ⟨es', ⟨hk, hset⟩, hw⟩ := hw
        have g1 := obj_at hv hs
        refine fin_set hv hz hK (wr_spec hc) hs (y := .obj (.map es')) rfl (by simp only [Seg.ok]) ?_ (av_ok _) hw
        simp only [evalOp, e1, e2, g1, hk, if_true, hset, Option.map_some]
        rw [set_at hv hs rfl (y := .obj (.map es')) (by simp only [Seg.heap]) ⟨_, rfl⟩]
      · exact hw.elim
    · exact hw.elim
  · rename_i r kv e1 e2
    obtain ⟨_, e1⟩ := ev_ok hv m e1 (by simp)
    obtain ⟨_, e2⟩ := ev_ok hv k e2 (by simp)
    simp only [conc] at e1 e2
    split at hw
    · rename_i hc
      split at hw
      · rename_i g hs
        obtain ⟨i, es, es', ⟨rfl, hg, hk, hset⟩, hw⟩ := hw
        obtain ⟨s1, s2⟩ := sym_map hv hs hg (.map es')
        refine fin_set hv hz hK (wr_spec hc) hs (y := .sym (g.set i (.map es'))) (by simp [Seg.len]) (by simp only [Seg.ok]) ?_ (av_ok _) hw
        simp only [evalOp, e1, e2, s1, hk, if_true, hset, Option.map_some, s2]
      · exact hw.elim
    · exact hw.elim
  · exact hw.elim

def sumC (A : Nat → Nat) : Sum (List SV) (List AV) → List AV
  | .inl l => concs A l
  | .inr l => l
def sumOk (n : Nat) : Sum (List SV) (List AV) → Prop
  | .inl l => oks n l
  | .inr _ => True

theorem oks_part {n : Nat} {c : List SV} {a b : Nat} (h : oks n c) : oks n ((c.drop a).take b) := by
  rw [oks_iff] at *
  exact fun v hv => h v (List.mem_of_mem_drop (List.mem_of_mem_take hv))
theorem concs_part (A : Nat → Nat) (c : List SV) (a b : Nat) : concs A ((c.drop a).take b) = ((concs A c).drop a).take b := by simp [concs_map, List.map_drop, List.map_take]
theorem oks_app {n : Nat} {a b : List SV} (h1 : oks n a) (h2 : oks n b) : oks n (a ++ b) := by
  rw [oks_iff] at *
  intro v hv
  rcases List.mem_append.1 hv with h | h
  · exact h1 v h
  · exact h2 v h

theorem newS_spec (hv : Val t H t' h) {q es : Nat} {x : MO} {f : Sum (List SV) (List AV) → Nat → Prop} (hn : newS (addr H) H q es (x.ev t) f) :
    ∃ new n, f new n ∧ sumOk H.length new ∧ 0 < n ∧ lenOf (x.eval t') = some n ∧ rowOf h es (x.eval t') = some (sumC (addr H) new) := by
  unfold newS at hn
  split at hn
  · rename_i f s o n e1
    obtain ⟨_, e1⟩ := ev_ok hv x e1 (by simp)
    simp only [conc] at e1
    split at hn
    · rename_i c es' hs
      obtain ⟨g1, g2⟩ := con_at hv hs
      split at hn
      · rename_i hc
        refine ⟨_, n, hn, oks_part g2, hc.2.1, by simp [e1, lenOf], ?_⟩
        simp only [e1, rowOf, rdCells, g1, concs_length, if_pos hc.2.2, sumC, concs_part]
      · exact hn.elim
    · rename_i c es' hs
      have g1 := row_at hv hs
      split at hn
      · obtain ⟨h0, hl, hn⟩ := hn
        refine ⟨_, n, hn, trivial, h0, by simp [e1, lenOf], ?_⟩
        simp only [e1, rowOf, rdCells, g1, if_pos hl, sumC]
      · exact hn.elim
    · exact hn.elim
  · rename_i f s e1
    obtain ⟨_, e1⟩ := ev_ok hv x e1 (by simp)
    simp only [conc] at e1
    obtain ⟨h0, new, hr, hf⟩ := hn
    refine ⟨_, _, hf, trivial, h0, ?_, ?_⟩
    · cases hs : s.nil <;> simp [e1, Slc.av, Slc.len, hs, lenOf]
    · rw [e1]
      simp only [sumC]
      cases hs : s.nil with
      | true => simp only [Slc.av, hs, cond_true, rowOf] at hr ⊢; exact hr
      | false =>
        simp only [Slc.av, hs, cond_false, rowOf] at hr ⊢
        rw [hv.heap.1]
        have e : flat (addr H) H = flat (addr H) (H.take q) ++ flat (addr H) (H.drop q) := by rw [← flat_append, List.take_append_drop]
        rw [e]
        exact Ext.rd ⟨_, rfl⟩ hr
  · exact hn.elim

theorem takeS_spec (hv : Val t H t' h) (hz : z ≤ H.length) {q es : Nat} {s : MO} {f : Sum (List SV) (List AV) → Nat → List Seg → Prop} (hn : takeS z W (addr H) H q es (s.ev t) f) :
    ∃ old l H1 h1, f old l H1 ∧ sumOk H.length old ∧ lenOf (s.eval t') = some l ∧ takeRow h es (s.eval t') = some (sumC (addr H) old, h1) ∧ Val t H1 t' h1 ∧ KeepH z W H h H1 h1 ∧ addr H1 = addr H ∧ H1.length = H.length := by
  unfold takeS at hn
  split at hn
  · rename_i f e1
    obtain ⟨_, e1⟩ := ev_ok hv s e1 (by simp)
    simp only [conc] at e1
    exact ⟨_, _, _, h, hn, by simp [sumOk, oks], by simp [e1, lenOf], by simp [e1, takeRow, sumC, concs], hv, KeepH.refl hz, rfl, rfl⟩
  · rename_i f b o n e1
    obtain ⟨_, e1⟩ := ev_ok hv s e1 (by simp)
    simp only [conc] at e1
    split at hn
    · rename_i c es' hs
      obtain ⟨g1, g2⟩ := con_at hv hs
      split at hn
      · rename_i hc
        obtain ⟨v1, v2, v3, v4⟩ := hv.setSeg hz (wr_spec hc.1) hs (y := .obj .dead) rfl (by simp only [Seg.ok])
        refine ⟨_, n, _, _, hn, oks_part g2, by simp [e1, lenOf], ?_, v1, v2, v3, v4⟩
        simp only [e1, takeRow, g1, concs_length, if_pos hc.2, sumC, concs_part]
        rw [set_at hv hs rfl (y := .obj .dead) (by simp only [Seg.heap]) ⟨_, rfl⟩]
      · exact hn.elim
    · rename_i c es' hs
      have g1 := row_at hv hs
      split at hn
      · rename_i hc
        obtain ⟨hl, hn⟩ := hn
        obtain ⟨v1, v2, v3, v4⟩ := hv.setSeg hz (wr_spec hc.1) hs (y := .obj .dead) rfl (by simp only [Seg.ok])
        refine ⟨_, n, _, _, hn, trivial, by simp [e1, lenOf], ?_, v1, v2, v3, v4⟩
        simp only [e1, takeRow, g1, if_pos (And.intro hc.2 hl), sumC]
        rw [set_at hv hs rfl (y := .obj .dead) (by simp only [Seg.heap]) ⟨_, rfl⟩]
      · exact hn.elim
    · exact hn.elim
  · rename_i f sl e1
    obtain ⟨_, e1⟩ := ev_ok hv s e1 (by simp)
    simp only [conc] at e1
    split at hn
    · rename_i hzq
      split at hn
      · rename_i g hs
        obtain ⟨old, g', hcase, hn⟩ := hn
        rcases hcase with ⟨hnil, rfl, rfl⟩ | ⟨hnil, k, c, hb, hg, hl, rfl, rfl⟩
        · have hset : H.set q (.sym g') = H := by
            refine List.ext_getElem? fun i => ?_
            rw [List.getElem?_set]
            by_cases hi : q = i
            · subst hi
              rw [if_pos rfl, hs, if_pos (List.getElem?_eq_some_iff.1 hs).1]
            · rw [if_neg hi]
          rw [hset] at hn
          simp only [Slc.len, hnil, cond_true] at hn
          exact ⟨_, _, _, h, hn, trivial, by simp [e1, Slc.av, hnil, lenOf], by simp [e1, Slc.av, hnil, takeRow, sumC], hv, KeepH.refl hz, rfl, rfl⟩
        · obtain ⟨s1, s2⟩ := sym_map hv hs hg .dead
          obtain ⟨v1, v2, v3, v4⟩ := hv.setSeg hz (wr_spec hzq) hs (y := .sym (g.set k .dead)) (by simp [Seg.len]) (by simp only [Seg.ok])
          simp only [Slc.len, hnil, cond_false] at hn
          refine ⟨_, _, _, _, hn, trivial, by simp [e1, Slc.av, hnil, lenOf], ?_, v1, v2, v3, v4⟩
          simp only [e1, Slc.av, hnil, cond_false, takeRow, hb, s1, sumC]
          rw [if_pos ⟨trivial, hl⟩, s2]
      · exact hn.elim
    · exact hn.elim
  · exact hn.elim

theorem joinRow_spec {A : Nat → Nat} {n es : Nat} {a b : Sum (List SV) (List AV)} (ha : sumOk n a) (hb : sumOk n b) : (joinRow A es a b).ok n ∧ (joinRow A es a b).heap A = [.arr (sumC A a ++ sumC A b) es false] := by
  cases a <;> cases b <;> simp only [joinRow, Seg.ok, Seg.heap, sumC, and_true, true_and]
  refine ⟨oks_app ha hb, ?_⟩
  simp [concs_map]

theorem fin_append (hv : Val t H t' h) (hz : z ≤ H.length) (hK : Posts z W H h t' K Q) {q es bytes n : Nat} {o : MOp} {s : MO} {new : Sum (List SV) (List AV)} (hnew : sumOk H.length new) (h0 : 0 < n)
    (he : evalOp t' h o = appendAV h es bytes (s.eval t') n (sumC (addr H) new))
    (hw : takeS z W (addr H) H q es (s.ev t) fun old l H1 => (l + n) * bytes ≤ 140737488355328 ∧ K (.sln H1.length 0 (l + n)) t (H1 ++ [joinRow (addr H) es old new])) : Runs M (.op o t' Q) h := by
  obtain ⟨old, l, H1, h1, ⟨hsz, hk⟩, hold, hlen, htake, v1, v2, v3, v4⟩ := takeS_spec hv hz hw
  obtain ⟨j1, j2⟩ := joinRow_spec (A := addr H) (es := es) hold hnew
  obtain ⟨p1, p2, p3⟩ := v1.push (z := z) (x := joinRow (addr H) es old new) (by omega) (by rw [v4]; exact j1)
  rw [v3, j2] at p1 p2
  refine .op (v := .slice h1.length 0 (l + n)) (h1 := h1 ++ [.arr (sumC (addr H) old ++ sumC (addr H) new) es false]) ?_ (hK _ _ _ _ _ p1 (.inr ⟨by simp [SV.ok], by simp [conc, p3]⟩) (v2.trans p2) hk)
  rw [he]
  simp only [appendAV, hlen, htake]
  rw [if_neg (by omega), if_pos hsz]

theorem op_append (hv : Val t H t' h) (hz : z ≤ H.length) (hK : Posts z W H h t' K Q) {es bytes : Nat} {s x : MO} (hw : wpOp M z W hi (.append es bytes s x) t H K) : Runs M (.op (.append es bytes s x) t' Q) h := by
  simp only [wpOp] at hw
  obtain ⟨new, n, hw, hok, h0, hl, hr⟩ := newS_spec hv hw
  exact fin_append hv hz hK hok h0 (by simp only [evalOp, hl, hr]) hw

theorem op_appendStr (hv : Val t H t' h) (hz : z ≤ H.length) (hK : Posts z W H h t' K Q) {s x : MO} (hw : wpOp M z W hi (.appendStr s x) t H K) : Runs M (.op (.appendStr s x) t' Q) h := by
  simp only [wpOp] at hw
  split at hw
  · rename_i y e1
    obtain ⟨_, e1⟩ := ev_ok hv x e1 (by simp)
    simp only [conc] at e1
    exact fin_append hv hz hK (new := .inr (y.map fun c => .int .u8 c.toNat)) trivial hw.1 (by simp only [evalOp, e1, sumC]) hw.2
  · exact hw.elim

theorem seg_dem_len (A : Nat → Nat) (J : Nat) (s : Seg) : (s.dem A J).len = s.len := by cases s <;> rfl
theorem seg_dem_heap {A A' : Nat → Nat} {J : Nat} (h : ∀ s, s < J → A' s = A s) (s : Seg) : (s.dem A J).heap A' = s.heap A := by
  cases s <;> simp only [Seg.dem, Seg.heap, dems_conc h]
theorem flat_dem {A A' : Nat → Nat} {J : Nat} (h : ∀ s, s < J → A' s = A s) : ∀ (H : List Seg), flat A' (H.map (Seg.dem A J)) = flat A H
  | [] => by simp [flat]
  | s :: r => by rw [List.map_cons, flat_cons, flat_cons, seg_dem_heap h, flat_dem h r]
theorem seg_dem_ok {A : Nat → Nat} {J n : Nat} {s : Seg} (h : s.ok n) : (s.dem A J).ok J := by
  cases s <;> simp only [Seg.dem, Seg.ok] at h ⊢
  exact dems_ok _ h

theorem Val.cut (hv : Val t H t' h) {j : Nat} (hj : j ≤ H.length) (hz : z ≤ j) (rest : Heap) :
    Val (t.map (dem (addr H) j)) ((H.take j).map (Seg.dem (addr H) j) ++ [.sym rest]) t' (flat (addr H) (H.take j) ++ rest) ∧
    KeepH z W H h ((H.take j).map (Seg.dem (addr H) j) ++ [.sym rest]) (flat (addr H) (H.take j) ++ rest) := by
  have hl : ((H.take j).map (Seg.dem (addr H) j)).length = j := by simp; omega
  have ha : ∀ s, s ≤ j → addr ((H.take j).map (Seg.dem (addr H) j) ++ [.sym rest]) s = addr H s := by
    intro s hs
    rw [addr_append _ _ s (by rw [hl]; exact hs)]
    have : addr ((H.take j).map (Seg.dem (addr H) j)) s = addr (H.take j) s := addr_lens (by
      rw [List.map_map]
      exact List.map_congr_left fun x _ => seg_dem_len _ _ x)
    rw [this, addr_take hs hj]
  have ha' : ∀ s, s < j → addr ((H.take j).map (Seg.dem (addr H) j) ++ [.sym rest]) s = addr H s := fun s hs => ha s (by omega)
  have hlen : ((H.take j).map (Seg.dem (addr H) j) ++ [Seg.sym rest]).length = j + 1 := by simp [hl]; omega
  refine ⟨⟨⟨?_, ?_⟩, by simp [hv.len], ?_⟩, by rw [hlen]; omega, fun s hs => ha s (by omega), ?_⟩
  · rw [flat_append, flat_dem ha']
    simp [flat, Seg.heap]
  · intro s hs
    rw [hlen]
    rcases List.mem_append.1 hs with h1 | h1
    · obtain ⟨x, hx, rfl⟩ := List.mem_map.1 h1
      have := seg_dem_ok (A := addr H) (J := j) (hv.heap.2 x (List.mem_of_mem_take hx))
      cases hs' : (Seg.dem (addr H) j x) <;> simp only [Seg.ok]
      rw [hs'] at this
      simp only [Seg.ok] at this
      exact oks_mono (by omega) _ this
    · simp at h1
      subst h1
      simp only [Seg.ok]
  · intro i v hi
    simp only [List.getElem?_map, Option.map_eq_some_iff] at hi
    obtain ⟨v0, hi, rfl⟩ := hi
    rcases hv.tok i v0 hi with rfl | ⟨k1, k2⟩
    · exact .inl (by simp [dem])
    · refine .inr ⟨?_, by rw [k2, dem_conc ha']⟩
      rw [hlen]
      exact SV.ok_mono (by omega) _ (dem_ok v0 k1)
  · intro s hs hw k h1 h2
    have hle : addr H (s + 1) ≤ (flat (addr H) (H.take j)).length := by
      rw [flat_length]
      have : (H.take j).length = j := by simp; omega
      rw [this, addr_take (Nat.le_refl j) hj]
      exact addr_mono H (by omega)
    have e : flat (addr H) H = flat (addr H) (H.take j) ++ flat (addr H) (H.drop j) := by rw [← flat_append, List.take_append_drop]
    rw [hv.heap.1, e, List.getElem?_append_left (by omega), List.getElem?_append_left (by omega)]

theorem op_call (hv : Val t H t' h) (hz : z ≤ H.length) (hK : Posts z W H h t' K Q) {f : MO} {args : List MO} (hw : wpOp M z W hi (.call f args) t H K) : Runs M (.op (.call f args) t' Q) h := by
  simp only [wpOp] at hw
  split at hw
  · exact hw.elim
  · rename_i as has
    obtain ⟨ea, _⟩ := evs_spec hv has
    have go : ∀ (g : Nat) (cap : List AV), f.eval t' = .fn g cap → (if hi.mode = 0 then CallE M g (concs (addr H) as ++ cap) (flat (addr H) H) (fun v tail => hi.sh.ex fun x => v = conc (addr H) x ∧ K x t (H ++ [.sym tail]))
        else (if z ≤ hi.seg ∧ hi.seg ≤ H.length then CallP M g (concs (addr H) as ++ cap) (flat (addr H) (H.take hi.seg)) (flat (addr H) (H.drop hi.seg)) (fun v rest => hi.sh.ex fun x => v = conc (addr H) x ∧ K x (t.map (dem (addr H) hi.seg)) ((H.take hi.seg).map (Seg.dem (addr H) hi.seg) ++ [.sym rest])) else False)) → Runs M (.op (.call f args) t' Q) h := by
      intro g cap hf hw
      refine .callOp hf ?_
      rw [ea]
      split at hw
      · have e0 := hv.heap.1
        have hw' : Runs M (.call g (concs (addr H) as ++ cap) Q) (flat (addr H) H) := by
          refine hw Q fun v tail hp => ?_
          obtain ⟨x, ⟨rfl, hk⟩, ok⟩ := ex_spec _ hp
          obtain ⟨p1, p2, p3⟩ := hv.push (z := z) (x := .sym tail) hz (by simp only [Seg.ok])
          simp only [Seg.heap] at p1 p2
          rw [← hv.heap.1]
          refine hK _ _ _ _ _ p1 (.inr ⟨ok _, ?_⟩) p2 hk
          rw [conc_congr (n := 0) (fun s hs => absurd hs (Nat.not_lt_zero s)) x (ok 0)]
        rw [← e0] at hw'
        exact hw'
      · split at hw
        · rename_i hc
          have e : flat (addr H) (H.take hi.seg) ++ flat (addr H) (H.drop hi.seg) = h := by rw [← flat_append, List.take_append_drop]; exact hv.heap.1.symm
          have hw' : Runs M (.call g (concs (addr H) as ++ cap) Q) (flat (addr H) (H.take hi.seg) ++ flat (addr H) (H.drop hi.seg)) := by
            refine hw Q fun v rest hp => ?_
            obtain ⟨x, ⟨rfl, hk⟩, ok⟩ := ex_spec _ hp
            obtain ⟨c1, c2⟩ := hv.cut (z := z) hc.2 hc.1 rest
            refine hK _ _ _ _ _ c1 (.inr ⟨ok _, ?_⟩) c2 hk
            rw [conc_congr (n := 0) (fun s hs => absurd hs (Nat.not_lt_zero s)) x (ok 0)]
          rw [e] at hw'
          exact hw'
        · exact hw.elim
    split at hw
    · rename_i g cap e1
      obtain ⟨_, e1⟩ := ev_ok hv f e1 (by simp)
      simp only [conc] at e1
      exact go g cap e1 hw
    · rename_i g cap e1
      obtain ⟨_, e1⟩ := ev_ok hv f e1 (by simp)
      simp only [conc] at e1
      exact go g _ e1 hw
    · exact hw.elim

theorem op_pure (hv : Val t H t' h) (hz : z ≤ H.length) (hK : Posts z W H h t' K Q) {o : MOp} (hw : match pureS (addr H) t o with
    | some v => K v t H
    | none => False) : Runs M (.op o t' Q) h := by
  split at hw
  · rename_i v hp
    obtain ⟨a, he, hvv⟩ := pureS_sound hv hp
    exact fin_stay hv hz hK he hvv hw
  · exact hw.elim

theorem wpOp_sound (hv : Val t H t' h) (hz : z ≤ H.length) {o : MOp} (hw : wpOp M z W hi o t H K) (hK : Posts z W H h t' K Q) : Runs M (.op o t' Q) h := by
  cases o with
  | alloc => exact op_alloc hv hz hK hw
  | box => exact op_box hv hz hK hw
  | buildSlice => exact op_buildSlice hv hz hK hw
  | load => exact op_load hv hz hK hw
  | store => exact op_store hv hz hK hw
  | indexAddr => exact op_indexAddr hv hz hK hw
  | indexArr => exact op_indexArr hv hz hK hw
  | indexStr => exact op_indexStr hv hz hK hw
  | indexAgg => exact op_indexAgg hv hz hK hw
  | sliceStr => exact op_sliceStr hv hz hK hw
  | sliceSlc => exact op_sliceSlc hv hz hK hw
  | bin => exact op_bin hv hz hK hw
  | mkMap => exact op_mkMap hv hz hK hw
  | mkSlice => exact op_mkSlice hv hz hK hw
  | lookup => exact op_lookup hv hz hK hw
  | mapUpdate => exact op_mapUpdate hv hz hK hw
  | mapDelete => exact op_mapDelete hv hz hK hw
  | lenMap => exact op_lenMap hv hz hK hw
  | append => exact op_append hv hz hK hw
  | appendStr => exact op_appendStr hv hz hK hw
  | copy => exact op_copy hv hz hK hw
  | rangeStr => exact op_rangeStr hv hz hK hw
  | runes => exact op_runes hv hz hK hw
  | call => exact op_call hv hz hK hw
  | _ => simp only [wpOp] at hw; exact op_pure hv hz hK hw
end
end Go.Abs

set_option linter.unusedVariables false
set_option linter.unusedSimpArgs false
namespace Go.Abs

def MOp.grow : MOp → Bool
  | .alloc .. | .box .. | .buildSlice .. | .mkSlice .. | .mkMap | .rangeStr _ | .runes _ | .call .. => true
  | _ => false
def MOp.looks : MOp → Bool
  | .load .. | .sliceSlc .. | .lenMap _ => true
  | _ => false

def MOp.opnds2 : MOp → List MO
  | .box _ x => [x]
  | .buildSlice _ _ _ ps => ps.map (·.2.2)
  | .store _ a x => [a, x]
  | .mkSlice _ _ l c => [l, c]
  | .lookup _ _ m k => [m, k]
  | .mapUpdate m k v => [m, k, v]
  | .mapDelete m k => [m, k]
  | .append _ _ s x => [s, x]
  | .appendStr s x => [s, x]
  | .copy _ d s => [d, s]
  | .rangeStr x => [x]
  | .runes x => [x]
  | .nextStr x => [x]
  | .call f args => f :: args
  | o => o.opnds

def MOp.tmps2 (o : MOp) : List Nat := o.opnds2.filterMap fun
  | .tmp t => some t
  | _ => none
def MOper.reads2 (o : MOper) : List Nat := o.op.tmps2 ++ (match o.guard with
  | some (g, _) => [g]
  | none => [])

theorem still_tmps {o : MOp} (h : o.still = true) : o.tmps2 = o.tmps := by
  cases o <;> simp only [MOp.still, Bool.false_eq_true] at h <;> rfl

theorem op_congr {t t' : Tmps} {h : Heap} {o : MOp} (ha : ∀ i ∈ o.tmps2, t.getD i .undef = t'.getD i .undef) : evalOp t h o = evalOp t' h o := by
  cases hs : o.still with
  | true => exact still_congr hs (by rw [still_tmps hs] at ha; exact ha)
  | false =>
    have hx : ∀ x ∈ o.opnds2, x.eval t = x.eval t' := fun x hx => eval_congr fun i hi => ha i (List.mem_filterMap.2 ⟨x, hx, by rw [hi]⟩)
    cases o <;> simp only [MOp.still, reduceCtorEq, Bool.true_eq_false] at hs <;> simp only [MOp.opnds2, List.mem_cons, List.not_mem_nil, or_false, forall_eq_or_imp, forall_eq, List.mem_map] at hx <;> first
      | (simp only [evalOp, hx]; done)
      | (simp only [evalOp]; done)
      | skip
    case buildSlice n es z ps =>
      have : (ps.map fun p => (p.1, p.2.1, p.2.2.eval t)) = ps.map fun p => (p.1, p.2.1, p.2.2.eval t') := List.map_congr_left fun p hp => by rw [hx _ ⟨p, hp, rfl⟩]
      simp only [evalOp, this]

theorem runs_congr {M : Model} {t t' : Tmps} {h : Heap} {o : MOp} {Q : AV → Heap → Prop} (ha : ∀ i ∈ o.tmps2, t.getD i .undef = t'.getD i .undef) (hr : Runs M (.op o t Q) h) : Runs M (.op o t' Q) h := by
  cases hr with
  | op he hQ =>
    rw [op_congr ha] at he
    exact .op he hQ
  | callOp hf hc =>
    rename_i f args g cap
    have hx : ∀ x ∈ f :: args, x.eval t = x.eval t' := fun x hx => eval_congr fun i hi => ha i (List.mem_filterMap.2 ⟨x, hx, by rw [hi]⟩)
    have h1 : args.map (·.eval t) = args.map (·.eval t') := List.map_congr_left fun x h => hx x (List.mem_cons_of_mem _ h)
    rw [hx f List.mem_cons_self] at hf
    rw [h1] at hc
    exact .callOp hf hc

theorem pure_heap {t : Tmps} {h h' : Heap} {o : MOp} {v : AV} (hs : o.still = true) (hl : o.looks = false) (he : evalOp t h o = some (v, h)) : evalOp t h' o = some (v, h') := by
  cases o <;> simp only [MOp.still, Bool.false_eq_true] at hs <;> simp only [MOp.looks, Bool.true_eq_false] at hl <;> simp only [evalOp] at he ⊢ <;> (repeat' split at he) <;> simp_all
  all_goals (rw [if_neg (by omega)]; assumption)

theorem looks_ext {t : Tmps} {h h' : Heap} (hx : Ext h h') {o : MOp} {v : AV} (hs : o.still = true) (he : evalOp t h o = some (v, h)) : evalOp t h' o = some (v, h') := by
  cases hl : o.looks with
  | false => exact pure_heap hs hl he
  | true =>
    cases o <;> simp only [MOp.looks, Bool.false_eq_true] at hl
    case load agg a =>
      simp only [evalOp] at he ⊢
      split at he
      · rename_i b off hb
        simp only [Option.map_eq_some_iff, Prod.mk.injEq] at he
        obtain ⟨u, hu, rfl, _⟩ := he
        rw [hx.rdVar hu]
        rfl
      · cases he
    case sliceSlc es x lo hi =>
      simp only [evalOp] at he ⊢
      split at he
      · rename_i b off n hb
        split at he
        · rename_i c es' ro hg
          rw [hx.get hg]
          simp only
          split at he
          · rename_i hes
            rw [if_pos hes]
            simp only [Option.map_eq_some_iff, Prod.mk.injEq] at he ⊢
            obtain ⟨p, hp, rfl, _⟩ := he
            exact ⟨p, hp, rfl, trivial⟩
          · cases he
        · cases he
      · simp only [Option.map_eq_some_iff, Prod.mk.injEq] at he ⊢
        obtain ⟨p, hp, rfl, _⟩ := he
        exact ⟨p, hp, rfl, trivial⟩
      · cases he
    case lenMap x =>
      simp only [evalOp] at he ⊢
      split at he
      · simp only [Option.some.injEq, Prod.mk.injEq, and_true] at he ⊢; exact he
      · split at he
        · rename_i es hg
          rw [hx.get hg]
          simp only [Option.some.injEq, Prod.mk.injEq, and_true] at he ⊢
          exact he
        · cases he
      · cases he

inductive SRun (M : Model) : List MOper → Tmps → Heap → (Tmps → Heap → Prop) → Prop
  | nil {t h Q} : Q t h → SRun M [] t h Q
  | cons {o l t h Q} (Q1 : AV → Heap → Prop) : wantedM t o.guard = true → Runs M (.op o.op t Q1) h → (∀ v h1, Q1 v h1 → o.op.grow = true → Ext h h1) → (∀ v h1, Q1 v h1 → SRun M l (put t o.dst v) h1 Q) → SRun M (o :: l) t h Q
  | off {o l t h Q} : wantedM t o.guard = false → SRun M l (put t o.dst .undef) h Q → SRun M (o :: l) t h Q

inductive Anc (pre : List (List Nat)) : Nat → Nat → Prop
  | edge {i j : Nat} : j ∈ pre.getD i [] → Anc pre i j
  | step {i k j : Nat} : k ∈ pre.getD i [] → Anc pre k j → Anc pre i j

def maskOf (acc : List Nat) : List Nat → Nat
  | [] => 0
  | j :: l => (1 <<< j) ||| (acc.getD j 0) ||| maskOf acc l
def masks : List Nat → List (List Nat) → List Nat
  | acc, [] => acc
  | acc, p :: l => masks (acc ++ [maskOf acc p]) l

theorem maskOf_spec {pre : List (List Nat)} {acc : List Nat} (ha : ∀ i j, (acc.getD i 0).testBit j = true → Anc pre i j) {i : Nat} : ∀ {l : List Nat}, (∀ k ∈ l, k ∈ pre.getD i []) → ∀ j, (maskOf acc l).testBit j = true → Anc pre i j
  | [], _, j, h => by simp [maskOf] at h
  | k :: l, hl, j, h => by
    simp only [maskOf, Nat.testBit_or, Bool.or_eq_true] at h
    rcases h with (h | h) | h
    · rw [Nat.one_shiftLeft, Nat.testBit_two_pow] at h
      have : k = j := by simpa using h
      subst this
      exact .edge (hl k List.mem_cons_self)
    · exact .step (hl k List.mem_cons_self) (ha k j h)
    · exact maskOf_spec ha (fun x hx => hl x (List.mem_cons_of_mem _ hx)) j h

theorem masks_spec {pre : List (List Nat)} : ∀ {rest : List (List Nat)} {acc : List Nat}, pre.drop acc.length = rest → (∀ i j, (acc.getD i 0).testBit j = true → Anc pre i j) → ∀ i j, ((masks acc rest).getD i 0).testBit j = true → Anc pre i j
  | [], acc, hd, ha, i, j, h => ha i j (by simpa only [masks] using h)
  | p :: rest, acc, hd, ha, i, j, h => by
    simp only [masks] at h
    have hlt : acc.length < pre.length := by
      rcases Nat.lt_or_ge acc.length pre.length with h' | h'
      · exact h'
      · rw [List.drop_eq_nil_of_le h'] at hd; cases hd
    have e := List.drop_eq_getElem_cons hlt
    rw [hd] at e
    injection e with e1 e2
    refine masks_spec (acc := acc ++ [maskOf acc p]) (by simpa using e2.symm) ?_ i j h
    intro i j hij
    rw [List.getD_eq_getElem?_getD] at hij
    rcases Nat.lt_trichotomy i acc.length with h1 | h1 | h1
    · rw [List.getElem?_append_left h1, ← List.getD_eq_getElem?_getD] at hij
      exact ha i j hij
    · subst h1
      simp only [List.getElem?_concat_length, Option.getD_some] at hij
      refine maskOf_spec ha (fun k hk => ?_) j hij
      rw [List.getD_eq_getElem?_getD, List.getElem?_eq_getElem hlt, Option.getD_some, ← e1]
      exact hk
    · rw [List.getElem?_eq_none (by simp; omega)] at hij
      simp at hij

def drawEff (l : List MOper) (pre : List (List Nat)) : Bool :=
  let ms := masks [] pre
  pre.length == l.length && (List.range l.length).all fun i => (pre.getD i []).all (fun j => Nat.blt j i) && (List.range l.length).all fun j =>
    match l[i]?, l[j]? with
    | some x, some y => (Nat.beq i j || x.dst.isNone || x.dst != y.dst) && (match y.dst with
      | some d => !x.reads2.contains d || ((pre.getD i []).contains j) || Nat.beq i j || (Nat.blt i j && (ms.getD j 0).testBit i)
      | none => true) && (!(Nat.blt j i) || y.op.still || (ms.getD i 0).testBit j) && (!(Nat.blt j i) || !y.op.looks || x.op.still || x.op.grow || (ms.getD i 0).testBit j)
    | _, _ => false

structure EffSpec (l : List MOper) (pre : List (List Nat)) : Prop where
  less : ∀ i j, i < l.length → j ∈ pre.getD i [] → j < i
  distinct : Distinct l
  reads : ∀ (i j : Nat) (x y : MOper) (d : Nat), l[i]? = some x → l[j]? = some y → y.dst = some d → d ∈ x.reads2 → j ∈ pre.getD i [] ∨ i = j ∨ (i < j ∧ Anc pre j i)
  eff : ∀ (i j : Nat) (y : MOper), i < l.length → j < i → l[j]? = some y → y.op.still = false → Anc pre i j
  mutn : ∀ (i j : Nat) (x y : MOper), j < i → l[i]? = some x → l[j]? = some y → y.op.looks = true → x.op.still = false → x.op.grow = false → Anc pre i j

theorem drawEff_spec {l : List MOper} {pre : List (List Nat)} (h : drawEff l pre = true) : EffSpec l pre := by
  have hms : ∀ i j, ((masks [] pre).getD i 0).testBit j = true → Anc pre i j := masks_spec (by simp) (by simp)
  unfold drawEff at h
  simp only [Bool.and_eq_true] at h
  obtain ⟨h2, h3⟩ := h
  rw [List.all_eq_true] at h3
  have key : ∀ (i j : Nat) (x y : MOper), l[i]? = some x → l[j]? = some y → (((Nat.beq i j || x.dst.isNone || x.dst != y.dst) = true ∧ (match y.dst with
      | some d => !x.reads2.contains d || ((pre.getD i []).contains j) || Nat.beq i j || (Nat.blt i j && ((masks [] pre).getD j 0).testBit i)
      | none => true) = true) ∧ (!(Nat.blt j i) || y.op.still || ((masks [] pre).getD i 0).testBit j) = true) ∧ (!(Nat.blt j i) || !y.op.looks || x.op.still || x.op.grow || ((masks [] pre).getD i 0).testBit j) = true := by
    intro i j x y hx hy
    have := h3 i (List.mem_range.2 (List.getElem?_eq_some_iff.1 hx).1)
    simp only [Bool.and_eq_true] at this
    have := List.all_eq_true.1 this.2 j (List.mem_range.2 (List.getElem?_eq_some_iff.1 hy).1)
    rw [hx, hy] at this
    simpa only [Bool.and_eq_true] using this
  have blt : ∀ {a b : Nat}, a < b → Nat.blt a b = true := fun {a b} h => by simp only [Nat.blt, Nat.ble_eq]; omega
  refine ⟨fun i j hi hj => ?_, fun i j x y d hx hy hdx hdy => ?_, fun i j x y d hx hy hdy hr => ?_, fun i j y hi hji hy hs => hms i j ?_, fun i j x y hji hx hy hl hs hg => hms i j ?_⟩
  · have := h3 i (List.mem_range.2 hi)
    simp only [Bool.and_eq_true] at this
    have := List.all_eq_true.1 this.1 j hj
    simp only [Nat.blt, Nat.ble_eq] at this
    omega
  · have := (key i j x y hx hy).1.1.1
    rw [hdx, hdy] at this
    simpa using this
  · have := (key i j x y hx hy).1.1.2
    rw [hdy] at this
    simp only [Bool.or_eq_true, Bool.not_eq_true', Bool.and_eq_true, List.contains_iff_mem] at this
    rcases this with ((h' | h') | h') | h'
    · have : x.reads2.contains d = true := by simpa using hr
      rw [this] at h'
      cases h'
    · exact .inl h'
    · exact .inr (.inl (Nat.eq_of_beq_eq_true h'))
    · refine .inr (.inr ⟨?_, hms j i h'.2⟩)
      have := h'.1
      simp only [Nat.blt, Nat.ble_eq] at this
      omega
  · have := (key i j l[i] y (List.getElem?_eq_getElem hi) hy).1.2
    rw [blt hji, hs] at this
    simpa using this
  · have := (key i j x y hx hy).2
    rw [blt hji, hl, hs, hg] at this
    simpa using this

theorem advance {M : Model} {Q : Tmps → Heap → Prop} {h : Heap} {l : List MOper} (hd : Distinct l) {t : Tmps} : ∀ (suf : List MOper) (n : Nat) (s : Tmps) (vs0 : List AV), l.drop n = suf → vs0.length = n → Shape l vs0 t (· < n) s → SRun M suf s h Q →
    ∃ k vs1 tk, n ≤ k ∧ k ≤ max n l.length ∧ (vs0 ++ vs1).length = k ∧ Shape l (vs0 ++ vs1) t (· < k) tk ∧ SRun M (l.drop k) tk h Q ∧ (∀ o, l[k]? = some o → wantedM tk o.guard = true ∧ o.op.still = false) ∧
      ∀ i o, n ≤ i → i < k → l[i]? = some o → ∃ ti, Shape l (vs0 ++ vs1) t (· < i) ti ∧ (wantedM ti o.guard = true → o.op.still = true ∧ evalOp ti h o.op = some ((vs0 ++ vs1).getD i .undef, h)) ∧ (wantedM ti o.guard = false → (vs0 ++ vs1).getD i .undef = .undef)
  | [], n, s, vs0, hdrop, hlen, hs, hr => by
    have hn : l.length ≤ n := List.drop_eq_nil_iff.1 hdrop
    refine ⟨n, [], s, Nat.le_refl _, by omega, by simpa using hlen, by simpa using hs, by rw [hdrop]; exact hr, fun o ho => ?_, fun i o hi hk => by omega⟩
    have := (List.getElem?_eq_some_iff.1 ho).1
    omega
  | o :: suf, n, s, vs0, hdrop, hlen, hs, hr => by
    have hn : n < l.length := by
      rcases Nat.lt_or_ge n l.length with h' | h'
      · exact h'
      · rw [List.drop_eq_nil_of_le h'] at hdrop; cases hdrop
    have e := List.drop_eq_getElem_cons hn
    rw [hdrop] at e
    injection e with e1 e2
    have hon : l[n]? = some o := by rw [List.getElem?_eq_getElem hn, e1]
    by_cases hstop : wantedM s o.guard = true ∧ o.op.still = false
    · refine ⟨n, [], s, Nat.le_refl _, by omega, by simpa using hlen, by simpa using hs, by rw [hdrop]; exact hr, fun o' ho' => ?_, fun i o hi hk => by omega⟩
      rw [hon] at ho'
      cases ho'
      exact hstop
    · obtain ⟨v, hw1, hw2, hr2⟩ : ∃ v, (wantedM s o.guard = true → o.op.still = true ∧ evalOp s h o.op = some (v, h)) ∧ (wantedM s o.guard = false → v = .undef) ∧ SRun M suf (Abs.put s o.dst v) h Q := by
        cases hr with
        | cons Q1 hw h1 h3 h2 =>
          have hst : o.op.still = true := by
            cases hh : o.op.still with
            | true => rfl
            | false => exact absurd ⟨hw, hh⟩ hstop
          obtain ⟨v, he, hQ⟩ := still_op hst h1
          refine ⟨v, fun _ => ⟨hst, he⟩, fun hf => ?_, h2 v h hQ⟩
          rw [hw] at hf
          cases hf
        | off hw h1 =>
          refine ⟨.undef, fun ht => ?_, fun _ => rfl, h1⟩
          rw [hw] at ht
          cases ht
      have hvn : (vs0 ++ [v]).getD n .undef = v := by
        simp [List.getD_eq_getElem?_getD, ← hlen]
      have hsx : Shape l (vs0 ++ [v]) t (· < n) s := ⟨hs.len, hs.old, fun j o x hj hD hd' hx => by
        rw [hs.new j o x hj hD hd' hx]
        simp only [List.getD_eq_getElem?_getD]
        rw [List.getElem?_append_left (by omega)]⟩
      have hs' : Shape l (vs0 ++ [v]) t (· < n + 1) (Abs.put s o.dst v) := by
        have := hsx.put hd hon (by omega) hvn
        refine ⟨this.len, fun x hx => this.old x fun j o' hj hD => hx j o' hj (by omega), fun j o' x hj hD => this.new j o' x hj (by omega)⟩
      obtain ⟨k, vs1, tk, g1, g2, g3, g4, g5, g6, g7⟩ := advance hd suf (n + 1) (Abs.put s o.dst v) (vs0 ++ [v]) e2.symm (by simp [hlen]) hs' hr2
      have happ : vs0 ++ v :: vs1 = (vs0 ++ [v]) ++ vs1 := by simp
      refine ⟨k, v :: vs1, tk, by omega, by omega, by rw [happ]; exact g3, by rw [happ]; exact g4, g5, g6, fun i o' hi hk ho' => ?_⟩
      rw [happ]
      by_cases hin : i = n
      · subst hin
        rw [hon] at ho'
        cases ho'
        have hvn' : ((vs0 ++ [v]) ++ vs1).getD i .undef = v := by
          rw [List.getD_eq_getElem?_getD, List.getElem?_append_left (by simp; omega), ← List.getD_eq_getElem?_getD]
          exact hvn
        refine ⟨s, ⟨hs.len, hs.old, fun j o x hj hD hd' hx => ?_⟩, fun hw => by rw [hvn']; exact hw1 hw, fun hw => by rw [hvn']; exact hw2 hw⟩
        rw [hs.new j o x hj hD hd' hx]
        simp only [List.getD_eq_getElem?_getD, List.append_assoc]
        rw [List.getElem?_append_left (by omega)]
      · exact g7 i o' (by omega) hk ho'

theorem Shape.vals {l : List MOper} {vs vs' : List AV} {t s : Tmps} {D : Nat → Prop} (k : Shape l vs t D s) (h : ∀ j, D j → vs'.getD j .undef = vs.getD j .undef) : Shape l vs' t D s :=
  ⟨k.len, k.old, fun j o x hj hD hd hx => by rw [k.new j o x hj hD hd hx, h j hD]⟩

theorem eff_runs {M : Model} {l : List MOper} {pre : List (List Nat)} {t : Tmps} {Q : Tmps → Heap → Prop} {h0 : Heap} (hok : drawEff l pre = true) (hr : SRun M l t h0 Q) : Runs M (.any l pre (List.replicate l.length false) t Q) h0 := by
  have S := drawEff_spec hok
  have key : ∀ (c : Nat) (done : List Bool) (s : Tmps) (h : Heap) (n : Nat) (vs : List AV) (tn : Tmps), done.count false = c → done.length = l.length → vs.length = n → n ≤ l.length → Shape l vs t (· < n) tn → SRun M (l.drop n) tn h Q →
      (∀ o, l[n]? = some o → wantedM tn o.guard = true ∧ o.op.still = false) →
      (∀ i o, i < n → l[i]? = some o → ∃ ti, Shape l vs t (· < i) ti ∧ (wantedM ti o.guard = true → done.getD i false = true ∨ (o.op.still = true ∧ evalOp ti h o.op = some (vs.getD i .undef, h))) ∧ (wantedM ti o.guard = false → vs.getD i .undef = .undef)) →
      (∀ j, done.getD j false = true → j < n) → (∀ i j, done.getD i false = true → j ∈ pre.getD i [] → done.getD j false = true) → Shape l vs t (fun j => done.getD j false = true) s → Runs M (.any l pre done s Q) h := by
    intro c
    induction c with
    | zero =>
      intro done s h n vs tn hc hl hvl hnl htn hsr hstop hprev hdn hcl hs
      have hall : ∀ j, j < l.length → done.getD j false = true := by
        intro j hj
        have : done[j]'(by omega) ≠ false := by
          intro hf
          have := List.count_pos_iff.2 (hf ▸ List.getElem_mem (l := done) (by omega : j < done.length))
          omega
        simp only [List.getD_eq_getElem?_getD, List.getElem?_eq_getElem (by omega : j < done.length), Option.getD_some]
        simpa using this
      have hn : n = l.length := by
        rcases Nat.lt_or_ge n l.length with h1 | h1
        · have := hdn n (hall n h1)
          omega
        · omega
      refine .anyDone (fun i hi => ?_) ?_
      · have := hall i hi
        have h2 : done.getD i true = true := by
          simp only [List.getD_eq_getElem?_getD, List.getElem?_eq_getElem (by omega : i < done.length), Option.getD_some] at this ⊢
          exact this
        unfold readyM
        rw [h2]
        rfl
      · have : s = tn := Shape.ext (D' := (· < n)) (fun j hj => ⟨fun _ => by omega, fun _ => hall j hj⟩) hs htn
        rw [this]
        rw [hn, List.drop_length] at hsr
        cases hsr with
        | nil hQ => exact hQ
    | succ c ih =>
      intro done s h n vs tn hc hl hvl hnl htn hsr hstop hprev hdn hcl hs
      have hund : ∀ i, i < l.length → (done.getD i true = false ↔ ¬ done.getD i false = true) := by
        intro i hi
        simp only [List.getD_eq_getElem?_getD, List.getElem?_eq_getElem (by omega : i < done.length), Option.getD_some]
        simp
      have undone : ∀ i, readyM pre done i = true → done.getD i true = false := by
        intro i hr
        simp only [readyM, Bool.and_eq_true, Bool.not_eq_true'] at hr
        exact hr.1
      have ancd : ∀ i j, Anc pre i j → done.getD i false = true → done.getD j false = true := by
        intro i j ha
        induction ha with
        | edge h => exact fun hi => hcl _ _ hi h
        | step h _ ih => exact fun hi => ih (hcl _ _ hi h)
      have agree : ∀ i o ti, l[i]? = some o → readyM pre done i = true → Shape l vs t (· < i) ti → ∀ x ∈ o.reads2, s.getD x .undef = ti.getD x .undef := by
        intro i o ti ho hr hti x hx
        have hi := (List.getElem?_eq_some_iff.1 ho).1
        have hnd := (hund i hi).1 (undone i hr)
        simp only [readyM, Bool.and_eq_true, List.all_eq_true] at hr
        by_cases hj : ∃ (j : Nat) (y : MOper), l[j]? = some y ∧ y.dst = some x
        · obtain ⟨j, y, hy, hd⟩ := hj
          have aside : ¬ done.getD j false = true → ¬ j < i → s.getD x .undef = ti.getD x .undef := by
            intro h1 h2
            rw [hs.old x fun j' y' hy' hD hd' => h1 (S.distinct j j' y y' x hy hy' hd hd' ▸ hD), hti.old x fun j' y' hy' hD hd' => h2 (S.distinct j j' y y' x hy hy' hd hd' ▸ hD)]
          rcases S.reads i j o y x ho hy hd hx with hpre | rfl | ⟨hij, hanc⟩
          · by_cases hxl : x < t.length
            · rw [hs.new j y x hy (hr.2 j hpre) hd hxl, hti.new j y x hy (S.less i j hi hpre) hd hxl]
            · simp [List.getD_eq_getElem?_getD, List.getElem?_eq_none (by rw [hs.len]; omega : s.length ≤ x), List.getElem?_eq_none (by rw [hti.len]; omega : ti.length ≤ x)]
          · exact aside hnd (Nat.lt_irrefl _)
          · exact aside (fun hd' => hnd (ancd j i hanc hd')) (by omega)
        · rw [hs.old x fun j y hy _ hd => hj ⟨j, y, hy, hd⟩, hti.old x fun j y hy _ hd => hj ⟨j, y, hy, hd⟩]
      have wsame : ∀ i o ti, l[i]? = some o → readyM pre done i = true → Shape l vs t (· < i) ti → wantedM s o.guard = wantedM ti o.guard := by
        intro i o ti ho hr hti
        cases hg : o.guard with
        | none => rfl
        | some g =>
          obtain ⟨g, want⟩ := g
          have := agree i o ti ho hr hti g (by simp [MOper.reads2, hg])
          simp only [wantedM, this]
      have ancr : ∀ i j, readyM pre done i = true → Anc pre i j → done.getD j false = true := by
        intro i j hr ha
        simp only [readyM, Bool.and_eq_true, List.all_eq_true] at hr
        cases ha with
        | edge h => exact hr.2 _ h
        | step h h2 => exact ancd _ _ h2 (hr.2 _ h)
      have within : ∀ i, i < l.length → readyM pre done i = true → i ≤ n := by
        intro i hi hr
        rcases Nat.lt_or_ge n i with h1 | h1
        · exfalso
          have hn : n < l.length := by omega
          have hx := hstop l[n] (List.getElem?_eq_getElem hn)
          have hp := S.eff i n l[n] hi h1 (List.getElem?_eq_getElem hn) hx.2
          have := hdn n (ancr i n hr hp)
          omega
        · exact h1
      -- the answer of the operation that comes next in the listed order
      obtain ⟨Q1, hQ1a, hQ1b⟩ : ∃ Q1 : AV → Heap → Prop, (∀ o, l[n]? = some o → Runs M (.op o.op tn Q1) h) ∧ ∀ o, l[n]? = some o → ∀ v h1, Q1 v h1 → (o.op.grow = true → Ext h h1) ∧ SRun M (l.drop (n + 1)) (Abs.put tn o.dst v) h1 Q := by
        cases hn : l[n]? with
        | none => exact ⟨fun _ _ => False, fun o ho => by simp at ho, fun o ho => by simp at ho⟩
        | some o =>
          have hlt := (List.getElem?_eq_some_iff.1 hn).1
          have e := List.drop_eq_getElem_cons hlt
          have e1 : l[n] = o := by have := List.getElem?_eq_getElem hlt; rw [hn] at this; exact (Option.some.inj this).symm
          rw [e, e1] at hsr
          cases hsr with
          | cons Q1 hw h1 h3 h2 => exact ⟨Q1, fun o' ho' => by cases ho'; exact h1, fun o' ho' => by cases ho'; exact fun v h1 hq => ⟨h3 v h1 hq, h2 v h1 hq⟩⟩
          | off hw h1 =>
            have := (hstop o hn).1
            rw [hw] at this
            cases this
      have early : ∀ i o v, l[i]? = some o → readyM pre done i = true → i < n → vs.getD i .undef = v → Runs M (.any l pre (done.set i true) (Abs.put s o.dst v) Q) h := by
        intro i o v ho hr hin hvi
        have hi := (List.getElem?_eq_some_iff.1 ho).1
        have hnd := undone i hr
        have hcnt := count_set_lt done i hnd
        refine ih (done.set i true) _ h n vs tn (by omega) (by simp [hl]) hvl hnl htn hsr hstop ?_ ?_ ?_ ?_
        · intro j oj hj hoj
          obtain ⟨ti, a1, a2, a3⟩ := hprev j oj hj hoj
          refine ⟨ti, a1, fun hw => ?_, a3⟩
          rcases a2 hw with b | b
          · exact .inl ((getD_set_self (by omega)).2 (.inl b))
          · exact .inr b
        · intro j hj
          rcases (getD_set_self (by omega)).1 hj with b | b
          · exact hdn j b
          · omega
        · intro i' j hi' hj
          rcases (getD_set_self (by omega)).1 hi' with b | b
          · exact (getD_set_self (by omega)).2 (.inl (hcl i' j b hj))
          · subst b
            simp only [readyM, Bool.and_eq_true, List.all_eq_true] at hr
            exact (getD_set_self (by omega)).2 (.inl (hr.2 j hj))
        · have := hs.put S.distinct ho ((hund i hi).1 hnd) hvi
          exact ⟨this.len, fun x hx => this.old x fun j o' hj hD => hx j o' hj ((getD_set_self (by omega)).2 hD), fun j o' x hj hD => this.new j o' x hj ((getD_set_self (by omega)).1 hD)⟩
      have late : ∀ o v h1, l[n]? = some o → readyM pre done n = true → Q1 v h1 → Runs M (.any l pre (done.set n true) (Abs.put s o.dst v) Q) h1 := by
        intro o v h1 ho hr hq
        have hi := (List.getElem?_eq_some_iff.1 ho).1
        have hnd := undone n hr
        have hcnt := count_set_lt done n hnd
        obtain ⟨hgrow, hsr1⟩ := hQ1b o ho v h1 hq
        have hvn : (vs ++ [v]).getD n .undef = v := by simp [List.getD_eq_getElem?_getD, ← hvl]
        have hlow : ∀ (ws : List AV) j, j < n → (vs ++ ws).getD j .undef = vs.getD j .undef := by
          intro ws j hj
          simp only [List.getD_eq_getElem?_getD]
          rw [List.getElem?_append_left (by omega)]
        have htn1 : Shape l (vs ++ [v]) t (· < n + 1) (Abs.put tn o.dst v) := by
          have := (htn.vals (vs' := vs ++ [v]) fun j hj => hlow [v] j hj).put S.distinct ho (by omega) hvn
          exact ⟨this.len, fun x hx => this.old x fun j o' hj hD => hx j o' hj (by omega), fun j o' x hj hD => this.new j o' x hj (by omega)⟩
        obtain ⟨k, vs1, tk, g1, g2, g3, g4, g5, g6, g7⟩ := advance S.distinct _ (n + 1) _ (vs ++ [v]) rfl (by simp [hvl]) htn1 hsr1
        have happ : (vs ++ [v]) ++ vs1 = vs ++ (v :: vs1) := by simp
        have hvn' : ((vs ++ [v]) ++ vs1).getD n .undef = v := by
          rw [List.getD_eq_getElem?_getD, List.getElem?_append_left (by simp; omega), ← List.getD_eq_getElem?_getD]
          exact hvn
        refine ih (done.set n true) _ h1 k ((vs ++ [v]) ++ vs1) tk (by omega) (by simp [hl]) g3 (by omega) g4 g5 g6 ?_ ?_ ?_ ?_
        · intro j oj hj hoj
          rcases Nat.lt_trichotomy j n with hjn | rfl | hjn
          · obtain ⟨ti, a1, a2, a3⟩ := hprev j oj hjn hoj
            refine ⟨ti, a1.vals fun i hi => by rw [happ]; exact hlow _ i (by omega), fun hw => ?_, fun hw => by rw [happ, hlow _ j hjn]; exact a3 hw⟩
            rcases a2 hw with b | ⟨b1, b2⟩
            · exact .inl ((getD_set_self (by omega)).2 (.inl b))
            · by_cases hdj : done.getD j false = true
              · exact .inl ((getD_set_self (by omega)).2 (.inl hdj))
              · refine .inr ⟨b1, ?_⟩
                rw [happ, hlow _ j hjn]
                cases hg : o.op.grow with
                | true => exact looks_ext (hgrow hg) b1 b2
                | false =>
                  cases hlk : oj.op.looks with
                  | false => exact pure_heap b1 hlk b2
                  | true =>
                    have hp := S.mutn n j o oj hjn ho hoj hlk (hstop o ho).2 hg
                    exact absurd (ancr n j hr hp) hdj
          · refine ⟨tn, htn.vals fun i hi => by rw [happ]; exact hlow _ i hi, fun _ => .inl ((getD_set_self (by omega)).2 (.inr rfl)), fun hw => ?_⟩
            rw [ho] at hoj
            cases hoj
            rw [(hstop o ho).1] at hw
            cases hw
          · obtain ⟨ti, a1, a2, a3⟩ := g7 j oj (by omega) hj hoj
            exact ⟨ti, a1, fun hw => .inr (a2 hw), a3⟩
        · intro j hj
          rcases (getD_set_self (by omega)).1 hj with b | b
          · have := hdn j b
            omega
          · omega
        · intro i' j hi' hj
          rcases (getD_set_self (by omega)).1 hi' with b | b
          · exact (getD_set_self (by omega)).2 (.inl (hcl i' j b hj))
          · subst b
            simp only [readyM, Bool.and_eq_true, List.all_eq_true] at hr
            exact (getD_set_self (by omega)).2 (.inl (hr.2 j hj))
        · have hs1 : Shape l ((vs ++ [v]) ++ vs1) t (fun j => done.getD j false = true) s := hs.vals fun j hj => by rw [happ]; exact hlow _ j (hdn j hj)
          have := hs1.put S.distinct ho ((hund n hi).1 hnd) hvn'
          exact ⟨this.len, fun x hx => this.old x fun j o' hj hD => hx j o' hj ((getD_set_self (by omega)).2 hD), fun j o' x hj hD => this.new j o' x hj ((getD_set_self (by omega)).1 hD)⟩
      refine .anyStep (fun i v h' => if i < n then vs.getD i .undef = v ∧ h' = h else Q1 v h') ?_ ?_ ?_ ?_
      · have : false ∈ done := List.count_pos_iff.1 (by omega)
        obtain ⟨m, hm, hf⟩ := List.mem_iff_getElem.1 this
        obtain ⟨i, hi, h1, h2⟩ := least (fun i => i < l.length ∧ done.getD i true = false) m ⟨by omega, by simp [List.getD_eq_getElem?_getD, hm, hf]⟩
        refine ⟨i, h1.1, ?_⟩
        simp only [readyM, Bool.and_eq_true, List.all_eq_true, h1.2, Bool.not_false, true_and]
        intro j hj
        have hlt := S.less i j h1.1 hj
        have := h2 j hlt
        by_cases hd : done.getD j false = true
        · exact hd
        · exact absurd ⟨by omega, (hund j (by omega)).2 hd⟩ this
      · intro i o ho hr hw
        have hi := (List.getElem?_eq_some_iff.1 ho).1
        rcases Nat.lt_or_ge i n with hin | hin
        · obtain ⟨ti, hti, e1, e2⟩ := hprev i o hin ho
          rw [wsame i o ti ho hr hti] at hw
          rcases e1 hw with b | ⟨b1, b2⟩
          · exact absurd b ((hund i hi).1 (undone i hr))
          · rw [← op_congr fun x hx => agree i o ti ho hr hti x (by simp [MOper.reads2, hx])] at b2
            exact .op b2 (by rw [if_pos hin]; exact ⟨rfl, rfl⟩)
        · have : i = n := by have := within i hi hr; omega
          subst this
          have hrun := hQ1a o ho
          have hmono : Runs M (.op o.op s Q1) h := runs_congr (fun x hx => (agree i o tn ho hr htn x (by simp [MOper.reads2, hx])).symm) hrun
          have e : (fun v h' => if i < i then vs.getD i .undef = v ∧ h' = h else Q1 v h') = Q1 := by
            funext v h'
            rw [if_neg (Nat.lt_irrefl i)]
          rw [e]
          exact hmono
      · intro i o ho hrd hw v h1 hq
        have hi := (List.getElem?_eq_some_iff.1 ho).1
        rcases Nat.lt_or_ge i n with hin | hin
        · rw [if_pos hin] at hq
          rw [hq.2]
          exact early i o v ho hrd hin hq.1
        · rw [if_neg (by omega)] at hq
          have : i = n := by have := within i hi hrd; omega
          subst this
          exact late o v h1 ho hrd hq
      · intro i o ho hr hw
        have hi := (List.getElem?_eq_some_iff.1 ho).1
        rcases Nat.lt_or_ge i n with hin | hin
        · obtain ⟨ti, hti, e1, e2⟩ := hprev i o hin ho
          rw [wsame i o ti ho hr hti] at hw
          exact early i o _ ho hr hin (e2 hw)
        · have : i = n := by have := within i hi hr; omega
          subst this
          have := (hstop o ho).1
          rw [← wsame i o tn ho hr htn, hw] at this
          cases this
  have s0 : Shape l [] t (· < 0) t := ⟨rfl, fun _ _ => rfl, fun j _ _ _ h => absurd h (Nat.not_lt_zero j)⟩
  obtain ⟨k, vs1, tk, g1, g2, g3, g4, g5, g6, g7⟩ := advance S.distinct l 0 t [] rfl rfl s0 hr
  simp only [List.nil_append] at g3 g4 g7
  have hnone : ∀ j, ¬ (List.replicate l.length false).getD j false = true := by
    intro j hj
    simp only [List.getD_eq_getElem?_getD, List.getElem?_replicate] at hj
    split at hj <;> simp at hj
  exact key _ _ t h0 k vs1 tk rfl (by simp) g3 (by omega) g4 g5 g6 (fun i o hi ho => by
    obtain ⟨ti, a1, a2, a3⟩ := g7 i o (Nat.zero_le i) hi ho
    exact ⟨ti, a1, fun hw => .inr (a2 hw), a3⟩) (fun j hj => absurd hj (hnone j)) (fun i j hi => absurd hi (hnone i)) ⟨rfl, fun _ _ => rfl, fun j _ _ _ h => absurd h (hnone j)⟩

def permOK (l : List MOper) (pre : List (List Nat)) (σ τ : List Nat) : Bool :=
  σ.length == l.length && τ.length == l.length && pre.length == l.length && (List.range l.length).all fun i => Nat.blt (σ.getD i l.length) l.length && Nat.beq (τ.getD (σ.getD i 0) l.length) i && Nat.blt (τ.getD i l.length) l.length && Nat.beq (σ.getD (τ.getD i 0) l.length) i && (pre.getD i []).all fun j => Nat.blt j l.length

def permL (l : List MOper) (σ : List Nat) : List MOper := σ.filterMap fun i => l[i]?
def permE (pre : List (List Nat)) (σ τ : List Nat) : List (List Nat) := σ.map fun i => (pre.getD i []).map fun j => τ.getD j 0

theorem blt_iff {a b : Nat} : Nat.blt a b = true ↔ a < b := by simp only [Nat.blt, Nat.ble_eq]; omega

theorem perm_runs {M : Model} {l : List MOper} {pre : List (List Nat)} {σ τ : List Nat} {Q : Tmps → Heap → Prop} (hok : permOK l pre σ τ = true) : ∀ (c : Nat) (done done' : List Bool) (t : Tmps) (h : Heap), done'.count false = c → done.length = l.length → done'.length = l.length →
    (∀ k, k < l.length → done'.getD k true = done.getD (σ.getD k 0) true) → Runs M (.any (permL l σ) (permE pre σ τ) done' t Q) h → Runs M (.any l pre done t Q) h := by
  unfold permOK at hok
  simp only [Bool.and_eq_true, beq_iff_eq, List.all_eq_true, List.mem_range] at hok
  obtain ⟨⟨⟨hσ, hτ⟩, hpre⟩, hall⟩ := hok
  have hs : ∀ i, i < l.length → σ.getD i 0 < l.length ∧ τ.getD (σ.getD i 0) 0 = i ∧ τ.getD i 0 < l.length ∧ σ.getD (τ.getD i 0) 0 = i ∧ ∀ j ∈ pre.getD i [], j < l.length := by
    intro i hi
    obtain ⟨⟨⟨⟨h1, h2⟩, h3⟩, h4⟩, h5⟩ := hall i hi
    have e1 : σ.getD i l.length = σ.getD i 0 := by simp [List.getD_eq_getElem?_getD, List.getElem?_eq_getElem (by omega : i < σ.length)]
    have e2 : τ.getD i l.length = τ.getD i 0 := by simp [List.getD_eq_getElem?_getD, List.getElem?_eq_getElem (by omega : i < τ.length)]
    rw [e1] at h1
    rw [e2] at h3
    have h1 := blt_iff.1 h1
    have h3 := blt_iff.1 h3
    have e3 : τ.getD (σ.getD i 0) l.length = τ.getD (σ.getD i 0) 0 := by simp only [List.getD_eq_getElem?_getD] at h1 ⊢; simp [List.getElem?_eq_getElem (by omega : σ[i]?.getD 0 < τ.length)]
    have e4 : σ.getD (τ.getD i 0) l.length = σ.getD (τ.getD i 0) 0 := by simp only [List.getD_eq_getElem?_getD] at h3 ⊢; simp [List.getElem?_eq_getElem (by omega : τ[i]?.getD 0 < σ.length)]
    rw [e3] at h2
    rw [e4] at h4
    exact ⟨h1, Nat.eq_of_beq_eq_true h2, h3, Nat.eq_of_beq_eq_true h4, fun j hj => blt_iff.1 (h5 j hj)⟩
  have hL : permL l σ = σ.map fun i => l.getD i ⟨none, .mov (.const .undef), none⟩ := by
    have : ∀ (s : List Nat), (∀ x ∈ s, x < l.length) → (s.filterMap fun i => l[i]?) = s.map fun i => l.getD i ⟨none, .mov (.const .undef), none⟩ := by
      intro s
      induction s with
      | nil => intro _; rfl
      | cons x s ih =>
        intro hx
        have h1 := hx x List.mem_cons_self
        rw [List.filterMap_cons, List.map_cons, ih fun y hy => hx y (List.mem_cons_of_mem _ hy)]
        simp [List.getElem?_eq_getElem h1]
    refine this σ fun x hx => ?_
    obtain ⟨i, hi, rfl⟩ := List.getElem_of_mem hx
    have := (hs i (by omega)).1
    simpa [List.getD_eq_getElem?_getD, List.getElem?_eq_getElem hi] using this
  have hlen : (permL l σ).length = l.length := by rw [hL]; simp [hσ]
  have hget : ∀ k, k < l.length → (permL l σ)[k]? = l[σ.getD k 0]? := by
    intro k hk
    have h1 := (hs k hk).1
    rw [hL, List.getElem?_map, List.getElem?_eq_getElem (by omega : k < σ.length)]
    have e : σ.getD k 0 = σ[k] := by simp [List.getD_eq_getElem?_getD, List.getElem?_eq_getElem (by omega : k < σ.length)]
    rw [e] at h1 ⊢
    simp [List.getElem?_eq_getElem h1]
  have hpe : ∀ k, k < l.length → (permE pre σ τ).getD k [] = (pre.getD (σ.getD k 0) []).map fun j => τ.getD j 0 := by
    intro k hk
    unfold permE
    simp [List.getD_eq_getElem?_getD, List.getElem?_eq_getElem (by omega : k < σ.length)]
  intro c
  induction c using Nat.strongRecOn with
  | _ c ih =>
    intro done done' t h hc hl hl' hd hr
    have bool : ∀ (d : List Bool) j, j < d.length → (d.getD j false = d.getD j true) := by
      intro d j hj
      simp [List.getD_eq_getElem?_getD, List.getElem?_eq_getElem hj]
    have ready : ∀ k, k < l.length → readyM (permE pre σ τ) done' k = readyM pre done (σ.getD k 0) := by
      intro k hk
      unfold readyM
      rw [hd k hk, hpe k hk, List.all_map]
      congr 1
      have hp := (hs _ (hs k hk).1).2.2.2.2
      have : ∀ (p : List Nat), (∀ j ∈ p, j < l.length) → p.all ((fun x => done'.getD x false) ∘ fun j => τ.getD j 0) = p.all fun x => done.getD x false := by
        intro p hp
        induction p with
        | nil => rfl
        | cons j p ihp =>
          have hj := hp j List.mem_cons_self
          simp only [List.all_cons]
          rw [ihp fun x hx => hp x (List.mem_cons_of_mem _ hx)]
          congr 1
          simp only [Function.comp]
          have h3 := (hs j hj).2.2.1
          rw [bool done' _ (by omega), hd _ h3, (hs j hj).2.2.2.1, bool done j (by omega)]
      exact this _ hp
    have next : ∀ i, i < l.length → done.getD i true = false → ∀ t' h', Runs M (.any (permL l σ) (permE pre σ τ) (done'.set (τ.getD i 0) true) t' Q) h' → Runs M (.any l pre (done.set i true) t' Q) h' := by
      intro i hi hund t' h' hr'
      obtain ⟨_, _, h3, h4, _⟩ := hs i hi
      have hu' : done'.getD (τ.getD i 0) true = false := by rw [hd _ h3, h4]; exact hund
      have hcnt := count_set_lt done' (τ.getD i 0) hu'
      refine ih ((done'.set (τ.getD i 0) true).count false) (by omega) _ _ t' h' rfl (by simp [hl]) (by simp [hl']) ?_ hr'
      intro k hk
      simp only [List.getD_eq_getElem?_getD, List.getElem?_set]
      simp only [List.getD_eq_getElem?_getD] at hd
      obtain ⟨k1, k2, _⟩ := hs k hk
      simp only [List.getD_eq_getElem?_getD] at k1 k2 h3 h4
      by_cases hik : i = σ[k]?.getD 0
      · rw [if_pos (by rw [hik]; exact k2), if_pos hik]
        rw [if_pos (by omega), if_pos (by omega)]
      · rw [if_neg (by intro e; exact hik (by rw [← e, h4])), if_neg hik]
        exact hd k hk
    cases hr with
    | anyDone h1 hQ =>
      refine .anyDone (fun i hi => ?_) hQ
      obtain ⟨_, _, h3, h4, _⟩ := hs i hi
      have := h1 (τ.getD i 0) (by rw [hlen]; exact h3)
      rw [ready _ h3, h4] at this
      exact this
    | anyStep Q1 hex h1 h2 h3 =>
      have und : ∀ i, readyM pre done i = true → done.getD i true = false := by
        intro i hr
        simp only [readyM, Bool.and_eq_true, Bool.not_eq_true'] at hr
        exact hr.1
      have to : ∀ i o, l[i]? = some o → i < l.length ∧ (permL l σ)[τ.getD i 0]? = some o ∧ (readyM pre done i = true → readyM (permE pre σ τ) done' (τ.getD i 0) = true) := by
        intro i o ho
        have hi := (List.getElem?_eq_some_iff.1 ho).1
        obtain ⟨_, _, h3, h4, _⟩ := hs i hi
        exact ⟨hi, by rw [hget _ h3, h4]; exact ho, fun hr => by rw [ready _ h3, h4]; exact hr⟩
      refine .anyStep (fun i v h' => Q1 (τ.getD i 0) v h') ?_ ?_ ?_ ?_
      · obtain ⟨k, hk, hr⟩ := hex
        rw [hlen] at hk
        exact ⟨σ.getD k 0, (hs k hk).1, by rw [← ready k hk]; exact hr⟩
      · intro i o ho hr hw
        obtain ⟨hi, a1, a2⟩ := to i o ho
        exact h1 _ o a1 (a2 hr) hw
      · intro i o ho hr hw v h' hq
        obtain ⟨hi, a1, a2⟩ := to i o ho
        exact next i hi (und i hr) _ _ (h2 _ o a1 (a2 hr) hw v h' hq)
      · intro i o ho hr hw
        obtain ⟨hi, a1, a2⟩ := to i o ho
        exact next i hi (und i hr) _ _ (h3 _ o a1 (a2 hr) hw)

theorem perm_length {l : List MOper} {pre : List (List Nat)} {σ τ : List Nat} (hok : permOK l pre σ τ = true) : (permL l σ).length = l.length := by
  unfold permOK at hok
  simp only [Bool.and_eq_true, beq_iff_eq, List.all_eq_true, List.mem_range] at hok
  obtain ⟨⟨⟨hσ, hτ⟩, hpre⟩, hall⟩ := hok
  have : ∀ (s : List Nat), (∀ x ∈ s, x < l.length) → (s.filterMap fun i => l[i]?).length = s.length := by
    intro s
    induction s with
    | nil => intro _; rfl
    | cons x s ih =>
      intro hx
      rw [List.filterMap_cons, List.getElem?_eq_getElem (hx x List.mem_cons_self)]
      simp [ih fun y hy => hx y (List.mem_cons_of_mem _ hy)]
  unfold permL
  rw [this σ fun x hx => ?_, hσ]
  obtain ⟨i, hi, rfl⟩ := List.getElem_of_mem hx
  have := (hall i (by omega)).1.1.1.1
  have := blt_iff.1 this
  simpa [List.getD_eq_getElem?_getD, List.getElem?_eq_getElem hi] using this

theorem perm_all {M : Model} {l : List MOper} {pre : List (List Nat)} {σ τ : List Nat} {Q : Tmps → Heap → Prop} {t : Tmps} {h : Heap} (hok : permOK l pre σ τ = true) (hr : Runs M (.any (permL l σ) (permE pre σ τ) (List.replicate (permL l σ).length false) t Q) h) : Runs M (.any l pre (List.replicate l.length false) t Q) h := by
  have hlen := perm_length hok
  rw [hlen] at hr
  refine perm_runs hok _ _ _ t h rfl (by simp) (by simp) (fun k hk => ?_) hr
  have hσ : σ.getD k 0 < l.length := by
    unfold permOK at hok
    simp only [Bool.and_eq_true, beq_iff_eq, List.all_eq_true, List.mem_range] at hok
    have h1 := blt_iff.1 (hok.2 k hk).1.1.1.1
    have e1 : σ.getD k l.length = σ.getD k 0 := by simp [List.getD_eq_getElem?_getD, List.getElem?_eq_getElem (by omega : k < σ.length)]
    rw [e1] at h1
    exact h1
  simp only [List.getD_eq_getElem?_getD] at hσ ⊢
  simp [List.getElem?_replicate, hk, hσ]
end Go.Abs

