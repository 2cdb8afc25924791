/- Symbolic states of the abstract machine: values with pointers told by segments, heaps as rows of segments. -/
import Derived.Test.YthedodaghjpdoaaAbsO
set_option linter.unusedVariables false
set_option linter.unusedSimpArgs false
namespace Go.Abs

/-- A slice, taken apart. -/
structure Slc where
  b : Nat
  o : Nat
  n : Nat
  nil : Bool
def Slc.av (s : Slc) : AV := cond s.nil .nilslice (.slice s.b s.o s.n)
def Slc.len (s : Slc) : Nat := cond s.nil 0 s.n

/-- A symbolic value: a value; a pointer into segment s (nix: its place is symbolic); a slice of segment s; a slice; a pointer or an error that may be nil; what is not known. -/
inductive SV where
  | av (v : AV)
  | new (s o : Nat)
  | nix (s o : Nat)
  | sln (s o n : Nat)
  | slc (s : Slc)
  | pto (nil : Bool) (b o : Nat)
  | err (nil : Bool) (t : Nat) (v : AV)
  | agg (l : List SV)
  | tup (l : List SV)
  | fn (f : Nat) (cap : List SV)
  | ifc (t : Nat) (v : SV)
  | mpn (s : Nat)
  | ob (o : AObj)
  | hp (g : List AObj)
  | bad

mutual
def conc (A : Nat → Nat) : SV → AV
  | .av v => v
  | .new s o => .ptr (A s) o
  | .nix s o => .ptr (A s) o
  | .sln s o n => .slice (A s) o n
  | .slc s => s.av
  | .pto nil b o => cond nil .nilptr (.ptr b o)
  | .err nil t v => cond nil .niliface (.iface t v)
  | .agg l => .agg (concs A l)
  | .tup l => .tuple (concs A l)
  | .fn f cap => .fn f (concs A cap)
  | .ifc t v => .iface t (conc A v)
  | .mpn s => .map (A s)
  | .ob _ => .undef
  | .hp _ => .undef
  | .bad => .undef
def concs (A : Nat → Nat) : List SV → List AV
  | [] => []
  | v :: l => conc A v :: concs A l
end

mutual
def SV.ok (n : Nat) : SV → Prop
  | .av _ => True
  | .new s _ => s < n
  | .nix s _ => s < n
  | .sln s _ _ => s < n
  | .slc _ => True
  | .pto _ _ _ => True
  | .err _ _ _ => True
  | .agg l => oks n l
  | .tup l => oks n l
  | .fn _ cap => oks n cap
  | .ifc _ v => SV.ok n v
  | .mpn s => s < n
  | .ob _ => True
  | .hp _ => True
  | .bad => False
def oks (n : Nat) : List SV → Prop
  | [] => True
  | v :: l => SV.ok n v ∧ oks n l
end

mutual
def dem (A : Nat → Nat) (J : Nat) : SV → SV
  | .av v => .av v
  | .new s o => cond (Nat.blt s J) (.new s o) (.av (.ptr (A s) o))
  | .nix s o => cond (Nat.blt s J) (.nix s o) (.av (.ptr (A s) o))
  | .sln s o n => cond (Nat.blt s J) (.sln s o n) (.slc ⟨A s, o, n, false⟩)
  | .slc s => .slc s
  | .pto nil b o => .pto nil b o
  | .err nil t v => .err nil t v
  | .agg l => .agg (dems A J l)
  | .tup l => .tup (dems A J l)
  | .fn f cap => .fn f (dems A J cap)
  | .ifc t v => .ifc t (dem A J v)
  | .mpn s => cond (Nat.blt s J) (.mpn s) (.av (.map (A s)))
  | .ob o => .ob o
  | .hp g => .hp g
  | .bad => .bad
def dems (A : Nat → Nat) (J : Nat) : List SV → List SV
  | [] => []
  | v :: l => dem A J v :: dems A J l
end

theorem concs_map (A : Nat → Nat) : ∀ l, concs A l = l.map (conc A)
  | [] => by simp [concs]
  | v :: l => by simp [concs, concs_map A l]
theorem oks_iff (n : Nat) : ∀ l, oks n l ↔ ∀ v ∈ l, SV.ok n v
  | [] => by simp [oks]
  | v :: l => by simp [oks, oks_iff n l]
theorem dems_map (A : Nat → Nat) (J : Nat) : ∀ l, dems A J l = l.map (dem A J)
  | [] => by simp [dems]
  | v :: l => by simp [dems, dems_map A J l]
theorem concs_length (A : Nat → Nat) (l : List SV) : (concs A l).length = l.length := by simp [concs_map]

mutual
theorem conc_congr {A A' : Nat → Nat} {n : Nat} (h : ∀ s, s < n → A' s = A s) : ∀ (v : SV), v.ok n → conc A' v = conc A v
  | .av v, _ => by simp only [conc]
  | .new s o, k => by simp only [SV.ok] at k; simp only [conc, h s k]
  | .nix s o, k => by simp only [SV.ok] at k; simp only [conc, h s k]
  | .sln s o m, k => by simp only [SV.ok] at k; simp only [conc, h s k]
  | .slc s, _ => by simp only [conc]
  | .pto _ _ _, _ => by simp only [conc]
  | .err _ _ _, _ => by simp only [conc]
  | .agg l, k => by simp only [SV.ok] at k; simp only [conc, concs_congr h l k]
  | .tup l, k => by simp only [SV.ok] at k; simp only [conc, concs_congr h l k]
  | .fn f l, k => by simp only [SV.ok] at k; simp only [conc, concs_congr h l k]
  | .ifc t v, k => by simp only [SV.ok] at k; simp only [conc, conc_congr h v k]
  | .mpn s, k => by simp only [SV.ok] at k; simp only [conc, h s k]
  | .ob _, _ => by simp only [conc]
  | .hp _, _ => by simp only [conc]
  | .bad, _ => by simp only [conc]
theorem concs_congr {A A' : Nat → Nat} {n : Nat} (h : ∀ s, s < n → A' s = A s) : ∀ (l : List SV), oks n l → concs A' l = concs A l
  | [], _ => by simp only [concs]
  | v :: l, k => by simp only [oks] at k; simp only [concs, conc_congr h v k.1, concs_congr h l k.2]
end

mutual
theorem SV.ok_mono {n n' : Nat} (h : n ≤ n') : ∀ (v : SV), v.ok n → v.ok n'
  | .av v, _ => by simp only [SV.ok]
  | .new s o, k => by simp only [SV.ok] at k ⊢; omega
  | .nix s o, k => by simp only [SV.ok] at k ⊢; omega
  | .sln s o m, k => by simp only [SV.ok] at k ⊢; omega
  | .slc s, _ => by simp only [SV.ok]
  | .pto _ _ _, _ => by simp only [SV.ok]
  | .err _ _ _, _ => by simp only [SV.ok]
  | .agg l, k => by simp only [SV.ok] at k ⊢; exact oks_mono h l k
  | .tup l, k => by simp only [SV.ok] at k ⊢; exact oks_mono h l k
  | .fn f l, k => by simp only [SV.ok] at k ⊢; exact oks_mono h l k
  | .ifc t v, k => by simp only [SV.ok] at k ⊢; exact SV.ok_mono h v k
  | .mpn s, k => by simp only [SV.ok] at k ⊢; omega
  | .ob _, _ => by simp only [SV.ok]
  | .hp _, _ => by simp only [SV.ok]
  | .bad, k => by simp only [SV.ok] at k
theorem oks_mono {n n' : Nat} (h : n ≤ n') : ∀ (l : List SV), oks n l → oks n' l
  | [], _ => by simp only [oks]
  | v :: l, k => by simp only [oks] at k ⊢; exact ⟨SV.ok_mono h v k.1, oks_mono h l k.2⟩
end

theorem blt_eq {a b : Nat} : Nat.blt a b = decide (a < b) := by
  simp [Nat.blt, Nat.succ_le_iff]
  rw [Bool.eq_iff_iff]
  simp [Nat.ble_eq, Nat.succ_le_iff]

mutual
theorem dem_conc {A A' : Nat → Nat} {J : Nat} (h : ∀ s, s < J → A' s = A s) : ∀ (v : SV), conc A' (dem A J v) = conc A v
  | .av v => by simp only [conc, dem]
  | .new s o => by
    simp only [dem, blt_eq]
    by_cases hs : s < J
    · simp [hs, conc, h s hs]
    · simp [hs, conc]
  | .nix s o => by
    simp only [dem, blt_eq]
    by_cases hs : s < J
    · simp [hs, conc, h s hs]
    · simp [hs, conc]
  | .sln s o n => by
    simp only [dem, blt_eq]
    by_cases hs : s < J
    · simp [hs, conc, h s hs]
    · simp [hs, conc, Slc.av]
  | .slc s => by simp only [conc, dem]
  | .pto _ _ _ => by simp only [conc, dem]
  | .err _ _ _ => by simp only [conc, dem]
  | .agg l => by simp only [conc, dem, dems_conc h l]
  | .tup l => by simp only [conc, dem, dems_conc h l]
  | .fn f l => by simp only [conc, dem, dems_conc h l]
  | .ifc t v => by simp only [conc, dem, dem_conc h v]
  | .mpn s => by
    simp only [dem, blt_eq]
    by_cases hs : s < J
    · simp [hs, conc, h s hs]
    · simp [hs, conc]
  | .ob _ => by simp only [conc, dem]
  | .hp _ => by simp only [conc, dem]
  | .bad => by simp only [conc, dem]
theorem dems_conc {A A' : Nat → Nat} {J : Nat} (h : ∀ s, s < J → A' s = A s) : ∀ (l : List SV), concs A' (dems A J l) = concs A l
  | [] => by simp only [concs, dems]
  | v :: l => by simp only [concs, dems, dem_conc h v, dems_conc h l]
end

mutual
theorem dem_ok {A : Nat → Nat} {J n : Nat} : ∀ (v : SV), v.ok n → (dem A J v).ok J
  | .av v, _ => by simp only [SV.ok, dem]
  | .new s o, _ => by
    simp only [dem, blt_eq]
    by_cases hs : s < J <;> simp [hs, SV.ok]
  | .nix s o, _ => by
    simp only [dem, blt_eq]
    by_cases hs : s < J <;> simp [hs, SV.ok]
  | .sln s o m, _ => by
    simp only [dem, blt_eq]
    by_cases hs : s < J <;> simp [hs, SV.ok]
  | .slc s, _ => by simp only [SV.ok, dem]
  | .pto _ _ _, _ => by simp only [SV.ok, dem]
  | .err _ _ _, _ => by simp only [SV.ok, dem]
  | .agg l, k => by simp only [SV.ok] at k; simp only [SV.ok, dem]; exact dems_ok l k
  | .tup l, k => by simp only [SV.ok] at k; simp only [SV.ok, dem]; exact dems_ok l k
  | .fn f l, k => by simp only [SV.ok] at k; simp only [SV.ok, dem]; exact dems_ok l k
  | .ifc t v, k => by simp only [SV.ok] at k; simp only [SV.ok, dem]; exact dem_ok v k
  | .mpn s, _ => by
    simp only [dem, blt_eq]
    by_cases hs : s < J <;> simp [hs, SV.ok]
  | .ob _, _ => by simp only [SV.ok, dem]
  | .hp _, _ => by simp only [SV.ok, dem]
  | .bad, k => by simp only [SV.ok] at k
theorem dems_ok {A : Nat → Nat} {J n : Nat} : ∀ (l : List SV), oks n l → oks J (dems A J l)
  | [], _ => by simp only [oks, dems]
  | v :: l, k => by simp only [oks] at k; simp only [oks, dems]; exact ⟨dem_ok v k.1, dems_ok l k.2⟩
end

theorem dem_bad {A : Nat → Nat} {J : Nat} {v : SV} (h : dem A J v = .bad) : v = .bad := by
  cases v <;> simp only [dem] at h <;> first
    | rfl
    | cases h
    | (rename_i s o; cases hb : Nat.blt s J <;> simp [hb] at h)
    | (rename_i s o n; cases hb : Nat.blt s J <;> simp [hb] at h)
    | (rename_i s; cases hb : Nat.blt s J <;> simp [hb] at h)

/-! ### Segments -/
inductive Seg where
  | sym (h : Heap)
  | con (c : List SV) (es : Nat)
  | row (c : List AV) (es : Nat)
  | obj (o : AObj)

def Seg.len : Seg → Nat
  | .sym h => h.length
  | _ => 1
def Seg.heap (A : Nat → Nat) : Seg → Heap
  | .sym h => h
  | .con c es => [.arr (concs A c) es false]
  | .row c es => [.arr c es false]
  | .obj o => [o]
def Seg.ok (n : Nat) : Seg → Prop
  | .con c _ => oks n c
  | _ => True
def Seg.dem (A : Nat → Nat) (J : Nat) : Seg → Seg
  | .con c es => .con (dems A J c) es
  | s => s

def addr : List Seg → Nat → Nat
  | [], _ => 0
  | _ :: _, 0 => 0
  | s :: r, n + 1 => s.len + addr r n

def flat (A : Nat → Nat) : List Seg → Heap
  | [] => []
  | [s] => s.heap A
  | s :: r => s.heap A ++ flat A r

theorem flat_cons (A : Nat → Nat) (s : Seg) (r : List Seg) : flat A (s :: r) = s.heap A ++ flat A r := by
  cases r <;> simp [flat]
theorem flat_append (A : Nat → Nat) : ∀ (a b : List Seg), flat A (a ++ b) = flat A a ++ flat A b
  | [], b => by simp [flat]
  | s :: a, b => by rw [List.cons_append, flat_cons, flat_cons, flat_append A a b, List.append_assoc]
theorem heap_length (A : Nat → Nat) (s : Seg) : (s.heap A).length = s.len := by cases s <;> simp [Seg.heap, Seg.len]

theorem addr_zero (H : List Seg) : addr H 0 = 0 := by cases H <;> simp [addr]
theorem addr_append : ∀ (H r : List Seg) (s : Nat), s ≤ H.length → addr (H ++ r) s = addr H s
  | [], r, s, h => by
    have : s = 0 := by simpa using h
    subst this
    simp [addr_zero]
  | x :: H, r, 0, h => by simp [addr]
  | x :: H, r, s + 1, h => by
    simp only [List.cons_append, addr]
    rw [addr_append H r s (by simpa using h)]
theorem addr_add : ∀ (H r : List Seg) (s : Nat), addr (H ++ r) (H.length + s) = addr H H.length + addr r s
  | [], r, s => by simp [addr]
  | x :: H, r, s => by
    have e : (x :: H).length + s = (H.length + s) + 1 := by simp; omega
    rw [e]
    simp only [List.cons_append, addr, List.length_cons]
    rw [addr_add H r s]
    omega
theorem flat_length (A : Nat → Nat) : ∀ (H : List Seg), (flat A H).length = addr H H.length
  | [] => by simp [flat, addr]
  | s :: r => by rw [flat_cons, List.length_append, heap_length, flat_length A r]; simp [addr]
theorem addr_take {H : List Seg} {j s : Nat} (hs : s ≤ j) (hj : j ≤ H.length) : addr (H.take j) s = addr H s := by
  have := addr_append (H.take j) (H.drop j) s (by simp; omega)
  rw [List.take_append_drop] at this
  exact this.symm
/-- Where the lengths agree, the addresses do. -/
theorem addr_lens : ∀ {H H' : List Seg} {s : Nat}, H'.map Seg.len = H.map Seg.len → addr H' s = addr H s
  | [], [], s, h => rfl
  | [], _ :: _, s, h => by simp at h
  | _ :: _, [], s, h => by simp at h
  | x :: H, y :: H', 0, h => by simp [addr]
  | x :: H, y :: H', s + 1, h => by
    simp only [List.map_cons, List.cons.injEq] at h
    simp only [addr, h.1, addr_lens h.2]

theorem flat_congr {A A' : Nat → Nat} {n : Nat} (h : ∀ s, s < n → A' s = A s) : ∀ (H : List Seg), (∀ s ∈ H, s.ok n) → flat A' H = flat A H
  | [], _ => by simp [flat]
  | s :: r, k => by
    rw [flat_cons, flat_cons, flat_congr h r fun x hx => k x (List.mem_cons_of_mem _ hx)]
    congr 1
    have := k s List.mem_cons_self
    cases s <;> simp only [Seg.heap]
    simp only [Seg.ok] at this
    rw [concs_congr h _ this]

theorem seg_split {H : List Seg} {s : Nat} {x : Seg} (hs : H[s]? = some x) : H = H.take s ++ x :: H.drop (s + 1) ∧ s < H.length ∧ (H.take s).length = s := by
  obtain ⟨hlt, rfl⟩ := List.getElem?_eq_some_iff.1 hs
  refine ⟨?_, hlt, by simp; omega⟩
  rw [List.getElem_cons_drop, List.take_append_drop]

/-- What lies at a place of segment s. -/
theorem flat_get {A : Nat → Nat} {H : List Seg} {s k : Nat} {x : Seg} (hs : H[s]? = some x) (hk : k < x.len) : (flat A H)[addr H s + k]? = (x.heap A)[k]? := by
  obtain ⟨e, hlt, hl⟩ := seg_split hs
  have hlen : (flat A (H.take s)).length = addr H s := by
    rw [flat_length, hl, addr_take (Nat.le_refl s) (by omega)]
  have e2 : flat A H = flat A (H.take s) ++ (x.heap A ++ flat A (H.drop (s + 1))) := by
    conv => lhs; rw [e]
    rw [flat_append, flat_cons]
  rw [e2, List.getElem?_append_right (by omega), hlen, Nat.add_sub_cancel_left, List.getElem?_append_left (by rw [heap_length]; exact hk)]

theorem flat_set {A : Nat → Nat} {H : List Seg} {s k : Nat} {x y : Seg} {o : AObj} (hs : H[s]? = some x) (hk : k < x.len) (hy : y.heap A = (x.heap A).set k o) : (flat A H).set (addr H s + k) o = flat A (H.set s y) := by
  obtain ⟨e, hlt, hl⟩ := seg_split hs
  have hlen : (flat A (H.take s)).length = addr H s := by
    rw [flat_length, hl, addr_take (Nat.le_refl s) (by omega)]
  have e2 : flat A H = flat A (H.take s) ++ (x.heap A ++ flat A (H.drop (s + 1))) := by
    conv => lhs; rw [e]
    rw [flat_append, flat_cons]
  have e3 : H.set s y = H.take s ++ y :: H.drop (s + 1) := by
    rw [List.set_eq_take_append_cons_drop, if_pos hlt]
  rw [e3, flat_append, flat_cons, e2, List.set_append_right _ _ (by omega), hlen, Nat.add_sub_cancel_left, List.set_append_left _ _ (by rw [heap_length]; exact hk), hy]

/-! ### Symbolic states and states -/
def HV (H : List Seg) (h : Heap) : Prop := h = flat (addr H) H ∧ ∀ s ∈ H, s.ok H.length

def VV (H : List Seg) (v : SV) (a : AV) : Prop := v = .bad ∨ (v.ok H.length ∧ a = conc (addr H) v)

structure Val (t : List SV) (H : List Seg) (t' : Tmps) (h : Heap) : Prop where
  heap : HV H h
  len : t'.length = t.length
  tok : ∀ (i : Nat) (v : SV), t[i]? = some v → VV H v (t'.getD i .undef)

/-- The first z segments are where they were; those of them that W does not name are as they were. -/
def KeepH (z : Nat) (W : List Nat) (H : List Seg) (h : Heap) (H' : List Seg) (h' : Heap) : Prop :=
  z ≤ H'.length ∧ (∀ s, s ≤ z → addr H' s = addr H s) ∧ ∀ s, s < z → s ∉ W → ∀ k, addr H s ≤ k → k < addr H (s + 1) → h'[k]? = h[k]?

theorem KeepH.refl {z : Nat} {W : List Nat} {H : List Seg} {h : Heap} (hz : z ≤ H.length) : KeepH z W H h H h := ⟨hz, fun _ _ => rfl, fun _ _ _ _ _ _ => rfl⟩
theorem KeepH.trans {z : Nat} {W : List Nat} {H H1 H2 : List Seg} {h h1 h2 : Heap} (a : KeepH z W H h H1 h1) (b : KeepH z W H1 h1 H2 h2) : KeepH z W H h H2 h2 :=
  ⟨b.1, fun s hs => by rw [b.2.1 s hs, a.2.1 s hs], fun s hs hw k h1 h2 => by
    rw [b.2.2 s hs hw k (by rw [a.2.1 s (by omega)]; exact h1) (by rw [a.2.1 (s + 1) (by omega)]; exact h2), a.2.2 s hs hw k h1 h2]⟩
theorem KeepH.weaken {z j : Nat} {W V : List Nat} {H H' : List Seg} {h h' : Heap} (hj : z ≤ j) (hW : ∀ s, s < z → s ∈ V → s ∈ W) (k : KeepH j V H h H' h') : KeepH z W H h H' h' :=
  ⟨by have := k.1; omega, fun s hs => k.2.1 s (by omega), fun s hs hw i h1 h2 => k.2.2 s (by omega) (fun hv => hw (hW s hs hv)) i h1 h2⟩

/-- Segment s may be written. -/
def wr (z : Nat) (W : List Nat) (s : Nat) : Bool := Nat.ble z s || W.elem s
theorem wr_spec {z s : Nat} {W : List Nat} (h : wr z W s = true) : z ≤ s ∨ s ∈ W := by
  simp only [wr, Bool.or_eq_true, Nat.ble_eq, List.elem_eq_mem, decide_eq_true_eq] at h
  exact h

theorem VV.mono {H H' : List Seg} (hl : H.length ≤ H'.length) (ha : ∀ s, s < H.length → addr H' s = addr H s) {v : SV} {a : AV} (h : VV H v a) : VV H' v a := by
  rcases h with h | ⟨h1, h2⟩
  · exact .inl h
  · exact .inr ⟨SV.ok_mono hl _ h1, by rw [conc_congr ha _ h1]; exact h2⟩

theorem Val.mono {t : List SV} {H H' : List Seg} {t' : Tmps} {h h' : Heap} (k : Val t H t' h) (hl : H.length ≤ H'.length) (ha : ∀ s, s < H.length → addr H' s = addr H s) (hh : HV H' h') : Val t H' t' h' :=
  ⟨hh, k.len, fun i v hi => (k.tok i v hi).mono hl ha⟩

def MO.ev (t : List SV) : MO → SV
  | .tmp i => t.getD i .bad
  | .const v => .av v

theorem Val.ev {t : List SV} {H : List Seg} {t' : Tmps} {h : Heap} (k : Val t H t' h) (x : MO) : VV H (x.ev t) (x.eval t') := by
  cases x with
  | const v => exact .inr ⟨by simp [MO.ev, SV.ok], by simp [MO.ev, MO.eval, conc]⟩
  | tmp i =>
    simp only [MO.ev, MO.eval]
    cases hi : t[i]? with
    | none => exact .inl (by simp [List.getD, hi])
    | some v =>
      have := k.tok i v hi
      simpa [List.getD, hi] using this

theorem VV.ok {H : List Seg} {v : SV} {a : AV} (h : VV H v a) (hv : v ≠ .bad) : v.ok H.length ∧ a = conc (addr H) v := h.resolve_left hv

def putS (t : List SV) (d : Option Nat) (v : SV) : List SV :=
  match d with
  | some d => t.set d v
  | none => t

theorem Val.put {t : List SV} {H : List Seg} {t' : Tmps} {h : Heap} (k : Val t H t' h) (d : Option Nat) {v : SV} {a : AV} (hv : VV H v a) : Val (putS t d v) H (Abs.put t' d a) h := by
  cases d with
  | none => exact k
  | some d =>
    refine ⟨k.heap, by simp [putS, Abs.put, k.len], fun i x hi => ?_⟩
    simp only [putS, List.getElem?_set] at hi
    simp only [Abs.put, List.getD_eq_getElem?_getD, List.getElem?_set]
    split at hi
    · rename_i hdi
      split at hi
      · rename_i hlt
        cases hi
        subst hdi
        rw [if_pos rfl, if_pos (by rw [k.len]; exact hlt)]
        exact hv
      · cases hi
    · rename_i hdi
      rw [if_neg hdi]
      have := k.tok i x hi
      rwa [List.getD_eq_getElem?_getD] at this
end Go.Abs
