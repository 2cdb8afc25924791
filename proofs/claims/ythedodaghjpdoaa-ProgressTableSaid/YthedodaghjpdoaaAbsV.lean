/- Code on symbolic states: what is left to be shown, with joins and loops by patterns; and that it is enough. -/
import Derived.Test.YthedodaghjpdoaaAbsU
import Derived.Test.YthedodaghjpdoaaAbsX
set_option linter.unusedVariables false
set_option linter.unusedSimpArgs false
namespace Go.Abs

mutual
/-- A function of what a shape leaves open. -/
def Sh.Ar : Sh → Type → Type
  | .int _, R => Int → R
  | .bool, R => Bool → R
  | .str, R => List UInt8 → R
  | .slc, R => Slc → R
  | .raw, R => AV → R
  | .ptr, R => Nat → Nat → R
  | .pto, R => Bool → Nat → Nat → R
  | .err, R => Bool → Nat → AV → R
  | .mapv, R => Nat → R
  | .cells, R => List AV → R
  | .iter, R => List UInt8 → Nat → R
  | .mapo, R => List (AV × AV) → R
  | .heap, R => Heap → R
  | .agg l, R => Ars l R
  | .tup l, R => Ars l R
def Ars : List Sh → Type → Type
  | [], R => R
  | s :: l, R => Sh.Ar s (Ars l R)
end

mutual
def Sh.ap (A : Nat → Nat) : (s : Sh) → {R : Type} → s.Ar R → SV → (R → Prop) → Prop
  | .int k, R, f, v, c => match v with
    | .av (.int k' x) => if k = k' then c ((show Int → R from f) x) else False
    | _ => False
  | .bool, R, f, v, c => match v with
    | .av (.bool x) => c ((show Bool → R from f) x)
    | _ => False
  | .str, R, f, v, c => match v with
    | .av (.str x) => c ((show List UInt8 → R from f) x)
    | _ => False
  | .slc, R, f, v, c => match v with
    | .slc s => c ((show Slc → R from f) s)
    | .sln s o n => c ((show Slc → R from f) ⟨A s, o, n, false⟩)
    | .av .nilslice => c ((show Slc → R from f) ⟨0, 0, 0, true⟩)
    | .av (.slice b o n) => c ((show Slc → R from f) ⟨b, o, n, false⟩)
    | _ => False
  | .raw, R, f, v, c => match v with
    | .bad => False
    | .ob _ => False
    | .hp _ => False
    | v => c ((show AV → R from f) (conc A v))
  | .ptr, R, f, v, c => match v with
    | .new s o => c ((show Nat → Nat → R from f) (A s) o)
    | .nix s o => c ((show Nat → Nat → R from f) (A s) o)
    | .av (.ptr b o) => c ((show Nat → Nat → R from f) b o)
    | _ => False
  | .pto, R, f, v, c => match v with
    | .pto n b o => c ((show Bool → Nat → Nat → R from f) n b o)
    | .new s o => c ((show Bool → Nat → Nat → R from f) false (A s) o)
    | .av .nilptr => c ((show Bool → Nat → Nat → R from f) true 0 0)
    | .av (.ptr b o) => c ((show Bool → Nat → Nat → R from f) false b o)
    | _ => False
  | .err, R, f, v, c => match v with
    | .err n t w => c ((show Bool → Nat → AV → R from f) n t w)
    | .av .niliface => c ((show Bool → Nat → AV → R from f) true 0 .undef)
    | .ifc t w => c ((show Bool → Nat → AV → R from f) false t (conc A w))
    | .av (.iface t w) => c ((show Bool → Nat → AV → R from f) false t w)
    | _ => False
  | .mapv, R, f, v, c => match v with
    | .mpn s => c ((show Nat → R from f) (A s))
    | .av (.map r) => c ((show Nat → R from f) r)
    | _ => False
  | .cells, R, f, v, c => match v with
    | .agg l => c ((show List AV → R from f) (concs A l))
    | .av (.agg l) => c ((show List AV → R from f) l)
    | _ => False
  | .iter, R, f, v, c => match v with
    | .ob (.iter s p) => c ((show List UInt8 → Nat → R from f) s p)
    | _ => False
  | .mapo, R, f, v, c => match v with
    | .ob (.map es) => c ((show List (AV × AV) → R from f) es)
    | _ => False
  | .heap, R, f, v, c => match v with
    | .hp g => c ((show Heap → R from f) g)
    | _ => False
  | .agg l, R, f, v, c => match v with
    | .agg vs => aps A l (show Ars l R from f) vs c
    | .av (.agg vs) => aps A l (show Ars l R from f) (vs.map .av) c
    | _ => False
  | .tup l, R, f, v, c => match v with
    | .tup vs => aps A l (show Ars l R from f) vs c
    | .av (.tuple vs) => aps A l (show Ars l R from f) (vs.map .av) c
    | _ => False
def aps (A : Nat → Nat) : (l : List Sh) → {R : Type} → Ars l R → List SV → (R → Prop) → Prop
  | [], R, f, vs, c => match vs with
    | [] => c (show R from f)
    | _ => False
  | s :: l, R, f, vs, c => match vs with
    | v :: vs => Sh.ap A s (show Sh.Ar s (Ars l R) from f) v fun g => aps A l g vs c
    | [] => False
end

mutual
def Sh.allI : (s : Sh) → {R : Type} → s.Ar R → (SV → R → Prop) → Prop
  | .int k, R, f, G => ∀ x : Int, G (.av (.int k x)) ((show Int → R from f) x)
  | .bool, R, f, G => ∀ x : Bool, G (.av (.bool x)) ((show Bool → R from f) x)
  | .str, R, f, G => ∀ x : List UInt8, G (.av (.str x)) ((show List UInt8 → R from f) x)
  | .slc, R, f, G => ∀ x : Slc, G (.slc x) ((show Slc → R from f) x)
  | .raw, R, f, G => ∀ x : AV, G (.av x) ((show AV → R from f) x)
  | .ptr, R, f, G => ∀ b o : Nat, G (.av (.ptr b o)) ((show Nat → Nat → R from f) b o)
  | .pto, R, f, G => ∀ (n : Bool) (b o : Nat), G (.pto n b o) ((show Bool → Nat → Nat → R from f) n b o)
  | .err, R, f, G => ∀ (n : Bool) (t : Nat) (v : AV), G (.err n t v) ((show Bool → Nat → AV → R from f) n t v)
  | .mapv, R, f, G => ∀ r : Nat, G (.av (.map r)) ((show Nat → R from f) r)
  | .cells, R, f, G => ∀ c : List AV, G (.av (.agg c)) ((show List AV → R from f) c)
  | .iter, R, f, G => ∀ (s : List UInt8) (p : Nat), G (.ob (.iter s p)) ((show List UInt8 → Nat → R from f) s p)
  | .mapo, R, f, G => ∀ es : List (AV × AV), G (.ob (.map es)) ((show List (AV × AV) → R from f) es)
  | .heap, R, f, G => ∀ g : Heap, G (.hp g) ((show Heap → R from f) g)
  | .agg l, R, f, G => allsI l (show Ars l R from f) fun vs r => G (.agg vs) r
  | .tup l, R, f, G => allsI l (show Ars l R from f) fun vs r => G (.tup vs) r
def allsI : (l : List Sh) → {R : Type} → Ars l R → (List SV → R → Prop) → Prop
  | [], R, f, G => G [] (show R from f)
  | s :: l, R, f, G => Sh.allI s (show Sh.Ar s (Ars l R) from f) fun v g => allsI l g fun vs r => G (v :: vs) r
end

/-- A segment's content as a value, and back. -/
def segVal : Seg → SV
  | .con c _ => .agg c
  | .row c _ => .av (.agg c)
  | .obj o => .ob o
  | .sym g => .hp g
def segFit : Seg → Nat → Bool
  | .con _ es, e => Nat.beq es e
  | .row _ es, e => Nat.beq es e
  | .obj _, _ => true
  | .sym _, _ => true
def valSeg : SV → Nat → Seg
  | .agg c, es => .con c es
  | .av (.agg c), es => .row c es
  | .ob o, _ => .obj o
  | .hp g, _ => .sym g
  | _, _ => .obj .dead
def objO (A : Nat → Nat) (es : Nat) : SV → Heap
  | .agg c => [.arr (concs A c) es false]
  | .av (.agg c) => [.arr c es false]
  | .ob o => [o]
  | .hp g => g
  | _ => [.dead]

theorem valSeg_spec (v : SV) (es : Nat) : (∀ A, (valSeg v es).heap A = objO A es v) ∧ ∀ n, v.ok n → (valSeg v es).ok n := by
  unfold valSeg objO
  split <;> simp [Seg.len, Seg.heap, Seg.ok, SV.ok]
theorem segVal_spec {s : Seg} {es : Nat} (h : segFit s es = true) : ∀ A, s.heap A = objO A es (segVal s) := by
  cases s <;> simp only [segFit, Bool.false_eq_true] at h <;> (try have h := Nat.eq_of_beq_eq_true h) <;> simp [Seg.len, Seg.heap, segVal, objO, *]

/-- v' says the same as v and names no segment. -/
def Says' (A : Nat → Nat) (v v' : SV) : Prop := v ≠ .bad ∧ (∀ A', conc A' v' = conc A v) ∧ (∀ A' es, objO A' es v' = objO A es v) ∧ ∀ n, v'.ok n

def SaysL (A : Nat → Nat) : List SV → List SV → Prop
  | [], [] => True
  | v :: vs, v' :: vs' => Says' A v v' ∧ SaysL A vs vs'
  | _, _ => False

theorem SaysL.concs {A : Nat → Nat} : ∀ {vs vs' : List SV}, SaysL A vs vs' → ∀ A', concs A' vs' = concs A vs
  | [], [], _, A' => by simp only [Abs.concs]
  | v :: vs, v' :: vs', h, A' => by simp only [SaysL] at h; simp only [Abs.concs, h.1.2.1, SaysL.concs h.2 A']
  | [], _ :: _, h, _ => by simp only [SaysL] at h
  | _ :: _, [], h, _ => by simp only [SaysL] at h
theorem SaysL.oks {A : Nat → Nat} : ∀ {vs vs' : List SV}, SaysL A vs vs' → ∀ n, oks n vs'
  | [], [], _, n => by simp only [Abs.oks]
  | v :: vs, v' :: vs', h, n => by simp only [SaysL] at h; simp only [Abs.oks]; exact ⟨h.1.2.2.2 n, SaysL.oks h.2 n⟩
  | [], _ :: _, h, _ => by simp only [SaysL] at h
  | _ :: _, [], h, _ => by simp only [SaysL] at h
theorem SaysL.length {A : Nat → Nat} : ∀ {vs vs' : List SV}, SaysL A vs vs' → vs'.length = vs.length
  | [], [], _ => rfl
  | v :: vs, v' :: vs', h => by simp only [SaysL] at h; simp [SaysL.length h.2]
  | [], _ :: _, h => by simp only [SaysL] at h
  | _ :: _, [], h => by simp only [SaysL] at h
theorem SaysL.get {A : Nat → Nat} : ∀ {vs vs' : List SV}, SaysL A vs vs' → ∀ {i : Nat} {v v' : SV}, vs[i]? = some v → vs'[i]? = some v' → Says' A v v'
  | [], [], _, i, v, v', h1, _ => by simp at h1
  | v :: vs, v' :: vs', h, 0, u, u', h1, h2 => by
    simp only [SaysL] at h
    simp at h1 h2
    subst h1 h2
    exact h.1
  | v :: vs, v' :: vs', h, i + 1, u, u', h1, h2 => by
    simp only [SaysL] at h
    exact SaysL.get h.2 (by simpa using h1) (by simpa using h2)
  | [], _ :: _, h, _, _, _, _, _ => by simp only [SaysL] at h
  | _ :: _, [], h, _, _, _, _, _ => by simp only [SaysL] at h

theorem says_av {A : Nat → Nat} {v : SV} {a : AV} (h1 : v ≠ .bad) (h2 : conc A v = a) (h3 : ∀ es, objO A es v = objO A es (.av a)) : Says' A v (.av a) :=
  ⟨h1, fun A' => by simp only [conc, h2], fun A' es => by rw [h3]; cases a <;> rfl, fun n => by simp only [SV.ok]⟩

mutual
theorem ap_spec {A : Nat → Nat} : ∀ (s : Sh) {R : Type} (f : s.Ar R) (v : SV) (c : R → Prop), s.ap A f v c → ∃ v' r, Says' A v v' ∧ c r ∧ ∀ G : SV → R → Prop, s.allI f G → G v' r
  | .int k, R, f, v, c, h => by
    simp only [Sh.ap] at h
    split at h
    · split at h
      · rename_i k' x hk
        subst hk
        exact ⟨_, _, says_av (by simp) (by simp only [conc]) fun _ => rfl, h, fun G hG => by simp only [Sh.allI] at hG; exact hG x⟩
      · exact h.elim
    · exact h.elim
  | .bool, R, f, v, c, h => by
    simp only [Sh.ap] at h
    split at h
    · rename_i x
      exact ⟨_, _, says_av (by simp) (by simp only [conc]) fun _ => rfl, h, fun G hG => by simp only [Sh.allI] at hG; exact hG x⟩
    · exact h.elim
  | .str, R, f, v, c, h => by
    simp only [Sh.ap] at h
    split at h
    · rename_i x
      exact ⟨_, _, says_av (by simp) (by simp only [conc]) fun _ => rfl, h, fun G hG => by simp only [Sh.allI] at hG; exact hG x⟩
    · exact h.elim
  | .slc, R, f, v, c, h => by
    simp only [Sh.ap] at h
    split at h
    · rename_i s
      exact ⟨.slc s, _, ⟨by simp, fun A' => by simp only [conc], fun A' es => rfl, fun n => by simp only [SV.ok]⟩, h, fun G hG => by simp only [Sh.allI] at hG; exact hG s⟩
    · rename_i s o n
      exact ⟨.slc ⟨A s, o, n, false⟩, _, ⟨by simp, fun A' => by simp [conc, Slc.av], fun A' es => rfl, fun n => by simp only [SV.ok]⟩, h, fun G hG => by simp only [Sh.allI] at hG; exact hG _⟩
    · exact ⟨.slc ⟨0, 0, 0, true⟩, _, ⟨by simp, fun A' => by simp [conc, Slc.av], fun A' es => rfl, fun n => by simp only [SV.ok]⟩, h, fun G hG => by simp only [Sh.allI] at hG; exact hG _⟩
    · rename_i b o n
      exact ⟨.slc ⟨b, o, n, false⟩, _, ⟨by simp, fun A' => by simp [conc, Slc.av], fun A' es => rfl, fun n => by simp only [SV.ok]⟩, h, fun G hG => by simp only [Sh.allI] at hG; exact hG _⟩
    · exact h.elim
  | .raw, R, f, v, c, h => by
    simp only [Sh.ap] at h
    split at h
    · exact h.elim
    · exact h.elim
    · exact h.elim
    · rename_i hb ho hp
      refine ⟨.av (conc A v), _, says_av (fun e => hb e) rfl fun es => ?_, h, fun G hG => by simp only [Sh.allI] at hG; exact hG _⟩
      cases v <;> simp only [conc, objO] <;> first
        | rfl
        | (rename_i s; cases hs : s.nil <;> simp [Slc.av, hs, objO]; done)
        | (rename_i n _ _; cases n <;> simp [objO]; done)
        | (exact absurd rfl (ho _))
        | (exact absurd rfl (hp _))
  | .ptr, R, f, v, c, h => by
    simp only [Sh.ap] at h
    split at h
    · rename_i s o
      exact ⟨.av (.ptr (A s) o), _, says_av (by simp) (by simp only [conc]) fun _ => rfl, h, fun G hG => by simp only [Sh.allI] at hG; exact hG _ _⟩
    · rename_i s o
      exact ⟨.av (.ptr (A s) o), _, says_av (by simp) (by simp only [conc]) fun _ => rfl, h, fun G hG => by simp only [Sh.allI] at hG; exact hG _ _⟩
    · exact ⟨_, _, says_av (by simp) (by simp only [conc]) fun _ => rfl, h, fun G hG => by simp only [Sh.allI] at hG; exact hG _ _⟩
    · exact h.elim
  | .pto, R, f, v, c, h => by
    simp only [Sh.ap] at h
    split at h
    · rename_i n b o
      exact ⟨.pto n b o, _, ⟨by simp, fun A' => by simp only [conc], fun A' es => rfl, fun n => by simp only [SV.ok]⟩, h, fun G hG => by simp only [Sh.allI] at hG; exact hG _ _ _⟩
    · rename_i s o
      exact ⟨.pto false (A s) o, _, ⟨by simp, fun A' => by simp [conc], fun A' es => rfl, fun n => by simp only [SV.ok]⟩, h, fun G hG => by simp only [Sh.allI] at hG; exact hG _ _ _⟩
    · exact ⟨.pto true 0 0, _, ⟨by simp, fun A' => by simp [conc], fun A' es => rfl, fun n => by simp only [SV.ok]⟩, h, fun G hG => by simp only [Sh.allI] at hG; exact hG _ _ _⟩
    · rename_i b o
      exact ⟨.pto false b o, _, ⟨by simp, fun A' => by simp [conc], fun A' es => rfl, fun n => by simp only [SV.ok]⟩, h, fun G hG => by simp only [Sh.allI] at hG; exact hG _ _ _⟩
    · exact h.elim
  | .err, R, f, v, c, h => by
    simp only [Sh.ap] at h
    split at h
    · rename_i n t w
      exact ⟨.err n t w, _, ⟨by simp, fun A' => by simp only [conc], fun A' es => rfl, fun n => by simp only [SV.ok]⟩, h, fun G hG => by simp only [Sh.allI] at hG; exact hG _ _ _⟩
    · exact ⟨.err true 0 .undef, _, ⟨by simp, fun A' => by simp [conc], fun A' es => rfl, fun n => by simp only [SV.ok]⟩, h, fun G hG => by simp only [Sh.allI] at hG; exact hG _ _ _⟩
    · rename_i t w
      exact ⟨.err false t (conc A w), _, ⟨by simp, fun A' => by simp [conc], fun A' es => rfl, fun n => by simp only [SV.ok]⟩, h, fun G hG => by simp only [Sh.allI] at hG; exact hG _ _ _⟩
    · rename_i t w
      exact ⟨.err false t w, _, ⟨by simp, fun A' => by simp [conc], fun A' es => rfl, fun n => by simp only [SV.ok]⟩, h, fun G hG => by simp only [Sh.allI] at hG; exact hG _ _ _⟩
    · exact h.elim
  | .mapv, R, f, v, c, h => by
    simp only [Sh.ap] at h
    split at h
    · rename_i s
      exact ⟨.av (.map (A s)), _, says_av (by simp) (by simp only [conc]) fun _ => rfl, h, fun G hG => by simp only [Sh.allI] at hG; exact hG _⟩
    · exact ⟨_, _, says_av (by simp) (by simp only [conc]) fun _ => rfl, h, fun G hG => by simp only [Sh.allI] at hG; exact hG _⟩
    · exact h.elim
  | .cells, R, f, v, c, h => by
    simp only [Sh.ap] at h
    split at h
    · rename_i l
      exact ⟨.av (.agg (concs A l)), _, says_av (by simp) (by simp only [conc]) fun _ => rfl, h, fun G hG => by simp only [Sh.allI] at hG; exact hG _⟩
    · exact ⟨_, _, says_av (by simp) (by simp only [conc]) fun _ => rfl, h, fun G hG => by simp only [Sh.allI] at hG; exact hG _⟩
    · exact h.elim
  | .iter, R, f, v, c, h => by
    simp only [Sh.ap] at h
    split at h
    · rename_i s p
      exact ⟨.ob (.iter s p), _, ⟨by simp, fun A' => by simp only [conc], fun A' es => rfl, fun n => by simp only [SV.ok]⟩, h, fun G hG => by simp only [Sh.allI] at hG; exact hG _ _⟩
    · exact h.elim
  | .mapo, R, f, v, c, h => by
    simp only [Sh.ap] at h
    split at h
    · rename_i es
      exact ⟨.ob (.map es), _, ⟨by simp, fun A' => by simp only [conc], fun A' es => rfl, fun n => by simp only [SV.ok]⟩, h, fun G hG => by simp only [Sh.allI] at hG; exact hG _⟩
    · exact h.elim
  | .heap, R, f, v, c, h => by
    simp only [Sh.ap] at h
    split at h
    · rename_i g
      exact ⟨.hp g, _, ⟨by simp, fun A' => by simp only [conc], fun A' es => rfl, fun n => by simp only [SV.ok]⟩, h, fun G hG => by simp only [Sh.allI] at hG; exact hG _⟩
    · exact h.elim
  | .agg l, R, f, v, c, h => by
    simp only [Sh.ap] at h
    split at h
    · rename_i vs
      obtain ⟨vs', r, hs, hr, h3⟩ := aps_spec l f vs c h
      have h1 := hs.concs
      have h2 := hs.oks
      exact ⟨.agg vs', r, ⟨by simp, fun A' => by simp only [conc, h1], fun A' es => by simp only [objO, h1], fun n => by simp only [SV.ok]; exact h2 n⟩, hr, fun G hG => by simp only [Sh.allI] at hG; exact h3 _ hG⟩
    · rename_i vs
      obtain ⟨vs', r, hs, hr, h3⟩ := aps_spec l f (vs.map .av) c h
      have h1 := hs.concs
      have h2 := hs.oks
      exact ⟨.agg vs', r, ⟨by simp, fun A' => by simp only [conc, h1, concs_av], fun A' es => by simp only [objO, h1, concs_av], fun n => by simp only [SV.ok]; exact h2 n⟩, hr, fun G hG => by simp only [Sh.allI] at hG; exact h3 _ hG⟩
    · exact h.elim
  | .tup l, R, f, v, c, h => by
    simp only [Sh.ap] at h
    split at h
    · rename_i vs
      obtain ⟨vs', r, hs, hr, h3⟩ := aps_spec l f vs c h
      have h1 := hs.concs
      have h2 := hs.oks
      exact ⟨.tup vs', r, ⟨by simp, fun A' => by simp only [conc, h1], fun A' es => by simp only [objO], fun n => by simp only [SV.ok]; exact h2 n⟩, hr, fun G hG => by simp only [Sh.allI] at hG; exact h3 _ hG⟩
    · rename_i vs
      obtain ⟨vs', r, hs, hr, h3⟩ := aps_spec l f (vs.map .av) c h
      have h1 := hs.concs
      have h2 := hs.oks
      exact ⟨.tup vs', r, ⟨by simp, fun A' => by simp only [conc, h1, concs_av], fun A' es => by simp only [objO], fun n => by simp only [SV.ok]; exact h2 n⟩, hr, fun G hG => by simp only [Sh.allI] at hG; exact h3 _ hG⟩
    · exact h.elim
theorem aps_spec {A : Nat → Nat} : ∀ (l : List Sh) {R : Type} (f : Ars l R) (vs : List SV) (c : R → Prop), aps A l f vs c → ∃ vs' r, SaysL A vs vs' ∧ c r ∧ ∀ G : List SV → R → Prop, allsI l f G → G vs' r
  | [], R, f, vs, c, h => by
    simp only [aps] at h
    split at h
    · exact ⟨[], _, by simp only [SaysL], h, fun G hG => by simp only [allsI] at hG; exact hG⟩
    · exact h.elim
  | s :: l, R, f, vs, c, h => by
    simp only [aps] at h
    split at h
    · rename_i v vs
      obtain ⟨v', g, a1, a5, a6⟩ := ap_spec s f v _ h
      obtain ⟨vs', r, b1, b3, b4⟩ := aps_spec l g vs c a5
      exact ⟨v' :: vs', r, by simp only [SaysL]; exact ⟨a1, b1⟩, b3, fun G hG => by simp only [allsI] at hG; exact b4 _ (a6 _ hG)⟩
    · exact h.elim
end

/-! ### Patterns -/
/-- The first segments stay where they are; those that are listed are of shapes; so are some places; what comes behind is one segment. -/
structure Pat where
  top : Nat
  objs : List (Nat × Sh × Nat)
  tmps : List (Nat × Sh)

def fits (H : List Seg) : List (Nat × Sh × Nat) → Bool
  | [] => true
  | q :: l => (match H[q.1]? with
    | some s => segFit s q.2.2
    | none => false) && fits H l
def segAt (H : List Seg) (i : Nat) : SV :=
  match H[i]? with
  | some s => segVal s
  | none => .bad

def Pat.W (p : Pat) : List Nat := p.objs.map (·.1)
def Pat.shs (p : Pat) : List Sh := p.tmps.map (·.2) ++ p.objs.map (·.2.1)
def Pat.vals (p : Pat) (t : List SV) (H : List Seg) : List SV := p.tmps.map (fun q => t.getD q.1 .bad) ++ p.objs.map (fun q => segAt H q.1)

def setBad (t : List SV) : List Nat → List SV
  | [] => t
  | i :: l => setBad (t.set i .bad) l
def setVals (t : List SV) : List (Nat × Sh) → List SV → List SV
  | q :: l, v :: vs => setVals (t.set q.1 v) l vs
  | _, _ => t
def setSegs (H : List Seg) : List (Nat × Sh × Nat) → List SV → List Seg
  | q :: l, v :: vs => setSegs (H.set q.1 (valSeg v q.2.2)) l vs
  | _, _ => H

def Pat.inst (p : Pat) (dead : List Nat) (t : List SV) (H : List Seg) (vs : List SV) : List SV := setVals (setBad (t.map (dem (addr H) p.top)) dead) p.tmps vs
def Pat.head (p : Pat) (H : List Seg) (vs : List SV) (tail : Heap) : List Seg := setSegs ((H.take p.top).map (Seg.dem (addr H) p.top)) p.objs (vs.drop p.tmps.length) ++ [.sym tail]
/-- The state is one of the pattern's, of which I holds. -/
def entS (p : Pat) (t : List SV) (H : List Seg) (I : Ars p.shs (Heap → Prop)) : Prop :=
  if fits H p.objs then aps (addr H) p.shs I (p.vals t H) (fun r => r (flat (addr H) (H.drop p.top))) else False
/-- The pattern may be used here. -/
def Pat.okAt (p : Pat) (z : Nat) (W : List Nat) (H : List Seg) : Bool :=
  Nat.ble z p.top && Nat.ble p.top H.length && fits H p.objs && p.objs.all fun q => Nat.blt q.1 p.top && wr z W q.1

/-- What is told on the way. -/
inductive Hint where
  | nil
  | op (h : OH) (r : Hint)
  | op2 (r1 r2 : Hint)
  | split (h : OH) (r1 r2 : Hint)
  | condL (r : Hint)
  | condS (r1 r2 : Hint)
  | perm (σ τ : List Nat) (r : Hint)
  | loop (p : Pat) (r : Hint)
  | join (p : Pat) (ra rb : Hint)

def asgOps : List MOper → List Nat
  | [] => []
  | o :: l => match o.dst with
    | some d => d :: (match o.guard with
      | some (g, _) => g :: asgOps l
      | none => asgOps l)
    | none => match o.guard with
      | some (g, _) => g :: asgOps l
      | none => asgOps l
def asg : MCode → List Nat
  | .region l => asgOps l
  | .draw l _ => asgOps l
  | .seq a b => asg a ++ asg b
  | .cond _ a b => asg a ++ asg b
  | .block _ c => asg c
  | .loop c => asg c
  | _ => []

def blkX (id : Nat) : MX → MX
  | .exit k => cond (Nat.beq k id) .normal (.exit k)
  | x => x

/-- Where the code ends as usual; where it does not. -/
def onX : MX → Prop → (MX → Prop) → Prop
  | .normal, a, _ => a
  | x, _, f => f x

/-- In a region whose order is left open an operation that only adds to the heap keeps all that is there. -/
def zz (dr : Bool) (o : MOp) (z : Nat) (H : List Seg) : Nat := cond (dr && o.grow) H.length z
def ww (dr : Bool) (o : MOp) (W : List Nat) : List Nat := cond (dr && o.grow) [] W

section
variable (M : Model)

def wpOps (dr : Bool) (z : Nat) (W : List Nat) : List MOper → Hint → List SV → List Seg → (List SV → List Seg → Hint → Prop) → Prop
  | [], r, t, H, K => K t H r
  | o :: l, r, t, H, K => match o.guard with
    | none => (match r with
      | .op h r => wpOp M (zz dr o.op z H) (ww dr o.op W) h o.op t H fun v t1 H1 => wpOps dr z W l r (putS t1 o.dst v) H1 K
      | .op2 r1 r2 => (match o.op with
        | .nextStr x => wpNext z W x t H (fun v t1 H1 => wpOps dr z W l r1 (putS t1 o.dst v) H1 K) (fun v t1 H1 => wpOps dr z W l r2 (putS t1 o.dst v) H1 K)
        | _ => False)
      | _ => False)
    | some (g, w) => (match t.getD g .bad with
      | .av (.bool b) => (match r with
        | .op h r => (match b == w with
          | true => wpOp M (zz dr o.op z H) (ww dr o.op W) h o.op t H fun v t1 H1 => wpOps dr z W l r (putS t1 o.dst v) H1 K
          | false => wpOps dr z W l r (putS t o.dst (.av .undef)) H K)
        | .split h r1 r2 => (b = w → wpOp M (zz dr o.op z H) (ww dr o.op W) h o.op (t.set g (.av (.bool w))) H fun v t1 H1 => wpOps dr z W l r1 (putS t1 o.dst v) H1 K) ∧
          (b = !w → wpOps dr z W l r2 (putS (t.set g (.av (.bool !w))) o.dst (.av .undef)) H K)
        | _ => False)
      | .av .undef => (match r with
        | .op h r => wpOps dr z W l r (putS t o.dst (.av .undef)) H K
        | _ => False)
      | _ => False)

def wpC (z : Nat) (W : List Nat) : MCode → Hint → List SV → List Seg → (MX → List SV → List Seg → Hint → Prop) → Prop
  | .skip, r, t, H, K => K .normal t H r
  | .region l, r, t, H, K => wpOps M false z W l r t H fun t1 H1 r1 => K .normal t1 H1 r1
  | .draw l pre, r, t, H, K => if drawOK l pre then wpOps M false z W l r t H fun t1 H1 r1 => K .normal t1 H1 r1
    else (match r with
      | .perm σ τ r => if permOK l pre σ τ && drawEff (permL l σ) (permE pre σ τ) then wpOps M true z W (permL l σ) r t H fun t1 H1 r1 => K .normal t1 H1 r1 else False
      | r => if drawEff l pre then wpOps M true z W l r t H fun t1 H1 r1 => K .normal t1 H1 r1 else False)
  | .seq a b, r, t, H, K => (match r with
    | .join p ra rb => if p.okAt z W H then ∃ J : Ars p.shs (Heap → Prop),
        wpC p.top p.W a ra t H (fun x t1 H1 r1 => onX x (entS p t1 H1 J) fun x => K x t1 H1 r1) ∧
        allsI p.shs J fun vs r => ∀ tail, r tail → wpC z W b rb (p.inst (asg a) t H vs) (p.head H vs tail) K
      else False
    | r => wpC z W a r t H fun x t1 H1 r1 => onX x (wpC z W b r1 t1 H1 K) fun x => K x t1 H1 r1)
  | .cond c a b, r, t, H, K => (match c.ev t with
    | .av (.bool v) => (match r with
      | .condL r => (match v with
        | true => wpC z W a r t H K
        | false => wpC z W b r t H K)
      | .condS r1 r2 => (v = true → wpC z W a r1 t H K) ∧ (v = false → wpC z W b r2 t H K)
      | _ => False)
    | _ => False)
  | .block id c, r, t, H, K => wpC z W c r t H fun x t1 H1 r1 => K (blkX id x) t1 H1 r1
  | .loop c, r, t, H, K => (match r with
    | .loop p rb => if p.okAt z W H then ∃ I : Nat → Ars p.shs (Heap → Prop),
        (∃ n, entS p t H (I n)) ∧
        ∀ n, allsI p.shs (I n) fun vs r => ∀ tail, r tail → wpC p.top p.W c rb (p.inst (asg c) t H vs) (p.head H vs tail) fun x t1 H1 r1 => onX x (∃ n', n' < n ∧ entS p t1 H1 (I n')) fun x => K x t1 H1 r1
      else False
    | _ => False)
  | .exit id, r, t, H, K => K (.exit id) t H r
  | .ret, r, t, H, K => K .ret t H r
end

/-! ### It is enough -/
def KeepT (S : List Nat) (a b : Tmps) : Prop := ∀ i, i ∉ S → b.getD i .undef = a.getD i .undef
theorem KeepT.refl (S : List Nat) (a : Tmps) : KeepT S a a := fun _ _ => rfl
theorem KeepT.trans {S S1 S2 : List Nat} {a b c : Tmps} (h : KeepT S1 a b) (k : KeepT S2 b c) (h1 : ∀ i ∈ S1, i ∈ S) (h2 : ∀ i ∈ S2, i ∈ S) : KeepT S a c :=
  fun i hi => by rw [k i fun h => hi (h2 i h), h i fun h => hi (h1 i h)]

theorem wanted_spec {t : List SV} {H : List Seg} {t' : Tmps} {h : Heap} (hv : Val t H t' h) {g : Nat} {w b : Bool} (hg : t.getD g .bad = .av (.bool b)) : wantedM t' (some (g, w)) = (b == w) := by
  have := hv.ev (.tmp g)
  simp only [MO.ev, MO.eval, hg] at this
  obtain ⟨_, e⟩ := this.ok (by simp)
  simp only [conc] at e
  simp only [wantedM, e]

theorem Val.setB {t : List SV} {H : List Seg} {t' : Tmps} {h : Heap} (hv : Val t H t' h) {g : Nat} {b c : Bool} (hg : t.getD g .bad = .av (.bool b)) (hc : b = c) : Val (t.set g (.av (.bool c))) H t' h := by
  subst hc
  have : t.set g (.av (.bool b)) = t := by
    refine List.ext_getElem? fun i => ?_
    rw [List.getElem?_set]
    by_cases hi : g = i
    · subst hi
      rw [if_pos rfl]
      rw [List.getD_eq_getElem?_getD] at hg
      cases hx : t[g]? with
      | none => rw [hx] at hg; simp at hg
      | some v =>
        rw [hx] at hg
        simp at hg
        rw [if_pos (List.getElem?_eq_some_iff.1 hx).1, hg]
    · rw [if_neg hi]
  rw [this]
  exact hv

theorem keepT_put {S : List Nat} {a : Tmps} {d : Option Nat} {v : AV} (h : ∀ x, d = some x → x ∈ S) : KeepT S a (Abs.put a d v) := by
  intro i hi
  rw [getD_put, if_neg]
  exact fun hh => hi (h i hh.1)

theorem zz_le {dr : Bool} {o : MOp} {z : Nat} {H : List Seg} (hz : z ≤ H.length) : z ≤ zz dr o z H ∧ zz dr o z H ≤ H.length := by
  unfold zz
  cases dr && o.grow <;> simp [hz]
theorem ww_sub {dr : Bool} {o : MOp} {W : List Nat} : ∀ s, s ∈ ww dr o W → s ∈ W := by
  intro s hs
  unfold ww at hs
  cases h : dr && o.grow <;> rw [h] at hs <;> simp at hs
  exact hs

theorem wpOps_sound {M : Model} {dr : Bool} {z : Nat} {W : List Nat} {K : List SV → List Seg → Hint → Prop} : ∀ {l : List MOper} {r : Hint} {t : List SV} {H : List Seg} {t' : Tmps} {h : Heap} {Q : Tmps → Heap → Prop}, Val t H t' h → z ≤ H.length → wpOps M dr z W l r t H K →
    (∀ t1 H1 r1 t1' h1, Val t1 H1 t1' h1 → t1'.length = t'.length → KeepH z W H h H1 h1 → KeepT (asgOps l) t' t1' → K t1 H1 r1 → Q t1' h1) → Runs M (.ops l t' Q) h
  | [], r, t, H, t', h, Q, hv, hz, hw, hK => .nil (hK _ _ _ _ _ hv rfl (KeepH.refl hz) (KeepT.refl _ _) (by simpa only [wpOps] using hw))
  | o :: l, r, t, H, t', h, Q, hv, hz, hw, hK => by
    have hd : ∀ x, o.dst = some x → x ∈ asgOps (o :: l) := by
      intro x hx
      simp only [asgOps, hx, List.mem_cons, true_or]
    have hsub : ∀ i ∈ asgOps l, i ∈ asgOps (o :: l) := by
      intro i hi
      simp only [asgOps]
      cases o.dst <;> cases o.guard <;> simp [hi]
    have on : wantedM t' o.guard = true → (Runs M (.op o.op t' fun a h1 => ∃ v t1 H1 r1, Val t1 H1 t' h1 ∧ VV H1 v a ∧ KeepH z W H h H1 h1 ∧ wpOps M dr z W l r1 (putS t1 o.dst v) H1 K) h) → Runs M (.ops (o :: l) t' Q) h := by
      intro hwant hw
      refine .cons _ hwant hw ?_
      rintro a h1 ⟨v, t1, H1, r1, a1, a2, a3, a4⟩
      exact wpOps_sound (a1.put o.dst a2) a3.1 a4 fun t2 H2 r2 t2' h2 b1 b5 b2 b3 b4 => hK _ _ _ _ _ b1 (by rw [b5, length_put]) (a3.trans b2) ((keepT_put hd).trans b3 (fun _ h => h) hsub) b4
    have off : ∀ {t0 : List SV} {r1 : Hint} (hv0 : Val t0 H t' h), wantedM t' o.guard = false → wpOps M dr z W l r1 (putS t0 o.dst (.av .undef)) H K → Runs M (.ops (o :: l) t' Q) h := by
      intro t0 r1 hv0 hwant hw
      exact .off hwant (wpOps_sound (hv0.put o.dst (av_ok _)) hz hw fun t2 H2 r2 t2' h2 b1 b5 b2 b3 b4 => hK _ _ _ _ _ b1 (by rw [b5, length_put]) b2 ((keepT_put hd).trans b3 (fun _ h => h) hsub) b4)
    simp only [wpOps] at hw
    split at hw
    · rename_i hg
      split at hw
      · rename_i hi r0
        exact on (by rw [hg]; rfl) (wpOp_sound hv (zz_le hz).2 hw fun v t1 H1 a h1 a1 a2 a3 a4 => ⟨v, t1, H1, _, a1, a2, a3.weaken (zz_le hz).1 (fun s _ h => ww_sub s h), a4⟩)
      · rename_i r1 r2
        split at hw
        · rename_i x hop
          refine on (by rw [hg]; rfl) ?_
          rw [hop]
          exact op_nextStr hv hz hw (fun v t1 H1 a h1 a1 a2 a3 a4 => ⟨v, t1, H1, _, a1, a2, a3, a4⟩) (fun v t1 H1 a h1 a1 a2 a3 a4 => ⟨v, t1, H1, _, a1, a2, a3, a4⟩)
        · exact hw.elim
      · exact hw.elim
    · rename_i g w hg
      split at hw
      · rename_i b hb
        have hwant := wanted_spec hv (w := w) hb
        rw [← hg] at hwant
        split at hw
        · split at hw
          · rename_i hbw
            exact on (by rw [hwant, hbw]) (wpOp_sound hv (zz_le hz).2 hw fun v t1 H1 a h1 a1 a2 a3 a4 => ⟨v, t1, H1, _, a1, a2, a3.weaken (zz_le hz).1 (fun s _ h => ww_sub s h), a4⟩)
          · rename_i hbw
            exact off hv (by rw [hwant, hbw]) hw
        · by_cases hbw : b = w
          · exact on (by rw [hwant, hbw]; simp) (wpOp_sound (hv.setB hb hbw) (zz_le hz).2 (hw.1 hbw) fun v t1 H1 a h1 a1 a2 a3 a4 => ⟨v, t1, H1, _, a1, a2, a3.weaken (zz_le hz).1 (fun s _ h => ww_sub s h), a4⟩)
          · have hbw' : b = !w := by cases b <;> cases w <;> simp_all
            exact off (hv.setB hb hbw') (by rw [hwant, hbw']; cases w <;> rfl) (hw.2 hbw')
        · exact hw.elim
      · rename_i hb
        have hwant : wantedM t' (some (g, w)) = false := by
          have := hv.ev (.tmp g)
          simp only [MO.ev, MO.eval, hb] at this
          obtain ⟨_, e⟩ := this.ok (by simp)
          simp only [conc] at e
          simp only [wantedM, e]
        rw [← hg] at hwant
        split at hw
        · exact off hv hwant hw
        · exact hw.elim
      · exact hw.elim
/-- The segment that a place lies in. -/
theorem addr_find {H : List Seg} {k : Nat} : ∀ {n : Nat}, k < addr H n → ∃ s, s < n ∧ addr H s ≤ k ∧ k < addr H (s + 1)
  | 0, h => by rw [addr_zero] at h; omega
  | n + 1, h => by
    rcases Nat.lt_or_ge k (addr H n) with h1 | h1
    · obtain ⟨s, h2, h3, h4⟩ := addr_find h1
      exact ⟨s, by omega, h3, h4⟩
    · exact ⟨n, by omega, h1, h⟩

theorem keep_ext {H H1 : List Seg} {h h1 : Heap} (hv : HV H h) (k : KeepH H.length [] H h H1 h1) : Ext h h1 := by
  have hl : h.length = addr H H.length := by rw [hv.1, flat_length]
  refine ⟨h1.drop h.length, ?_⟩
  refine List.ext_getElem? fun i => ?_
  rcases Nat.lt_or_ge i h.length with hi | hi
  · rw [List.getElem?_append_left hi]
    have hi' : i < addr H H.length := by omega
    obtain ⟨s, s1, s2, s3⟩ := addr_find hi'
    exact k.2.2 s s1 (by simp) i s2 s3
  · rw [List.getElem?_append_right hi, List.getElem?_drop]
    congr 1
    omega

theorem wpOps_srun {M : Model} {z : Nat} {W : List Nat} {K : List SV → List Seg → Hint → Prop} : ∀ {l : List MOper} {r : Hint} {t : List SV} {H : List Seg} {t' : Tmps} {h : Heap} {Q : Tmps → Heap → Prop}, Val t H t' h → z ≤ H.length → wpOps M true z W l r t H K →
    (∀ t1 H1 r1 t1' h1, Val t1 H1 t1' h1 → t1'.length = t'.length → KeepH z W H h H1 h1 → KeepT (asgOps l) t' t1' → K t1 H1 r1 → Q t1' h1) → SRun M l t' h Q
  | [], r, t, H, t', h, Q, hv, hz, hw, hK => .nil (hK _ _ _ _ _ hv rfl (KeepH.refl hz) (KeepT.refl _ _) (by simpa only [wpOps] using hw))
  | o :: l, r, t, H, t', h, Q, hv, hz, hw, hK => by
    have hd : ∀ x, o.dst = some x → x ∈ asgOps (o :: l) := by
      intro x hx
      simp only [asgOps, hx, List.mem_cons, true_or]
    have hsub : ∀ i ∈ asgOps l, i ∈ asgOps (o :: l) := by
      intro i hi
      simp only [asgOps]
      cases o.dst <;> cases o.guard <;> simp [hi]
    have on : wantedM t' o.guard = true → (Runs M (.op o.op t' fun a h1 => ∃ v t1 H1 r1, Val t1 H1 t' h1 ∧ VV H1 v a ∧ KeepH z W H h H1 h1 ∧ (o.op.grow = true → Ext h h1) ∧ wpOps M true z W l r1 (putS t1 o.dst v) H1 K) h) → SRun M (o :: l) t' h Q := by
      intro hwant hw
      refine .cons _ hwant hw (fun a h1 ⟨v, t1, H1, r1, a1, a2, a3, a9, a4⟩ => a9) ?_
      rintro a h1 ⟨v, t1, H1, r1, a1, a2, a3, a9, a4⟩
      exact wpOps_srun (a1.put o.dst a2) a3.1 a4 fun t2 H2 r2 t2' h2 b1 b5 b2 b3 b4 => hK _ _ _ _ _ b1 (by rw [b5, length_put]) (a3.trans b2) ((keepT_put hd).trans b3 (fun _ h => h) hsub) b4
    have off : ∀ {t0 : List SV} {r1 : Hint} (hv0 : Val t0 H t' h), wantedM t' o.guard = false → wpOps M true z W l r1 (putS t0 o.dst (.av .undef)) H K → SRun M (o :: l) t' h Q := by
      intro t0 r1 hv0 hwant hw
      exact .off hwant (wpOps_srun (hv0.put o.dst (av_ok _)) hz hw fun t2 H2 r2 t2' h2 b1 b5 b2 b3 b4 => hK _ _ _ _ _ b1 (by rw [b5, length_put]) b2 ((keepT_put hd).trans b3 (fun _ h => h) hsub) b4)
    simp only [wpOps] at hw
    split at hw
    · rename_i hg
      split at hw
      · rename_i hi r0
        exact on (by rw [hg]; rfl) (wpOp_sound hv (zz_le hz).2 hw fun v t1 H1 a h1 a1 a2 a3 a4 => ⟨v, t1, H1, _, a1, a2, a3.weaken (zz_le hz).1 (fun s _ h => ww_sub s h), fun hg => keep_ext hv.heap (by simpa [zz, ww, hg] using a3), a4⟩)
      · rename_i r1 r2
        split at hw
        · rename_i x hop
          refine on (by rw [hg]; rfl) ?_
          rw [hop]
          exact op_nextStr hv hz hw (fun v t1 H1 a h1 a1 a2 a3 a4 => ⟨v, t1, H1, _, a1, a2, a3, fun hg => by simp [MOp.grow] at hg, a4⟩) (fun v t1 H1 a h1 a1 a2 a3 a4 => ⟨v, t1, H1, _, a1, a2, a3, fun hg => by simp [MOp.grow] at hg, a4⟩)
        · exact hw.elim
      · exact hw.elim
    · rename_i g w hg
      split at hw
      · rename_i b hb
        have hwant := wanted_spec hv (w := w) hb
        rw [← hg] at hwant
        split at hw
        · split at hw
          · rename_i hbw
            exact on (by rw [hwant, hbw]) (wpOp_sound hv (zz_le hz).2 hw fun v t1 H1 a h1 a1 a2 a3 a4 => ⟨v, t1, H1, _, a1, a2, a3.weaken (zz_le hz).1 (fun s _ h => ww_sub s h), fun hg => keep_ext hv.heap (by simpa [zz, ww, hg] using a3), a4⟩)
          · rename_i hbw
            exact off hv (by rw [hwant, hbw]) hw
        · by_cases hbw : b = w
          · exact on (by rw [hwant, hbw]; simp) (wpOp_sound (hv.setB hb hbw) (zz_le hz).2 (hw.1 hbw) fun v t1 H1 a h1 a1 a2 a3 a4 => ⟨v, t1, H1, _, a1, a2, a3.weaken (zz_le hz).1 (fun s _ h => ww_sub s h), fun hg => keep_ext hv.heap (by simpa [zz, ww, hg] using a3), a4⟩)
          · have hbw' : b = !w := by cases b <;> cases w <;> simp_all
            exact off (hv.setB hb hbw') (by rw [hwant, hbw']; cases w <;> rfl) (hw.2 hbw')
        · exact hw.elim
      · rename_i hb
        have hwant : wantedM t' (some (g, w)) = false := by
          have := hv.ev (.tmp g)
          simp only [MO.ev, MO.eval, hb] at this
          obtain ⟨_, e⟩ := this.ok (by simp)
          simp only [conc] at e
          simp only [wantedM, e]
        rw [← hg] at hwant
        split at hw
        · exact off hv hwant hw
        · exact hw.elim
      · exact hw.elim
end Go.Abs
