import Derived.Test.YtcjhjphmlfkikaaDoorAbsG3
set_option linter.unusedVariables false
set_option linter.unusedSimpArgs false
namespace Go.Abs

mutual
/-- A function of what a shape leaves open. -/
def Sh.Ar : Sh → Type → Type
  | .int _, R => Int → R
  | .bool, R => Bool → R
  | .str, R => List UInt8 → R
  | .slc, R => Slc → R
  | .raw, R => AV → R
  | .ptr, R => Nat → Nat → R
  | .pto, R => Bool → Nat → Nat → R
  | .err, R => Bool → Nat → AV → R
  | .mapv, R => Nat → R
  | .cells, R => List AV → R
  | .iter, R => List UInt8 → Nat → R
  | .mapo, R => List (AV × AV) → R
  | .heap, R => Heap → R
  | .agg l, R => Ars l R
  | .tup l, R => Ars l R
def Ars : List Sh → Type → Type
  | [], R => R
  | s :: l, R => Sh.Ar s (Ars l R)
end
mutual
def Sh.ap (A : Nat → Nat) : (s : Sh) → {R : Type} → s.Ar R → SV → (R → Prop) → Prop
  | .int k, R, f, v, c => match v with
    | .av (.int k' x) => if k = k' then c ((show Int → R from f) x) else False
    | _ => False
  | .bool, R, f, v, c => match v with
    | .av (.bool x) => c ((show Bool → R from f) x)
    | _ => False
  | .str, R, f, v, c => match v with
    | .av (.str x) => c ((show List UInt8 → R from f) x)
    | _ => False
  | .slc, R, f, v, c => match v with
    | .slc s => c ((show Slc → R from f) s)
    | .sln s o n => c ((show Slc → R from f) ⟨A s, o, n, false⟩)
    | .av .nilslice => c ((show Slc → R from f) ⟨0, 0, 0, true⟩)
    | .av (.slice b o n) => c ((show Slc → R from f) ⟨b, o, n, false⟩)
    | _ => False
  | .raw, R, f, v, c => match v with
    | .bad => False
    | .ob _ => False
    | .hp _ => False
    | v => c ((show AV → R from f) (conc A v))
  | .ptr, R, f, v, c => match v with
    | .new s o => c ((show Nat → Nat → R from f) (A s) o)
    | .nix s o => c ((show Nat → Nat → R from f) (A s) o)
    | .av (.ptr b o) => c ((show Nat → Nat → R from f) b o)
    | _ => False
  | .pto, R, f, v, c => match v with
    | .pto n b o => c ((show Bool → Nat → Nat → R from f) n b o)
    | .new s o => c ((show Bool → Nat → Nat → R from f) false (A s) o)
    | .av .nilptr => c ((show Bool → Nat → Nat → R from f) true 0 0)
    | .av (.ptr b o) => c ((show Bool → Nat → Nat → R from f) false b o)
    | _ => False
  | .err, R, f, v, c => match v with
    | .err n t w => c ((show Bool → Nat → AV → R from f) n t w)
    | .av .niliface => c ((show Bool → Nat → AV → R from f) true 0 .undef)
    | .ifc t w => c ((show Bool → Nat → AV → R from f) false t (conc A w))
    | .av (.iface t w) => c ((show Bool → Nat → AV → R from f) false t w)
    | _ => False
  | .mapv, R, f, v, c => match v with
    | .mpn s => c ((show Nat → R from f) (A s))
    | .av (.map r) => c ((show Nat → R from f) r)
    | _ => False
  | .cells, R, f, v, c => match v with
    | .agg l => c ((show List AV → R from f) (concs A l))
    | .av (.agg l) => c ((show List AV → R from f) l)
    | _ => False
  | .iter, R, f, v, c => match v with
    | .ob (.iter s p) => c ((show List UInt8 → Nat → R from f) s p)
    | _ => False
  | .mapo, R, f, v, c => match v with
    | .ob (.map es) => c ((show List (AV × AV) → R from f) es)
    | _ => False
  | .heap, R, f, v, c => match v with
    | .hp g => c ((show Heap → R from f) g)
    | _ => False
  | .agg l, R, f, v, c => match v with
    | .agg vs => aps A l (show Ars l R from f) vs c
    | .av (.agg vs) => aps A l (show Ars l R from f) (vs.map .av) c
    | _ => False
  | .tup l, R, f, v, c => match v with
    | .tup vs => aps A l (show Ars l R from f) vs c
    | .av (.tuple vs) => aps A l (show Ars l R from f) (vs.map .av) c
    | _ => False
def aps (A : Nat → Nat) : (l : List Sh) → {R : Type} → Ars l R → List SV → (R → Prop) → Prop
  | [], R, f, vs, c => match vs with
    | [] => c (show R from f)
    | _ => False
  | s :: l, R, f, vs, c => match vs with
    | v :: vs => Sh.ap A s (show Sh.Ar s (Ars l R) from f) v fun g => aps A l g vs c
    | [] => False
end
mutual
def Sh.allI : (s : Sh) → {R : Type} → s.Ar R → (SV → R → Prop) → Prop
  | .int k, R, f, G => ∀ x : Int, G (.av (.int k x)) ((show Int → R from f) x)
  | .bool, R, f, G => ∀ x : Bool, G (.av (.bool x)) ((show Bool → R from f) x)
  | .str, R, f, G => ∀ x : List UInt8, G (.av (.str x)) ((show List UInt8 → R from f) x)
  | .slc, R, f, G => ∀ x : Slc, G (.slc x) ((show Slc → R from f) x)
  | .raw, R, f, G => ∀ x : AV, G (.av x) ((show AV → R from f) x)
  | .ptr, R, f, G => ∀ b o : Nat, G (.av (.ptr b o)) ((show Nat → Nat → R from f) b o)
  | .pto, R, f, G => ∀ (n : Bool) (b o : Nat), G (.pto n b o) ((show Bool → Nat → Nat → R from f) n b o)
  | .err, R, f, G => ∀ (n : Bool) (t : Nat) (v : AV), G (.err n t v) ((show Bool → Nat → AV → R from f) n t v)
  | .mapv, R, f, G => ∀ r : Nat, G (.av (.map r)) ((show Nat → R from f) r)
  | .cells, R, f, G => ∀ c : List AV, G (.av (.agg c)) ((show List AV → R from f) c)
  | .iter, R, f, G => ∀ (s : List UInt8) (p : Nat), G (.ob (.iter s p)) ((show List UInt8 → Nat → R from f) s p)
  | .mapo, R, f, G => ∀ es : List (AV × AV), G (.ob (.map es)) ((show List (AV × AV) → R from f) es)
  | .heap, R, f, G => ∀ g : Heap, G (.hp g) ((show Heap → R from f) g)
  | .agg l, R, f, G => allsI l (show Ars l R from f) fun vs r => G (.agg vs) r
  | .tup l, R, f, G => allsI l (show Ars l R from f) fun vs r => G (.tup vs) r
def allsI : (l : List Sh) → {R : Type} → Ars l R → (List SV → R → Prop) → Prop
  | [], R, f, G => G [] (show R from f)
  | s :: l, R, f, G => Sh.allI s (show Sh.Ar s (Ars l R) from f) fun v g => allsI l g fun vs r => G (v :: vs) r
end
def segVal : Seg → SV
  | .con c _ => .agg c
  | .row c _ => .av (.agg c)
  | .obj o => .ob o
  | .sym g => .hp g
def segFit : Seg → Nat → Bool
  | .con _ es, e => Nat.beq es e
  | .row _ es, e => Nat.beq es e
  | .obj _, _ => true
  | .sym _, _ => true
def valSeg : SV → Nat → Seg
  | .agg c, es => .con c es
  | .av (.agg c), es => .row c es
  | .ob o, _ => .obj o
  | .hp g, _ => .sym g
  | _, _ => .obj .dead
def objO (A : Nat → Nat) (es : Nat) : SV → Heap
  | .agg c => [.arr (concs A c) es false]
  | .av (.agg c) => [.arr c es false]
  | .ob o => [o]
  | .hp g => g
  | _ => [.dead]

theorem valSeg_spec (v : SV) (es : Nat) : (∀ A, (valSeg v es).heap A = objO A es v) ∧ ∀ n, v.ok n → (valSeg v es).ok n := by
  unfold valSeg objO
  split <;> simp [Seg.len, Seg.heap, Seg.ok, SV.ok]
theorem segVal_spec {s : Seg} {es : Nat} (h : segFit s es = true) : ∀ A, s.heap A = objO A es (segVal s) := by
  cases s <;> simp only [segFit, Bool.false_eq_true] at h <;> (try have h := Nat.eq_of_beq_eq_true h) <;> simp [Seg.len, Seg.heap, segVal, objO, *]

def Says' (A : Nat → Nat) (v v' : SV) : Prop := v ≠ .bad ∧ (∀ A', conc A' v' = conc A v) ∧ (∀ A' es, objO A' es v' = objO A es v) ∧ ∀ n, v'.ok n

def SaysL (A : Nat → Nat) : List SV → List SV → Prop
  | [], [] => True
  | v :: vs, v' :: vs' => Says' A v v' ∧ SaysL A vs vs'
  | _, _ => False

theorem SaysL.concs {A : Nat → Nat} : ∀ {vs vs' : List SV}, SaysL A vs vs' → ∀ A', concs A' vs' = concs A vs
  | [], [], _, A' => by simp only [Abs.concs]
  | v :: vs, v' :: vs', h, A' => by simp only [SaysL] at h; simp only [Abs.concs, h.1.2.1, SaysL.concs h.2 A']
  | [], _ :: _, h, _ => by simp only [SaysL] at h
  | _ :: _, [], h, _ => by simp only [SaysL] at h
theorem SaysL.oks {A : Nat → Nat} : ∀ {vs vs' : List SV}, SaysL A vs vs' → ∀ n, oks n vs'
  | [], [], _, n => by simp only [Abs.oks]
  | v :: vs, v' :: vs', h, n => by simp only [SaysL] at h; simp only [Abs.oks]; exact ⟨h.1.2.2.2 n, SaysL.oks h.2 n⟩
  | [], _ :: _, h, _ => by simp only [SaysL] at h
  | _ :: _, [], h, _ => by simp only [SaysL] at h
theorem SaysL.length {A : Nat → Nat} : ∀ {vs vs' : List SV}, SaysL A vs vs' → vs'.length = vs.length
  | [], [], _ => rfl
  | v :: vs, v' :: vs', h => by simp only [SaysL] at h; simp [SaysL.length h.2]
  | [], _ :: _, h => by simp only [SaysL] at h
  | _ :: _, [], h => by simp only [SaysL] at h
theorem SaysL.get {A : Nat → Nat} : ∀ {vs vs' : List SV}, SaysL A vs vs' → ∀ {i : Nat} {v v' : SV}, vs[i]? = some v → vs'[i]? = some v' → Says' A v v'
  | [], [], _, i, v, v', h1, _ => by simp at h1
  | v :: vs, v' :: vs', h, 0, u, u', h1, h2 => by
    simp only [SaysL] at h
    simp at h1 h2
    subst h1 h2
    exact h.1
  | v :: vs, v' :: vs', h, i + 1, u, u', h1, h2 => by
    simp only [SaysL] at h
    exact SaysL.get h.2 (by simpa using h1) (by simpa using h2)
  | [], _ :: _, h, _, _, _, _, _ => by simp only [SaysL] at h
  | _ :: _, [], h, _, _, _, _, _ => by simp only [SaysL] at h

theorem says_av {A : Nat → Nat} {v : SV} {a : AV} (h1 : v ≠ .bad) (h2 : conc A v = a) (h3 : ∀ es, objO A es v = objO A es (.av a)) : Says' A v (.av a) :=
  ⟨h1, fun A' => by simp only [conc, h2], fun A' es => by rw [h3]; cases a <;> rfl, fun n => by simp only [SV.ok]⟩

mutual
theorem ap_spec {A : Nat → Nat} : ∀ (s : Sh) {R : Type} (f : s.Ar R) (v : SV) (c : R → Prop), s.ap A f v c → ∃ v' r, Says' A v v' ∧ c r ∧ ∀ G : SV → R → Prop, s.allI f G → G v' r
  | .int k, R, f, v, c, h => by
    simp only [Sh.ap] at h
    split at h
    · split at h
      · rename_i k' x hk
        subst hk
        exact ⟨_, _, says_av (by simp) (by simp only [conc]) fun _ => rfl, h, fun G hG => by simp only [Sh.allI] at hG; exact hG x⟩
      · exact h.elim
    · exact h.elim
  | .bool, R, f, v, c, h => by
    simp only [Sh.ap] at h
    split at h
    · rename_i x
      exact ⟨_, _, says_av (by simp) (by simp only [conc]) fun _ => rfl, h, fun G hG => by simp only [Sh.allI] at hG; exact hG x⟩
    · exact h.elim
  | .str, R, f, v, c, h => by
    simp only [Sh.ap] at h
    split at h
    · rename_i x
      exact ⟨_, _, says_av (by simp) (by simp only [conc]) fun _ => rfl, h, fun G hG => by simp only [Sh.allI] at hG; exact hG x⟩
    · exact h.elim
  | .slc, R, f, v, c, h => by
    simp only [Sh.ap] at h
    split at h
    · rename_i s
      exact ⟨.slc s, _, ⟨by simp, fun A' => by simp only [conc], fun A' es => rfl, fun n => by simp only [SV.ok]⟩, h, fun G hG => by simp only [Sh.allI] at hG; exact hG s⟩
    · rename_i s o n
      exact ⟨.slc ⟨A s, o, n, false⟩, _, ⟨by simp, fun A' => by simp [conc, Slc.av], fun A' es => rfl, fun n => by simp only [SV.ok]⟩, h, fun G hG => by simp only [Sh.allI] at hG; exact hG _⟩
    · exact ⟨.slc ⟨0, 0, 0, true⟩, _, ⟨by simp, fun A' => by simp [conc, Slc.av], fun A' es => rfl, fun n => by simp only [SV.ok]⟩, h, fun G hG => by simp only [Sh.allI] at hG; exact hG _⟩
    · rename_i b o n
      exact ⟨.slc ⟨b, o, n, false⟩, _, ⟨by simp, fun A' => by simp [conc, Slc.av], fun A' es => rfl, fun n => by simp only [SV.ok]⟩, h, fun G hG => by simp only [Sh.allI] at hG; exact hG _⟩
    · exact h.elim
  | .raw, R, f, v, c, h => by
    simp only [Sh.ap] at h
    split at h
    · exact h.elim
    · exact h.elim
    · exact h.elim
    · rename_i hb ho hp
      refine ⟨.av (conc A v), _, says_av (fun e => hb e) rfl fun es => ?_, h, fun G hG => by simp only [Sh.allI] at hG; exact hG _⟩
      cases v <;> simp only [conc, objO] <;> first
        | rfl
        | (rename_i s; cases hs : s.nil <;> simp [Slc.av, hs, objO]; done)
        | (rename_i n _ _; cases n <;> simp [objO]; done)
        | (exact absurd rfl (ho _))
        | (exact absurd rfl (hp _))
  | .ptr, R, f, v, c, h => by
    simp only [Sh.ap] at h
    split at h
    · rename_i s o
      exact ⟨.av (.ptr (A s) o), _, says_av (by simp) (by simp only [conc]) fun _ => rfl, h, fun G hG => by simp only [Sh.allI] at hG; exact hG _ _⟩
    · rename_i s o
      exact ⟨.av (.ptr (A s) o), _, says_av (by simp) (by simp only [conc]) fun _ => rfl, h, fun G hG => by simp only [Sh.allI] at hG; exact hG _ _⟩
    · exact ⟨_, _, says_av (by simp) (by simp only [conc]) fun _ => rfl, h, fun G hG => by simp only [Sh.allI] at hG; exact hG _ _⟩
    · exact h.elim
  | .pto, R, f, v, c, h => by
    simp only [Sh.ap] at h
    split at h
    · rename_i n b o
      exact ⟨.pto n b o, _, ⟨by simp, fun A' => by simp only [conc], fun A' es => rfl, fun n => by simp only [SV.ok]⟩, h, fun G hG => by simp only [Sh.allI] at hG; exact hG _ _ _⟩
    · rename_i s o
      exact ⟨.pto false (A s) o, _, ⟨by simp, fun A' => by simp [conc], fun A' es => rfl, fun n => by simp only [SV.ok]⟩, h, fun G hG => by simp only [Sh.allI] at hG; exact hG _ _ _⟩
    · exact ⟨.pto true 0 0, _, ⟨by simp, fun A' => by simp [conc], fun A' es => rfl, fun n => by simp only [SV.ok]⟩, h, fun G hG => by simp only [Sh.allI] at hG; exact hG _ _ _⟩
    · rename_i b o
      exact ⟨.pto false b o, _, ⟨by simp, fun A' => by simp [conc], fun A' es => rfl, fun n => by simp only [SV.ok]⟩, h, fun G hG => by simp only [Sh.allI] at hG; exact hG _ _ _⟩
    · exact h.elim
  | .err, R, f, v, c, h => by
    simp only [Sh.ap] at h
    split at h
    · rename_i n t w
      exact ⟨.err n t w, _, ⟨by simp, fun A' => by simp only [conc], fun A' es => rfl, fun n => by simp only [SV.ok]⟩, h, fun G hG => by simp only [Sh.allI] at hG; exact hG _ _ _⟩
    · exact ⟨.err true 0 .undef, _, ⟨by simp, fun A' => by simp [conc], fun A' es => rfl, fun n => by simp only [SV.ok]⟩, h, fun G hG => by simp only [Sh.allI] at hG; exact hG _ _ _⟩
    · rename_i t w
      exact ⟨.err false t (conc A w), _, ⟨by simp, fun A' => by simp [conc], fun A' es => rfl, fun n => by simp only [SV.ok]⟩, h, fun G hG => by simp only [Sh.allI] at hG; exact hG _ _ _⟩
    · rename_i t w
      exact ⟨.err false t w, _, ⟨by simp, fun A' => by simp [conc], fun A' es => rfl, fun n => by simp only [SV.ok]⟩, h, fun G hG => by simp only [Sh.allI] at hG; exact hG _ _ _⟩
    · exact h.elim
  | .mapv, R, f, v, c, h => by
    simp only [Sh.ap] at h
    split at h
    · rename_i s
      exact ⟨.av (.map (A s)), _, says_av (by simp) (by simp only [conc]) fun _ => rfl, h, fun G hG => by simp only [Sh.allI] at hG; exact hG _⟩
    · exact ⟨_, _, says_av (by simp) (by simp only [conc]) fun _ => rfl, h, fun G hG => by simp only [Sh.allI] at hG; exact hG _⟩
    · exact h.elim
  | .cells, R, f, v, c, h => by
    simp only [Sh.ap] at h
    split at h
    · rename_i l
      exact ⟨.av (.agg (concs A l)), _, says_av (by simp) (by simp only [conc]) fun _ => rfl, h, fun G hG => by simp only [Sh.allI] at hG; exact hG _⟩
    · exact ⟨_, _, says_av (by simp) (by simp only [conc]) fun _ => rfl, h, fun G hG => by simp only [Sh.allI] at hG; exact hG _⟩
    · exact h.elim
  | .iter, R, f, v, c, h => by
    simp only [Sh.ap] at h
    split at h
    · rename_i s p
      exact ⟨.ob (.iter s p), _, ⟨by simp, fun A' => by simp only [conc], fun A' es => rfl, fun n => by simp only [SV.ok]⟩, h, fun G hG => by simp only [Sh.allI] at hG; exact hG _ _⟩
    · exact h.elim
  | .mapo, R, f, v, c, h => by
    simp only [Sh.ap] at h
    split at h
    · rename_i es
      exact ⟨.ob (.map es), _, ⟨by simp, fun A' => by simp only [conc], fun A' es => rfl, fun n => by simp only [SV.ok]⟩, h, fun G hG => by simp only [Sh.allI] at hG; exact hG _⟩
    · exact h.elim
  | .heap, R, f, v, c, h => by
    simp only [Sh.ap] at h
    split at h
    · rename_i g
      exact ⟨.hp g, _, ⟨by simp, fun A' => by simp only [conc], fun A' es => rfl, fun n => by simp only [SV.ok]⟩, h, fun G hG => by simp only [Sh.allI] at hG; exact hG _⟩
    · exact h.elim
  | .agg l, R, f, v, c, h => by
    simp only [Sh.ap] at h
    split at h
    · rename_i vs
      obtain ⟨vs', r, hs, hr, h3⟩ := aps_spec l f vs c h
      have h1 := hs.concs
      have h2 := hs.oks
      exact ⟨.agg vs', r, ⟨by simp, fun A' => by simp only [conc, h1], fun A' es => by simp only [objO, h1], fun n => by simp only [SV.ok]; exact h2 n⟩, hr, fun G hG => by simp only [Sh.allI] at hG; exact h3 _ hG⟩
    · rename_i vs
      obtain ⟨vs', r, hs, hr, h3⟩ := aps_spec l f (vs.map .av) c h
      have h1 := hs.concs
      have h2 := hs.oks
      exact ⟨.agg vs', r, ⟨by simp, fun A' => by simp only [conc, h1, concs_av], fun A' es => by simp only [objO, h1, concs_av], fun n => by simp only [SV.ok]; exact h2 n⟩, hr, fun G hG => by simp only [Sh.allI] at hG; exact h3 _ hG⟩
    · exact h.elim
  | .tup l, R, f, v, c, h => by
    simp only [Sh.ap] at h
    split at h
    · rename_i vs
      obtain ⟨vs', r, hs, hr, h3⟩ := aps_spec l f vs c h
      have h1 := hs.concs
      have h2 := hs.oks
      exact ⟨.tup vs', r, ⟨by simp, fun A' => by simp only [conc, h1], fun A' es => by simp only [objO], fun n => by simp only [SV.ok]; exact h2 n⟩, hr, fun G hG => by simp only [Sh.allI] at hG; exact h3 _ hG⟩
    · rename_i vs
      obtain ⟨vs', r, hs, hr, h3⟩ := aps_spec l f (vs.map .av) c h
      have h1 := hs.concs
      have h2 := hs.oks
      exact ⟨.tup vs', r, ⟨by simp, fun A' => by simp only [conc, h1, concs_av], fun A' es => by simp only [objO], fun n => by simp only [SV.ok]; exact h2 n⟩, hr, fun G hG => by simp only [Sh.allI] at hG; exact h3 _ hG⟩
    · exact h.elim
theorem aps_spec {A : Nat → Nat} : ∀ (l : List Sh) {R : Type} (f : Ars l R) (vs : List SV) (c : R → Prop), aps A l f vs c → ∃ vs' r, SaysL A vs vs' ∧ c r ∧ ∀ G : List SV → R → Prop, allsI l f G → G vs' r
  | [], R, f, vs, c, h => by
    simp only [aps] at h
    split at h
    · exact ⟨[], _, by simp only [SaysL], h, fun G hG => by simp only [allsI] at hG; exact hG⟩
    · exact h.elim
  | s :: l, R, f, vs, c, h => by
    simp only [aps] at h
    split at h
    · rename_i v vs
      obtain ⟨v', g, a1, a5, a6⟩ := ap_spec s f v _ h
      obtain ⟨vs', r, b1, b3, b4⟩ := aps_spec l g vs c a5
      exact ⟨v' :: vs', r, by simp only [SaysL]; exact ⟨a1, b1⟩, b3, fun G hG => by simp only [allsI] at hG; exact b4 _ (a6 _ hG)⟩
    · exact h.elim
end
structure Pat where
  top : Nat
  objs : List (Nat × Sh × Nat)
  tmps : List (Nat × Sh)

def fits (H : List Seg) : List (Nat × Sh × Nat) → Bool
  | [] => true
  | q :: l => (match H[q.1]? with
    | some s => segFit s q.2.2
    | none => false) && fits H l
def segAt (H : List Seg) (i : Nat) : SV :=
  match H[i]? with
  | some s => segVal s
  | none => .bad

def Pat.W (p : Pat) : List Nat := p.objs.map (·.1)
def Pat.shs (p : Pat) : List Sh := p.tmps.map (·.2) ++ p.objs.map (·.2.1)
def Pat.vals (p : Pat) (t : List SV) (H : List Seg) : List SV := p.tmps.map (fun q => t.getD q.1 .bad) ++ p.objs.map (fun q => segAt H q.1)

def setBad (t : List SV) : List Nat → List SV
  | [] => t
  | i :: l => setBad (t.set i .bad) l
def setVals (t : List SV) : List (Nat × Sh) → List SV → List SV
  | q :: l, v :: vs => setVals (t.set q.1 v) l vs
  | _, _ => t
def setSegs (H : List Seg) : List (Nat × Sh × Nat) → List SV → List Seg
  | q :: l, v :: vs => setSegs (H.set q.1 (valSeg v q.2.2)) l vs
  | _, _ => H

def Pat.inst (p : Pat) (dead : List Nat) (t : List SV) (H : List Seg) (vs : List SV) : List SV := setVals (setBad (t.map (dem (addr H) p.top)) dead) p.tmps vs
def Pat.head (p : Pat) (H : List Seg) (vs : List SV) (tail : Heap) : List Seg := setSegs ((H.take p.top).map (Seg.dem (addr H) p.top)) p.objs (vs.drop p.tmps.length) ++ [.sym tail]
def entS (p : Pat) (t : List SV) (H : List Seg) (I : Ars p.shs (Heap → Prop)) : Prop :=
  if fits H p.objs then aps (addr H) p.shs I (p.vals t H) (fun r => r (flat (addr H) (H.drop p.top))) else False
def Pat.okAt (p : Pat) (z : Nat) (W : List Nat) (H : List Seg) : Bool :=
  Nat.ble z p.top && Nat.ble p.top H.length && fits H p.objs && p.objs.all fun q => Nat.blt q.1 p.top && wr z W q.1

inductive Hint where
  | nil
  | op (h : OH) (r : Hint)
  | op2 (r1 r2 : Hint)
  | split (h : OH) (r1 r2 : Hint)
  | condL (r : Hint)
  | condS (r1 r2 : Hint)
  | perm (σ τ : List Nat) (r : Hint)
  | loop (p : Pat) (r : Hint)
  | join (p : Pat) (ra rb : Hint)

def asgOps : List MOper → List Nat
  | [] => []
  | o :: l => match o.dst with
    | some d => d :: (match o.guard with
      | some (g, _) => g :: asgOps l
      | none => asgOps l)
    | none => match o.guard with
      | some (g, _) => g :: asgOps l
      | none => asgOps l
def asg : MCode → List Nat
  | .region l => asgOps l
  | .draw l _ => asgOps l
  | .seq a b => asg a ++ asg b
  | .cond _ a b => asg a ++ asg b
  | .block _ c => asg c
  | .loop c => asg c
  | _ => []

def blkX (id : Nat) : MX → MX
  | .exit k => cond (Nat.beq k id) .normal (.exit k)
  | x => x

def onX : MX → Prop → (MX → Prop) → Prop
  | .normal, a, _ => a
  | x, _, f => f x

def zz (dr : Bool) (o : MOp) (z : Nat) (H : List Seg) : Nat := cond (dr && o.grow) H.length z
def ww (dr : Bool) (o : MOp) (W : List Nat) : List Nat := cond (dr && o.grow) [] W

section
variable (M : Model)

def wpOps (dr : Bool) (z : Nat) (W : List Nat) : List MOper → Hint → List SV → List Seg → (List SV → List Seg → Hint → Prop) → Prop
  | [], r, t, H, K => K t H r
  | o :: l, r, t, H, K => match o.guard with
    | none => (match r with
      | .op h r => wpOp M (zz dr o.op z H) (ww dr o.op W) h o.op t H fun v t1 H1 => wpOps dr z W l r (putS t1 o.dst v) H1 K
      | .op2 r1 r2 => (match o.op with
        | .nextStr x => wpNext z W x t H (fun v t1 H1 => wpOps dr z W l r1 (putS t1 o.dst v) H1 K) (fun v t1 H1 => wpOps dr z W l r2 (putS t1 o.dst v) H1 K)
        | _ => False)
      | _ => False)
    | some (g, w) => (match t.getD g .bad with
      | .av (.bool b) => (match r with
        | .op h r => (match b == w with
          | true => wpOp M (zz dr o.op z H) (ww dr o.op W) h o.op t H fun v t1 H1 => wpOps dr z W l r (putS t1 o.dst v) H1 K
          | false => wpOps dr z W l r (putS t o.dst (.av .undef)) H K)
        | .split h r1 r2 => (b = w → wpOp M (zz dr o.op z H) (ww dr o.op W) h o.op (t.set g (.av (.bool w))) H fun v t1 H1 => wpOps dr z W l r1 (putS t1 o.dst v) H1 K) ∧
          (b = !w → wpOps dr z W l r2 (putS (t.set g (.av (.bool !w))) o.dst (.av .undef)) H K)
        | _ => False)
      | .av .undef => (match r with
        | .op h r => wpOps dr z W l r (putS t o.dst (.av .undef)) H K
        | _ => False)
      | _ => False)

def wpC (z : Nat) (W : List Nat) : MCode → Hint → List SV → List Seg → (MX → List SV → List Seg → Hint → Prop) → Prop
  | .skip, r, t, H, K => K .normal t H r
  | .region l, r, t, H, K => wpOps M false z W l r t H fun t1 H1 r1 => K .normal t1 H1 r1
  | .draw l pre, r, t, H, K => if drawOK l pre then wpOps M false z W l r t H fun t1 H1 r1 => K .normal t1 H1 r1
    else (match r with
      | .perm σ τ r => if permOK l pre σ τ && drawEff (permL l σ) (permE pre σ τ) then wpOps M true z W (permL l σ) r t H fun t1 H1 r1 => K .normal t1 H1 r1 else False
      | r => if drawEff l pre then wpOps M true z W l r t H fun t1 H1 r1 => K .normal t1 H1 r1 else False)
  | .seq a b, r, t, H, K => (match r with
    | .join p ra rb => if p.okAt z W H then ∃ J : Ars p.shs (Heap → Prop),
        wpC p.top p.W a ra t H (fun x t1 H1 r1 => onX x (entS p t1 H1 J) fun x => K x t1 H1 r1) ∧
        allsI p.shs J fun vs r => ∀ tail, r tail → wpC z W b rb (p.inst (asg a) t H vs) (p.head H vs tail) K
      else False
    | r => wpC z W a r t H fun x t1 H1 r1 => onX x (wpC z W b r1 t1 H1 K) fun x => K x t1 H1 r1)
  | .cond c a b, r, t, H, K => (match c.ev t with
    | .av (.bool v) => (match r with
      | .condL r => (match v with
        | true => wpC z W a r t H K
        | false => wpC z W b r t H K)
      | .condS r1 r2 => (v = true → wpC z W a r1 t H K) ∧ (v = false → wpC z W b r2 t H K)
      | _ => False)
    | _ => False)
  | .block id c, r, t, H, K => wpC z W c r t H fun x t1 H1 r1 => K (blkX id x) t1 H1 r1
  | .loop c, r, t, H, K => (match r with
    | .loop p rb => if p.okAt z W H then ∃ I : Nat → Ars p.shs (Heap → Prop),
        (∃ n, entS p t H (I n)) ∧
        ∀ n, allsI p.shs (I n) fun vs r => ∀ tail, r tail → wpC p.top p.W c rb (p.inst (asg c) t H vs) (p.head H vs tail) fun x t1 H1 r1 => onX x (∃ n', n' < n ∧ entS p t1 H1 (I n')) fun x => K x t1 H1 r1
      else False
    | _ => False)
  | .exit id, r, t, H, K => K (.exit id) t H r
  | .ret, r, t, H, K => K .ret t H r
end

def KeepT (S : List Nat) (a b : Tmps) : Prop := ∀ i, i ∉ S → b.getD i .undef = a.getD i .undef
theorem KeepT.refl (S : List Nat) (a : Tmps) : KeepT S a a := fun _ _ => rfl
theorem KeepT.trans {S S1 S2 : List Nat} {a b c : Tmps} (h : KeepT S1 a b) (k : KeepT S2 b c) (h1 : ∀ i ∈ S1, i ∈ S) (h2 : ∀ i ∈ S2, i ∈ S) : KeepT S a c :=
  fun i hi => by rw [k i fun h => hi (h2 i h), h i fun h => hi (h1 i h)]

theorem wanted_spec {t : List SV} {H : List Seg} {t' : Tmps} {h : Heap} (hv : Val t H t' h) {g : Nat} {w b : Bool} (hg : t.getD g .bad = .av (.bool b)) : wantedM t' (some (g, w)) = (b == w) := by
  have := hv.ev (.tmp g)
  simp only [MO.ev, MO.eval, hg] at this
  obtain ⟨_, e⟩ := this.ok (by simp)
  simp only [conc] at e
  simp only [wantedM, e]

theorem Val.setB {t : List SV} {H : List Seg} {t' : Tmps} {h : Heap} (hv : Val t H t' h) {g : Nat} {b c : Bool} (hg : t.getD g .bad = .av (.bool b)) (hc : b = c) : Val (t.set g (.av (.bool c))) H t' h := by
  subst hc
  have : t.set g (.av (.bool b)) = t := by
    refine List.ext_getElem? fun i => ?_
    rw [List.getElem?_set]
    by_cases hi : g = i
    · subst hi
      rw [if_pos rfl]
      rw [List.getD_eq_getElem?_getD] at hg
      cases hx : t[g]? with
      | none => rw [hx] at hg; simp at hg
      | some v =>
        rw [hx] at hg
        simp at hg
        rw [if_pos (List.getElem?_eq_some_iff.1 hx).1, hg]
    · rw [if_neg hi]
  rw [this]
  exact hv

theorem keepT_put {S : List Nat} {a : Tmps} {d : Option Nat} {v : AV} (h : ∀ x, d = some x → x ∈ S) : KeepT S a (Abs.put a d v) := by
  intro i hi
  rw [getD_put, if_neg]
  exact fun hh => hi (h i hh.1)

theorem zz_le {dr : Bool} {o : MOp} {z : Nat} {H : List Seg} (hz : z ≤ H.length) : z ≤ zz dr o z H ∧ zz dr o z H ≤ H.length := by
  unfold zz
  cases dr && o.grow <;> simp [hz]
theorem ww_sub {dr : Bool} {o : MOp} {W : List Nat} : ∀ s, s ∈ ww dr o W → s ∈ W := by
  intro s hs
  unfold ww at hs
  cases h : dr && o.grow <;> rw [h] at hs <;> simp at hs
  exact hs

theorem wpOps_sound {M : Model} {dr : Bool} {z : Nat} {W : List Nat} {K : List SV → List Seg → Hint → Prop} : ∀ {l : List MOper} {r : Hint} {t : List SV} {H : List Seg} {t' : Tmps} {h : Heap} {Q : Tmps → Heap → Prop}, Val t H t' h → z ≤ H.length → wpOps M dr z W l r t H K →
    (∀ t1 H1 r1 t1' h1, Val t1 H1 t1' h1 → t1'.length = t'.length → KeepH z W H h H1 h1 → KeepT (asgOps l) t' t1' → K t1 H1 r1 → Q t1' h1) → Runs M (.ops l t' Q) h
  | [], r, t, H, t', h, Q, hv, hz, hw, hK => .nil (hK _ _ _ _ _ hv rfl (KeepH.refl hz) (KeepT.refl _ _) (by simpa only [wpOps] using hw))
  | o :: l, r, t, H, t', h, Q, hv, hz, hw, hK => by
    have hd : ∀ x, o.dst = some x → x ∈ asgOps (o :: l) := by
      intro x hx
      simp only [asgOps, hx, List.mem_cons, true_or]
    have hsub : ∀ i ∈ asgOps l, i ∈ asgOps (o :: l) := by
      intro i hi
      simp only [asgOps]
      cases o.dst <;> cases o.guard <;> simp [hi]
    have on : wantedM t' o.guard = true → (Runs M (.op o.op t' fun a h1 => ∃ v t1 H1 r1, Val t1 H1 t' h1 ∧ VV H1 v a ∧ KeepH z W H h H1 h1 ∧ wpOps M dr z W l r1 (putS t1 o.dst v) H1 K) h) → Runs M (.ops (o :: l) t' Q) h := by
      intro hwant hw
      refine .cons _ hwant hw ?_
      rintro a h1 ⟨v, t1, H1, r1, a1, a2, a3, a4⟩
      exact wpOps_sound (a1.put o.dst a2) a3.1 a4 fun t2 H2 r2 t2' h2 b1 b5 b2 b3 b4 => hK _ _ _ _ _ b1 (by rw [b5, length_put]) (a3.trans b2) ((keepT_put hd).trans b3 (fun _ h => h) hsub) b4
    have off : ∀ {t0 : List SV} {r1 : Hint} (hv0 : Val t0 H t' h), wantedM t' o.guard = false → wpOps M dr z W l r1 (putS t0 o.dst (.av .undef)) H K → Runs M (.ops (o :: l) t' Q) h := by
      intro t0 r1 hv0 hwant hw
      exact .off hwant (wpOps_sound (hv0.put o.dst (av_ok _)) hz hw fun t2 H2 r2 t2' h2 b1 b5 b2 b3 b4 => hK _ _ _ _ _ b1 (by rw [b5, length_put]) b2 ((keepT_put hd).trans b3 (fun _ h => h) hsub) b4)
    simp only [wpOps] at hw
    split at hw
    · rename_i hg
      split at hw
      · rename_i hi r0
        exact on (by rw [hg]; rfl) (wpOp_sound hv (zz_le hz).2 hw fun v t1 H1 a h1 a1 a2 a3 a4 => ⟨v, t1, H1, _, a1, a2, a3.weaken (zz_le hz).1 (fun s _ h => ww_sub s h), a4⟩)
      · rename_i r1 r2
        split at hw
        · rename_i x hop
          refine on (by rw [hg]; rfl) ?_
          rw [hop]
          exact op_nextStr hv hz hw (fun v t1 H1 a h1 a1 a2 a3 a4 => ⟨v, t1, H1, _, a1, a2, a3, a4⟩) (fun v t1 H1 a h1 a1 a2 a3 a4 => ⟨v, t1, H1, _, a1, a2, a3, a4⟩)
        · exact hw.elim
      · exact hw.elim
    · rename_i g w hg
      split at hw
      · rename_i b hb
        have hwant := wanted_spec hv (w := w) hb
        rw [← hg] at hwant
        split at hw
        · split at hw
          · rename_i hbw
            exact on (by rw [hwant, hbw]) (wpOp_sound hv (zz_le hz).2 hw fun v t1 H1 a h1 a1 a2 a3 a4 => ⟨v, t1, H1, _, a1, a2, a3.weaken (zz_le hz).1 (fun s _ h => ww_sub s h), a4⟩)
          · rename_i hbw
            exact off hv (by rw [hwant, hbw]) hw
        · by_cases hbw : b = w
          · exact on (by rw [hwant, hbw]; simp) (wpOp_sound (hv.setB hb hbw) (zz_le hz).2 (hw.1 hbw) fun v t1 H1 a h1 a1 a2 a3 a4 => ⟨v, t1, H1, _, a1, a2, a3.weaken (zz_le hz).1 (fun s _ h => ww_sub s h), a4⟩)
          · have hbw' : b = !w := by cases b <;> cases w <;> simp_all
            exact off (hv.setB hb hbw') (by rw [hwant, hbw']; cases w <;> rfl) (hw.2 hbw')
        · exact hw.elim
      · rename_i hb
        have hwant : wantedM t' (some (g, w)) = false := by
          have := hv.ev (.tmp g)
          simp only [MO.ev, MO.eval, hb] at this
          obtain ⟨_, e⟩ := this.ok (by simp)
          simp only [conc] at e
          simp only [wantedM, e]
        rw [← hg] at hwant
        split at hw
        · exact off hv hwant hw
        · exact hw.elim
      · exact hw.elim
theorem addr_find {H : List Seg} {k : Nat} : ∀ {n : Nat}, k < addr H n → ∃ s, s < n ∧ addr H s ≤ k ∧ k < addr H (s + 1)
  | 0, h => by rw [addr_zero] at h; omega
  | n + 1, h => by
    rcases Nat.lt_or_ge k (addr H n) with h1 | h1
    · obtain ⟨s, h2, h3, h4⟩ := addr_find h1
      exact ⟨s, by omega, h3, h4⟩
    · exact ⟨n, by omega, h1, h⟩

theorem keep_ext {H H1 : List Seg} {h h1 : Heap} (hv : HV H h) (k : KeepH H.length [] H h H1 h1) : Ext h h1 := by
  have hl : h.length = addr H H.length := by rw [hv.1, flat_length]
  refine ⟨h1.drop h.length, ?_⟩
  refine List.ext_getElem? fun i => ?_
  rcases Nat.lt_or_ge i h.length with hi | hi
  · rw [List.getElem?_append_left hi]
    have hi' : i < addr H H.length := by omega
    obtain ⟨s, s1, s2, s3⟩ := addr_find hi'
    exact k.2.2 s s1 (by simp) i s2 s3
  · rw [List.getElem?_append_right hi, List.getElem?_drop]
    congr 1
    omega

theorem wpOps_srun {M : Model} {z : Nat} {W : List Nat} {K : List SV → List Seg → Hint → Prop} : ∀ {l : List MOper} {r : Hint} {t : List SV} {H : List Seg} {t' : Tmps} {h : Heap} {Q : Tmps → Heap → Prop}, Val t H t' h → z ≤ H.length → wpOps M true z W l r t H K →
    (∀ t1 H1 r1 t1' h1, Val t1 H1 t1' h1 → t1'.length = t'.length → KeepH z W H h H1 h1 → KeepT (asgOps l) t' t1' → K t1 H1 r1 → Q t1' h1) → SRun M l t' h Q
  | [], r, t, H, t', h, Q, hv, hz, hw, hK => .nil (hK _ _ _ _ _ hv rfl (KeepH.refl hz) (KeepT.refl _ _) (by simpa only [wpOps] using hw))
  | o :: l, r, t, H, t', h, Q, hv, hz, hw, hK => by
    have hd : ∀ x, o.dst = some x → x ∈ asgOps (o :: l) := by
      intro x hx
      simp only [asgOps, hx, List.mem_cons, true_or]
    have hsub : ∀ i ∈ asgOps l, i ∈ asgOps (o :: l) := by
      intro i hi
      simp only [asgOps]
      cases o.dst <;> cases o.guard <;> simp [hi]
    have on : wantedM t' o.guard = true → (Runs M (.op o.op t' fun a h1 => ∃ v t1 H1 r1, Val t1 H1 t' h1 ∧ VV H1 v a ∧ KeepH z W H h H1 h1 ∧ (o.op.grow = true → Ext h h1) ∧ wpOps M true z W l r1 (putS t1 o.dst v) H1 K) h) → SRun M (o :: l) t' h Q := by
      intro hwant hw
      refine .cons _ hwant hw (fun a h1 ⟨v, t1, H1, r1, a1, a2, a3, a9, a4⟩ => a9) ?_
      rintro a h1 ⟨v, t1, H1, r1, a1, a2, a3, a9, a4⟩
      exact wpOps_srun (a1.put o.dst a2) a3.1 a4 fun t2 H2 r2 t2' h2 b1 b5 b2 b3 b4 => hK _ _ _ _ _ b1 (by rw [b5, length_put]) (a3.trans b2) ((keepT_put hd).trans b3 (fun _ h => h) hsub) b4
    have off : ∀ {t0 : List SV} {r1 : Hint} (hv0 : Val t0 H t' h), wantedM t' o.guard = false → wpOps M true z W l r1 (putS t0 o.dst (.av .undef)) H K → SRun M (o :: l) t' h Q := by
      intro t0 r1 hv0 hwant hw
      exact .off hwant (wpOps_srun (hv0.put o.dst (av_ok _)) hz hw fun t2 H2 r2 t2' h2 b1 b5 b2 b3 b4 => hK _ _ _ _ _ b1 (by rw [b5, length_put]) b2 ((keepT_put hd).trans b3 (fun _ h => h) hsub) b4)
    simp only [wpOps] at hw
    split at hw
    · rename_i hg
      split at hw
      · rename_i hi r0
        exact on (by rw [hg]; rfl) (wpOp_sound hv (zz_le hz).2 hw fun v t1 H1 a h1 a1 a2 a3 a4 => ⟨v, t1, H1, _, a1, a2, a3.weaken (zz_le hz).1 (fun s _ h => ww_sub s h), fun hg => keep_ext hv.heap (by simpa [zz, ww, hg] using a3), a4⟩)
      · rename_i r1 r2
        split at hw
        · rename_i x hop
          refine on (by rw [hg]; rfl) ?_
          rw [hop]
          exact op_nextStr hv hz hw (fun v t1 H1 a h1 a1 a2 a3 a4 => ⟨v, t1, H1, _, a1, a2, a3, fun hg => by simp [MOp.grow] at hg, a4⟩) (fun v t1 H1 a h1 a1 a2 a3 a4 => ⟨v, t1, H1, _, a1, a2, a3, fun hg => by simp [MOp.grow] at hg, a4⟩)
        · exact hw.elim
      · exact hw.elim
    · rename_i g w hg
      split at hw
      · rename_i b hb
        have hwant := wanted_spec hv (w := w) hb
        rw [← hg] at hwant
        split at hw
        · split at hw
          · rename_i hbw
            exact on (by rw [hwant, hbw]) (wpOp_sound hv (zz_le hz).2 hw fun v t1 H1 a h1 a1 a2 a3 a4 => ⟨v, t1, H1, _, a1, a2, a3.weaken (zz_le hz).1 (fun s _ h => ww_sub s h), fun hg => keep_ext hv.heap (by simpa [zz, ww, hg] using a3), a4⟩)
          · rename_i hbw
            exact off hv (by rw [hwant, hbw]) hw
        · by_cases hbw : b = w
          · exact on (by rw [hwant, hbw]; simp) (wpOp_sound (hv.setB hb hbw) (zz_le hz).2 (hw.1 hbw) fun v t1 H1 a h1 a1 a2 a3 a4 => ⟨v, t1, H1, _, a1, a2, a3.weaken (zz_le hz).1 (fun s _ h => ww_sub s h), fun hg => keep_ext hv.heap (by simpa [zz, ww, hg] using a3), a4⟩)
          · have hbw' : b = !w := by cases b <;> cases w <;> simp_all
            exact off (hv.setB hb hbw') (by rw [hwant, hbw']; cases w <;> rfl) (hw.2 hbw')
        · exact hw.elim
      · rename_i hb
        have hwant : wantedM t' (some (g, w)) = false := by
          have := hv.ev (.tmp g)
          simp only [MO.ev, MO.eval, hb] at this
          obtain ⟨_, e⟩ := this.ok (by simp)
          simp only [conc] at e
          simp only [wantedM, e]
        rw [← hg] at hwant
        split at hw
        · exact off hv hwant hw
        · exact hw.elim
      · exact hw.elim
end Go.Abs

set_option linter.unusedVariables false
set_option linter.unusedSimpArgs false
namespace Go.Abs

mutual
theorem dem_ok' {A : Nat → Nat} {J n : Nat} : ∀ (v : SV), v.ok n → (dem A J v).ok n
  | .av v, _ => by simp only [SV.ok, dem]
  | .new s o, k => by
    simp only [SV.ok] at k
    simp only [dem, blt_eq]
    by_cases hs : s < J <;> simp [hs, SV.ok, k]
  | .nix s o, k => by
    simp only [SV.ok] at k
    simp only [dem, blt_eq]
    by_cases hs : s < J <;> simp [hs, SV.ok, k]
  | .sln s o m, k => by
    simp only [SV.ok] at k
    simp only [dem, blt_eq]
    by_cases hs : s < J <;> simp [hs, SV.ok, k]
  | .slc s, _ => by simp only [SV.ok, dem]
  | .pto _ _ _, _ => by simp only [SV.ok, dem]
  | .err _ _ _, _ => by simp only [SV.ok, dem]
  | .agg l, k => by simp only [SV.ok] at k; simp only [SV.ok, dem]; exact dems_ok' l k
  | .tup l, k => by simp only [SV.ok] at k; simp only [SV.ok, dem]; exact dems_ok' l k
  | .fn f l, k => by simp only [SV.ok] at k; simp only [SV.ok, dem]; exact dems_ok' l k
  | .ifc t v, k => by simp only [SV.ok] at k; simp only [SV.ok, dem]; exact dem_ok' v k
  | .mpn s, k => by
    simp only [SV.ok] at k
    simp only [dem, blt_eq]
    by_cases hs : s < J <;> simp [hs, SV.ok, k]
  | .ob _, _ => by simp only [SV.ok, dem]
  | .hp _, _ => by simp only [SV.ok, dem]
  | .bad, k => by simp only [SV.ok] at k
theorem dems_ok' {A : Nat → Nat} {J n : Nat} : ∀ (l : List SV), oks n l → oks n (dems A J l)
  | [], _ => by simp only [oks, dems]
  | v :: l, k => by simp only [oks] at k; simp only [oks, dems]; exact ⟨dem_ok' v k.1, dems_ok' l k.2⟩
end
theorem dem_conc' {A A' : Nat → Nat} {J n : Nat} (h : ∀ s, s < J → s < n → A' s = A s) (v : SV) (hv : v.ok n) : conc A' (dem A J v) = conc A v := by
  have h1 := dem_conc (A := A) (A' := fun s => if s < n then A' s else A s) (J := J) (fun s hs => by
    by_cases hn : s < n
    · simp [hn, h s hs hn]
    · simp [hn]) v
  rw [← h1]
  exact (conc_congr (n := n) (fun s hs => by simp [hs]) _ (dem_ok' v hv)).symm
theorem dems_conc' {A A' : Nat → Nat} {J n : Nat} (h : ∀ s, s < J → s < n → A' s = A s) (l : List SV) (hl : oks n l) : concs A' (dems A J l) = concs A l := by
  rw [oks_iff] at hl
  rw [concs_map, concs_map, dems_map, List.map_map]
  exact List.map_congr_left fun v hv => dem_conc' h v (hl v hv)
theorem flat_dem' {A A' : Nat → Nat} {J n : Nat} (h : ∀ s, s < J → s < n → A' s = A s) : ∀ (H : List Seg), (∀ s ∈ H, s.ok n) → flat A' (H.map (Seg.dem A J)) = flat A H
  | [], _ => by simp [flat]
  | s :: r, k => by
    rw [List.map_cons, flat_cons, flat_cons, flat_dem' h r fun x hx => k x (List.mem_cons_of_mem _ hx)]
    congr 1
    have := k s List.mem_cons_self
    cases s <;> simp only [Seg.dem, Seg.heap]
    simp only [Seg.ok] at this
    rw [dems_conc' h _ this]

theorem setBad_get : ∀ {l : List Nat} {t : List SV} {i : Nat} {v : SV}, (setBad t l)[i]? = some v → v = .bad ∨ (i ∉ l ∧ t[i]? = some v)
  | [], t, i, v, h => .inr ⟨by simp, by simpa only [setBad] using h⟩
  | x :: l, t, i, v, h => by
    simp only [setBad] at h
    rcases setBad_get h with h1 | ⟨h1, h2⟩
    · exact .inl h1
    · rw [List.getElem?_set] at h2
      by_cases hx : x = i
      · rw [if_pos hx] at h2
        split at h2
        · cases h2; exact .inl rfl
        · cases h2
      · rw [if_neg hx] at h2
        exact .inr ⟨by simp [h1, Ne.symm hx], h2⟩
theorem setBad_length : ∀ (l : List Nat) (t : List SV), (setBad t l).length = t.length
  | [], t => by simp [setBad]
  | x :: l, t => by simp [setBad, setBad_length l]
theorem setVals_get : ∀ {l : List (Nat × Sh)} {vs t : List SV} {i : Nat} {v : SV}, (setVals t l vs)[i]? = some v → (∃ (k : Nat) (q : Nat × Sh), l[k]? = some q ∧ q.1 = i ∧ vs[k]? = some v) ∨ t[i]? = some v
  | [], vs, t, i, v, h => .inr (by simpa only [setVals] using h)
  | q :: l, [], t, i, v, h => .inr (by simpa only [setVals] using h)
  | q :: l, u :: vs, t, i, v, h => by
    simp only [setVals] at h
    rcases setVals_get h with ⟨k, q', h1, h2, h3⟩ | h1
    · exact .inl ⟨k + 1, q', by simpa using h1, h2, by simpa using h3⟩
    · rw [List.getElem?_set] at h1
      by_cases hx : q.1 = i
      · rw [if_pos hx] at h1
        split at h1
        · cases h1; exact .inl ⟨0, q, rfl, hx, rfl⟩
        · cases h1
      · rw [if_neg hx] at h1
        exact .inr h1
theorem setVals_length : ∀ (l : List (Nat × Sh)) (vs t : List SV), (setVals t l vs).length = t.length
  | [], vs, t => by simp [setVals]
  | q :: l, [], t => by simp [setVals]
  | q :: l, u :: vs, t => by simp [setVals, setVals_length l]

theorem setSegs_get : ∀ {l : List (Nat × Sh × Nat)} {ws : List SV} {H : List Seg} {i : Nat} {x : Seg}, ws.length = l.length → (setSegs H l ws)[i]? = some x →
    (∃ (k : Nat) (q : Nat × Sh × Nat) (w : SV), l[k]? = some q ∧ q.1 = i ∧ ws[k]? = some w ∧ x = valSeg w q.2.2) ∨ (i ∉ l.map (·.1) ∧ H[i]? = some x)
  | [], ws, H, i, x, hl, h => .inr ⟨by simp, by simpa only [setSegs] using h⟩
  | q :: l, [], H, i, x, hl, h => by simp at hl
  | q :: l, w :: ws, H, i, x, hl, h => by
    simp only [setSegs] at h
    rcases setSegs_get (by simpa using hl) h with ⟨k, q', w', h1, h2, h3, h4⟩ | ⟨h1, h2⟩
    · exact .inl ⟨k + 1, q', w', by simpa using h1, h2, by simpa using h3, h4⟩
    · rw [List.getElem?_set] at h2
      by_cases hx : q.1 = i
      · rw [if_pos hx] at h2
        split at h2
        · cases h2
          exact .inl ⟨0, q, w, rfl, hx, rfl, rfl⟩
        · cases h2
      · rw [if_neg hx] at h2
        refine .inr ⟨?_, h2⟩
        simp only [List.map_cons, List.mem_cons, not_or]
        exact ⟨fun e => hx e.symm, h1⟩
theorem setSegs_lens : ∀ {l : List (Nat × Sh × Nat)} {ws : List SV} {H : List Seg}, (∀ (k : Nat) (q : Nat × Sh × Nat) (w : SV) (n : Nat), l[k]? = some q → ws[k]? = some w → (H.map Seg.len)[q.1]? = some n → (valSeg w q.2.2).len = n) → (setSegs H l ws).map Seg.len = H.map Seg.len
  | [], ws, H, h => by simp [setSegs]
  | q :: l, [], H, h => by simp [setSegs]
  | q :: l, w :: ws, H, h => by
    simp only [setSegs]
    have e : (H.set q.1 (valSeg w q.2.2)).map Seg.len = H.map Seg.len := by
      cases hq : H[q.1]? with
      | none =>
        rw [List.set_eq_of_length_le]
        exact List.getElem?_eq_none_iff.1 hq
      | some x => exact set_lens hq (h 0 q w x.len rfl rfl (by simp [hq]))
    rw [setSegs_lens, e]
    intro k q' w' n h1 h2 h3
    rw [e] at h3
    exact h (k + 1) q' w' n (by simpa using h1) (by simpa using h2) h3

theorem fits_spec {H : List Seg} : ∀ {l : List (Nat × Sh × Nat)}, fits H l = true → ∀ q ∈ l, ∃ x, H[q.1]? = some x ∧ segFit x q.2.2 = true
  | [], _, q, hq => by simp at hq
  | q0 :: l, h, q, hq => by
    simp only [fits, Bool.and_eq_true] at h
    rcases List.mem_cons.1 hq with rfl | hq
    · cases hx : H[q.1]? with
      | none => rw [hx] at h; simp at h
      | some x => rw [hx] at h; exact ⟨x, rfl, h.1⟩
    · exact fits_spec h.2 q hq

theorem SaysL.split {A : Nat → Nat} : ∀ {a b vs : List SV}, SaysL A (a ++ b) vs → SaysL A a (vs.take a.length) ∧ SaysL A b (vs.drop a.length)
  | [], b, vs, h => by simpa [SaysL] using h
  | x :: a, b, [], h => by simp [SaysL] at h
  | x :: a, b, v :: vs, h => by
    simp only [List.cons_append, SaysL] at h
    obtain ⟨h1, h2⟩ := SaysL.split h.2
    simp only [List.length_cons, List.take_succ_cons, List.drop_succ_cons, SaysL]
    exact ⟨⟨h.1, h1⟩, h2⟩

theorem ent_val {p : Pat} {dead : List Nat} {t : List SV} {H : List Seg} {t' : Tmps} {h : Heap} (hv : Val t H t' h) (hj : p.top ≤ H.length) (ho : fits H p.objs = true)
    {t1 : List SV} {H1 : List Seg} {t1' : Tmps} {h1 : Heap} (hv1 : Val t1 H1 t1' h1) (hl : t1'.length = t'.length) (hk : KeepH p.top p.W H h H1 h1) (hkt : KeepT dead t' t1') {I : Ars p.shs (Heap → Prop)} (he : entS p t1 H1 I) :
    ∃ vs tail r, Val (p.inst dead t H vs) (p.head H vs tail) t1' h1 ∧ KeepH p.top p.W H h (p.head H vs tail) h1 ∧ r tail ∧ ∀ G : List SV → (Heap → Prop) → Prop, allsI p.shs I G → G vs r := by
  unfold entS at he
  split at he
  · rename_i hf
    obtain ⟨vs, r, hs, hr, hG⟩ := aps_spec p.shs I (p.vals t1 H1) _ he
    unfold Pat.vals at hs
    obtain ⟨hs1, hs2⟩ := SaysL.split hs
    simp only [List.length_map] at hs1 hs2
    refine ⟨vs, flat (addr H1) (H1.drop p.top), r, ?_, ?_, hr, hG⟩
    all_goals
      have hwl : (vs.drop p.tmps.length).length = p.objs.length := by rw [hs2.length]; simp
      generalize hws : vs.drop p.tmps.length = ws at hs2 hwl
      have hhead : p.head H vs (flat (addr H1) (H1.drop p.top)) = setSegs ((H.take p.top).map (Seg.dem (addr H) p.top)) p.objs ws ++ [.sym (flat (addr H1) (H1.drop p.top))] := by
        unfold Pat.head
        rw [hws]
      generalize hSS : setSegs ((H.take p.top).map (Seg.dem (addr H) p.top)) p.objs ws = SS at hhead
      have hP : ∀ s x, ((H.take p.top).map (Seg.dem (addr H) p.top))[s]? = some x → ∃ y, H[s]? = some y ∧ s < p.top ∧ x = y.dem (addr H) p.top := by
        intro s x hx
        simp only [List.getElem?_map, Option.map_eq_some_iff] at hx
        obtain ⟨y, hy, rfl⟩ := hx
        rw [List.getElem?_take] at hy
        split at hy
        · rename_i hlt
          exact ⟨y, hy, hlt, rfl⟩
        · cases hy
      have hlens : SS.map Seg.len = (H.take p.top).map Seg.len := by
        rw [← hSS, setSegs_lens, List.map_map]
        · exact List.map_congr_left fun x _ => seg_dem_len _ _ x
        · intro k q w n q1 q3 hn
          rw [List.getElem?_map] at hn
          simp only [Option.map_eq_some_iff] at hn
          obtain ⟨x, hx, rfl⟩ := hn
          obtain ⟨y, hy, hlt, rfl⟩ := hP _ _ hx
          rw [seg_dem_len]
          obtain ⟨y', hy', hfit⟩ := fits_spec hf q (List.mem_of_getElem? q1)
          have hsv : (p.objs.map fun q => segAt H1 q.1)[k]? = some (segAt H1 q.1) := by simp [q1]
          have hss := hs2.get hsv q3
          have hsa : segAt H1 q.1 = segVal y' := by simp [segAt, hy']
          rw [hsa] at hss
          have l1 : (valSeg w q.2.2).len = y'.len := by
            rw [← heap_length (addr H1) (valSeg w q.2.2), ← heap_length (addr H1) y', (valSeg_spec w q.2.2).1, segVal_spec hfit, hss.2.2.1]
          have a1 := addr_succ hy
          have a2 := addr_succ hy'
          rw [hk.2.1 (q.1 + 1) (by omega), hk.2.1 q.1 (by omega)] at a2
          omega
      have hSl : SS.length = p.top := by
        have := congrArg List.length hlens
        simp at this
        omega
      have hA : ∀ s, s ≤ p.top → addr (p.head H vs (flat (addr H1) (H1.drop p.top))) s = addr H s := by
        intro s hs
        rw [hhead, addr_append _ _ s (by rw [hSl]; exact hs), addr_lens hlens, addr_take hs hj]
    · have hA' : ∀ s, s < p.top → s < H.length → addr (p.head H vs (flat (addr H1) (H1.drop p.top))) s = addr H s := fun s hs _ => hA s (by omega)
      have hlen : (p.head H vs (flat (addr H1) (H1.drop p.top))).length = p.top + 1 := by rw [hhead]; simp [hSl]
      have hget : ∀ s x, SS[s]? = some x → (∃ (k : Nat) (q : Nat × Sh × Nat) (w : SV), p.objs[k]? = some q ∧ q.1 = s ∧ ws[k]? = some w ∧ x = valSeg w q.2.2) ∨ (s ∉ p.W ∧ ∃ y, H[s]? = some y ∧ x = y.dem (addr H) p.top) := by
        intro s x hx
        rw [← hSS] at hx
        rcases setSegs_get hwl hx with h2 | ⟨h2, h3⟩
        · exact .inl h2
        · obtain ⟨y, hy, _, hxy⟩ := hP _ _ h3
          exact .inr ⟨h2, y, hy, hxy⟩
      refine ⟨⟨?_, ?_⟩, ?_, ?_⟩
      · generalize hA'' : addr (p.head H vs (flat (addr H1) (H1.drop p.top))) = A' at hA hA'
        have e0 : h1 = h1.take (addr H p.top) ++ h1.drop (addr H p.top) := (List.take_append_drop _ _).symm
        have e2 : h1.drop (addr H p.top) = flat (addr H1) (H1.drop p.top) := by
          have := drop_flat (addr H1) (H := H1) (z := p.top) hk.1
          rw [hk.2.1 p.top (Nat.le_refl _), ← hv1.heap.1] at this
          exact this
        have hSA : ∀ s, s ≤ p.top → addr SS s = addr H s := fun s hs => by rw [addr_lens hlens, addr_take hs hj]
        have e1 : flat A' SS = h1.take (addr H p.top) := by
          have hl1 : (flat A' SS).length = addr H p.top := by rw [flat_length, hSl, hSA _ (Nat.le_refl _)]
          have hl2 : (h1.take (addr H p.top)).length = addr H p.top := by
            rw [List.length_take, hv1.heap.1, flat_length]
            have := addr_mono H1 hk.1
            rw [hk.2.1 p.top (Nat.le_refl _)] at this
            omega
          refine List.ext_getElem? fun k => ?_
          rcases Nat.lt_or_ge k (addr H p.top) with hkl | hkl
          · rw [List.getElem?_take_of_lt hkl]
            obtain ⟨s, s1, s2, s3⟩ := addr_find hkl
            have hsl : s < SS.length := by omega
            have hx : SS[s]? = some SS[s] := List.getElem?_eq_getElem hsl
            generalize SS[s] = x at hx
            obtain ⟨i, rfl⟩ : ∃ i, k = addr H s + i := ⟨k - addr H s, by omega⟩
            have hxl : addr SS (s + 1) = addr SS s + x.len := addr_succ hx
            rw [hSA s (by omega), hSA (s + 1) (by omega)] at hxl
            have g1 := flat_get (A := A') hx (k := i) (by omega)
            rw [hSA s (by omega)] at g1
            rw [g1]
            rcases hget s x hx with ⟨j, q, w, q1, q2, q3, rfl⟩ | ⟨q1, y, q2, rfl⟩
            · obtain ⟨y, hy, hfit⟩ := fits_spec hf q (List.mem_of_getElem? q1)
              rw [q2] at hy
              have v2 := (valSeg_spec w q.2.2).1
              have u2 := segVal_spec hfit
              have a2 := addr_succ hy
              rw [hk.2.1 (s + 1) (by omega), hk.2.1 s (by omega)] at a2
              have g2 := flat_get (A := addr H1) hy (k := i) (by omega)
              rw [hk.2.1 s (by omega), ← hv1.heap.1] at g2
              rw [g2, v2, u2]
              have hsv : (p.objs.map fun q => segAt H1 q.1)[j]? = some (segAt H1 q.1) := by simp [q1]
              have := hs2.get hsv q3
              have hsa : segAt H1 q.1 = segVal y := by simp [segAt, q2, hy]
              rw [hsa] at this
              rw [this.2.2.1]
            · rw [hk.2.2 s s1 q1 _ s2 s3, hv.heap.1]
              rw [seg_dem_len] at hxl
              rw [flat_get (A := addr H) q2 (k := i) (by omega)]
              have hyok := hv.heap.2 y (List.mem_of_getElem? q2)
              have := flat_dem' (A := addr H) (A' := A') (J := p.top) (n := H.length) hA' [y] (by simpa using hyok)
              simp only [List.map_cons, List.map_nil, flat] at this
              rw [this]
          · rw [List.getElem?_eq_none (by omega), List.getElem?_eq_none (by omega)]
        rw [hhead, flat_append, e1]
        simp only [flat, Seg.heap]
        rw [← e2]
        exact e0
      · intro s hs
        rw [hlen]
        rw [hhead] at hs
        rcases List.mem_append.1 hs with h2 | h2
        · obtain ⟨i, hi, rfl⟩ := List.getElem_of_mem h2
          rcases hget i SS[i] (List.getElem?_eq_getElem hi) with ⟨k, q, w, q1, q2, q3, q4⟩ | ⟨q1, y, q2, q4⟩
          · rw [q4]
            have hsv : (p.objs.map fun q => segAt H1 q.1)[k]? = some (segAt H1 q.1) := by simp [q1]
            exact (valSeg_spec w q.2.2).2 _ ((hs2.get hsv q3).2.2.2 _)
          · rw [q4]
            have := seg_dem_ok (A := addr H) (J := p.top) (hv.heap.2 y (List.mem_of_getElem? q2))
            cases hx' : (Seg.dem (addr H) p.top y) <;> simp only [Seg.ok]
            rw [hx'] at this
            simp only [Seg.ok] at this
            exact oks_mono (by omega) _ this
        · simp at h2
          subst h2
          simp only [Seg.ok]
      · unfold Pat.inst
        rw [setVals_length, setBad_length, List.length_map, hl, hv.len]
      · intro i v hi
        unfold Pat.inst at hi
        rcases setVals_get hi with ⟨k, q, k1, k2, k3⟩ | k1
        · have hv0 : (p.tmps.map fun q => t1.getD q.1 .bad)[k]? = some (t1.getD q.1 .bad) := by simp [k1]
          have hkl : k < p.tmps.length := (List.getElem?_eq_some_iff.1 k1).1
          have hv2 : (vs.take p.tmps.length)[k]? = some v := by rw [List.getElem?_take_of_lt hkl]; exact k3
          obtain ⟨s1, s2, s3, s4⟩ := hs1.get hv0 hv2
          have := hv1.ev (.tmp q.1)
          simp only [MO.ev, MO.eval] at this
          obtain ⟨_, e⟩ := this.ok s1
          rw [k2] at e s2
          exact .inr ⟨s4 _, by rw [e, s2]⟩
        · rcases setBad_get k1 with k2 | ⟨k2, k3⟩
          · exact .inl k2
          · simp only [List.getElem?_map, Option.map_eq_some_iff] at k3
            obtain ⟨v0, k3, rfl⟩ := k3
            rw [hkt i k2]
            rcases hv.tok i v0 k3 with rfl | ⟨o1, o2⟩
            · exact .inl (by simp [dem])
            · refine .inr ⟨?_, by rw [o2, dem_conc' hA' v0 o1]⟩
              rw [hlen]
              exact SV.ok_mono (by omega) _ (dem_ok v0 o1)
    · refine ⟨by rw [hhead]; simp [hSl], hA, hk.2.2⟩
  · exact he.elim

theorem okAt_spec {p : Pat} {z : Nat} {W : List Nat} {H : List Seg} (h : p.okAt z W H = true) : z ≤ p.top ∧ p.top ≤ H.length ∧ fits H p.objs = true ∧ ∀ s, s < z → s ∈ p.W → s ∈ W := by
  simp only [Pat.okAt, Bool.and_eq_true, Nat.ble_eq, List.all_eq_true] at h
  obtain ⟨⟨⟨h1, h2⟩, h3⟩, h4⟩ := h
  refine ⟨h1, h2, h3, fun s hs hw => ?_⟩
  obtain ⟨q, hq, rfl⟩ := List.mem_map.1 hw
  have := (h4 q hq).2
  rcases wr_spec this with h5 | h5
  · omega
  · exact h5

theorem blkX_eq (id : Nat) (x : MX) : blkX id x = if x = .exit id then .normal else x := by
  cases x with
  | exit k =>
    simp only [blkX]
    cases hb : Nat.beq k id with
    | true => have := Nat.eq_of_beq_eq_true hb; subst this; simp
    | false =>
      have : k ≠ id := fun h => by subst h; simp at hb
      simp [this]
  | normal => simp [blkX]
  | ret => simp [blkX]

theorem asgOps_mem {l : List MOper} {i : Nat} : i ∈ asgOps l ↔ ∃ o ∈ l, o.dst = some i ∨ ∃ w, o.guard = some (i, w) := by
  induction l with
  | nil => simp [asgOps]
  | cons o l ih =>
    simp only [asgOps, List.mem_cons, exists_eq_or_imp]
    rw [← ih]
    cases hd : o.dst <;> cases hg : o.guard <;> simp [eq_comm, Prod.ext_iff, or_assoc]

theorem asg_perm {l : List MOper} {σ : List Nat} {i : Nat} (h : i ∈ asgOps (permL l σ)) : i ∈ asgOps l := by
  rw [asgOps_mem] at h ⊢
  obtain ⟨o, ho, h⟩ := h
  unfold permL at ho
  obtain ⟨x, _, hx⟩ := List.mem_filterMap.1 ho
  exact ⟨o, List.mem_of_getElem? hx, h⟩

theorem wpC_sound {M : Model} : ∀ (c : MCode) {r : Hint} {z : Nat} {W : List Nat} {t : List SV} {H : List Seg} {K : MX → List SV → List Seg → Hint → Prop} {t' : Tmps} {h : Heap} {Q : MX → Tmps → Heap → Prop}, Val t H t' h → z ≤ H.length → wpC M z W c r t H K →
    (∀ x t1 H1 r1 t1' h1, Val t1 H1 t1' h1 → t1'.length = t'.length → KeepH z W H h H1 h1 → KeepT (asg c) t' t1' → K x t1 H1 r1 → Q x t1' h1) → Runs M (.code c t' Q) h := by
  intro c
  induction c with
  | skip =>
    intro r z W t H K t' h Q hv hz hw hK
    exact .skip (hK _ _ _ _ _ _ hv rfl (KeepH.refl hz) (KeepT.refl _ _) (by simpa only [wpC] using hw))
  | exit id =>
    intro r z W t H K t' h Q hv hz hw hK
    exact .exit (hK _ _ _ _ _ _ hv rfl (KeepH.refl hz) (KeepT.refl _ _) (by simpa only [wpC] using hw))
  | ret =>
    intro r z W t H K t' h Q hv hz hw hK
    exact .ret (hK _ _ _ _ _ _ hv rfl (KeepH.refl hz) (KeepT.refl _ _) (by simpa only [wpC] using hw))
  | region l =>
    intro r z W t H K t' h Q hv hz hw hK
    simp only [wpC] at hw
    exact .region (wpOps_sound hv hz hw fun t1 H1 r1 t1' h1 a1 a5 a2 a3 a4 => hK _ _ _ _ _ _ a1 a5 a2 (by simpa only [asg] using a3) a4)
  | draw l pre =>
    intro r z W t H K t' h Q hv hz hw hK
    simp only [wpC] at hw
    split at hw
    · rename_i hok
      exact .draw (draw_runs hok (wpOps_sound hv hz hw fun t1 H1 r1 t1' h1 a1 a5 a2 a3 a4 => hK _ _ _ _ _ _ a1 a5 a2 (by simpa only [asg] using a3) a4))
    · split at hw
      · rename_i σ τ r
        split at hw
        · rename_i hok
          rw [Bool.and_eq_true] at hok
          exact .draw (perm_all hok.1 (eff_runs hok.2 (wpOps_srun hv hz hw fun t1 H1 r1 t1' h1 a1 a5 a2 a3 a4 => hK _ _ _ _ _ _ a1 a5 a2 (fun i hi => a3 i fun hh => hi (by simpa only [asg] using asg_perm hh)) a4)))
        · exact hw.elim
      · split at hw
        · rename_i hok
          exact .draw (eff_runs hok (wpOps_srun hv hz hw fun t1 H1 r1 t1' h1 a1 a5 a2 a3 a4 => hK _ _ _ _ _ _ a1 a5 a2 (by simpa only [asg] using a3) a4))
        · exact hw.elim
  | seq a b iha ihb =>
    intro r z W t H K t' h Q hv hz hw hK
    have hsa : ∀ i ∈ asg a, i ∈ asg (.seq a b) := fun i hi => by simp only [asg, List.mem_append]; exact .inl hi
    have hsb : ∀ i ∈ asg b, i ∈ asg (.seq a b) := fun i hi => by simp only [asg, List.mem_append]; exact .inr hi
    simp only [wpC] at hw
    split at hw
    · rename_i p ra rb
      split at hw
      · rename_i hc
        obtain ⟨hzj, hj, ho, hWW⟩ := okAt_spec hc
        obtain ⟨J, hwa, hwb⟩ := hw
        refine .seq (fun x t1' h1 => ∃ t1 H1 r1, Val t1 H1 t1' h1 ∧ t1'.length = t'.length ∧ KeepH p.top p.W H h H1 h1 ∧ KeepT (asg a) t' t1' ∧ onX x (entS p t1 H1 J) fun x => K x t1 H1 r1) (iha hv hj hwa fun x t1 H1 r1 t1' h1 a1 a5 a2 a3 a4 => ⟨t1, H1, r1, a1, a5, a2, a3, a4⟩) ?_ ?_
        · rintro t1' h1 ⟨t1, H1, r1, a1, a5, a2, a3, a4⟩
          obtain ⟨vs, tail, rr, e1, e2, e3, e4⟩ := ent_val hv hj ho a1 a5 a2 a3 a4
          have hwb' := e4 _ hwb tail e3
          exact ihb e1 (by have := e2.1; omega) hwb' fun x t2 H2 r2 t2' h2 b1 b5 b2 b3 b4 => hK _ _ _ _ _ _ b1 (b5.trans a5) ((e2.weaken hzj hWW).trans b2) (a3.trans b3 hsa hsb) b4
        · rintro x t1' h1 hx ⟨t1, H1, r1, a1, a5, a2, a3, a4⟩
          refine hK _ _ _ r1 _ _ a1 a5 (a2.weaken hzj hWW) (fun i hi => a3 i fun hh => hi (hsa i hh)) ?_
          cases x with
          | normal => exact absurd rfl hx
          | exit => exact a4
          | ret => exact a4
      · exact hw.elim
    · refine .seq (fun x t1' h1 => ∃ t1 H1 r1, Val t1 H1 t1' h1 ∧ t1'.length = t'.length ∧ KeepH z W H h H1 h1 ∧ KeepT (asg a) t' t1' ∧ onX x (wpC M z W b r1 t1 H1 K) fun x => K x t1 H1 r1) (iha hv hz hw fun x t1 H1 r1 t1' h1 a1 a5 a2 a3 a4 => ⟨t1, H1, r1, a1, a5, a2, a3, a4⟩) ?_ ?_
      · rintro t1' h1 ⟨t1, H1, r1, a1, a5, a2, a3, a4⟩
        exact ihb a1 a2.1 a4 fun x t2 H2 r2 t2' h2 b1 b5 b2 b3 b4 => hK _ _ _ _ _ _ b1 (b5.trans a5) (a2.trans b2) (a3.trans b3 hsa hsb) b4
      · rintro x t1' h1 hx ⟨t1, H1, r1, a1, a5, a2, a3, a4⟩
        refine hK _ _ _ r1 _ _ a1 a5 a2 (fun i hi => a3 i fun hh => hi (hsa i hh)) ?_
        cases x with
        | normal => exact absurd rfl hx
        | exit => exact a4
        | ret => exact a4
  | cond c a b iha ihb =>
    intro r z W t H K t' h Q hv hz hw hK
    have hsa : ∀ i ∈ asg a, i ∈ asg (.cond c a b) := fun i hi => by simp only [asg, List.mem_append]; exact .inl hi
    have hsb : ∀ i ∈ asg b, i ∈ asg (.cond c a b) := fun i hi => by simp only [asg, List.mem_append]; exact .inr hi
    simp only [wpC] at hw
    split at hw
    · rename_i v hcv
      obtain ⟨_, e⟩ := ev_ok hv c hcv (by simp)
      simp only [conc] at e
      have T : ∀ {r1 : Hint}, wpC M z W a r1 t H K → c.eval t' = .bool true → Runs M (.code (.cond c a b) t' Q) h := fun hw he =>
        .condT he (iha hv hz hw fun x t1 H1 r1 t1' h1 a1 a5 a2 a3 a4 => hK _ _ _ _ _ _ a1 a5 a2 (fun i hi => a3 i fun hh => hi (hsa i hh)) a4)
      have F : ∀ {r1 : Hint}, wpC M z W b r1 t H K → c.eval t' = .bool false → Runs M (.code (.cond c a b) t' Q) h := fun hw he =>
        .condF he (ihb hv hz hw fun x t1 H1 r1 t1' h1 a1 a5 a2 a3 a4 => hK _ _ _ _ _ _ a1 a5 a2 (fun i hi => a3 i fun hh => hi (hsb i hh)) a4)
      split at hw
      · split at hw
        · exact T hw e
        · exact F hw e
      · cases v with
        | true => exact T (hw.1 rfl) e
        | false => exact F (hw.2 rfl) e
      · exact hw.elim
    · exact hw.elim
  | block id c ih =>
    intro r z W t H K t' h Q hv hz hw hK
    simp only [wpC] at hw
    refine .block (ih hv hz hw fun x t1 H1 r1 t1' h1 a1 a5 a2 a3 a4 => ?_)
    rw [← blkX_eq]
    exact hK _ _ _ _ _ _ a1 a5 a2 (by simpa only [asg] using a3) a4
  | loop c ih =>
    intro r z W t H K t' h Q hv hz hw hK
    simp only [wpC] at hw
    split at hw
    · rename_i p rb
      split at hw
      · rename_i hc
        obtain ⟨hzj, hj, ho, hWW⟩ := okAt_spec hc
        obtain ⟨I, ⟨n0, hent⟩, hbody⟩ := hw
        have key : ∀ (n : Nat) (t1 : List SV) (H1 : List Seg) (t1' : Tmps) (h1 : Heap), Val t1 H1 t1' h1 → t1'.length = t'.length → KeepH p.top p.W H h H1 h1 → KeepT (asg c) t' t1' → entS p t1 H1 (I n) → Runs M (.code (.loop c) t1' Q) h1 := by
          intro n
          induction n using Nat.strongRecOn with
          | ind n ihn =>
            intro t1 H1 t1' h1 a1 a5 a2 a3 a4
            obtain ⟨vs, tail, rr, e1, e2, e3, e4⟩ := ent_val hv hj ho a1 a5 a2 a3 a4
            have hb' := e4 _ (hbody n) tail e3
            refine .loop (fun x t2' h2 => ∃ t2 H2 r2, Val t2 H2 t2' h2 ∧ t2'.length = t'.length ∧ KeepH p.top p.W H h H2 h2 ∧ KeepT (asg c) t' t2' ∧ onX x (∃ n', n' < n ∧ entS p t2 H2 (I n')) fun x => K x t2 H2 r2) (ih e1 e2.1 hb' fun x t2 H2 r2 t2' h2 b1 b5 b2 b3 b4 => ⟨t2, H2, r2, b1, b5.trans a5, e2.trans b2, a3.trans b3 (fun _ h => h) (fun _ h => h), b4⟩) ?_ ?_
            · rintro t2' h2 ⟨t2, H2, r2, b1, b5, b2, b3, n', hn', b4⟩
              exact ihn n' hn' t2 H2 t2' h2 b1 b5 b2 b3 b4
            · rintro x t2' h2 hx ⟨t2, H2, r2, b1, b5, b2, b3, b4⟩
              refine hK _ _ _ r2 _ _ b1 b5 (b2.weaken hzj hWW) (by simpa only [asg] using b3) ?_
              cases x with
              | normal => exact absurd rfl hx
              | exit => exact b4
              | ret => exact b4
        exact key n0 t H t' h hv rfl (KeepH.refl hj) (KeepT.refl _ _) hent
      · exact hw.elim
    · exact hw.elim

def resS1 (t : List SV) (H : List Seg) : MRes → Option SV
  | .tmp i => match t.getD i .bad with
    | .bad => none
    | v => some v
  | .cell agg i => match t.getD i .bad with
    | .new s o => match H[s]? with
      | some (.con c _) => partS agg c o
      | _ => none
    | _ => none
def resSs (t : List SV) (H : List Seg) : List MRes → Option (List SV)
  | [] => some []
  | r :: rs => match resS1 t H r, resSs t H rs with
    | some v, some vs => some (v :: vs)
    | _, _ => none
def resS (t : List SV) (H : List Seg) (rs : List MRes) : Option SV :=
  match resSs t H rs with
  | some [v] => some v
  | some vs => some (.tup vs)
  | none => none

theorem resS1_spec {t : List SV} {H : List Seg} {t' : Tmps} {h : Heap} (hv : Val t H t' h) {r : MRes} {v : SV} (hr : resS1 t H r = some v) : resOf h t' r = some (conc (addr H) v) := by
  cases r with
  | tmp i =>
    simp only [resS1] at hr
    split at hr
    · cases hr
    · rename_i hb
      cases hr
      have := hv.ev (.tmp i)
      simp only [MO.ev, MO.eval] at this
      obtain ⟨_, e⟩ := this.ok (fun h => hb h)
      simp only [resOf, e]
  | cell agg i =>
    simp only [resS1] at hr
    split at hr
    · rename_i s o hs
      have := hv.ev (.tmp i)
      simp only [MO.ev, MO.eval, hs] at this
      obtain ⟨_, e⟩ := this.ok (by simp)
      simp only [conc] at e
      split at hr
      · rename_i c es hc
        obtain ⟨h1, h2⟩ := con_at hv hc
        obtain ⟨p1, p2⟩ := partS_spec hr (addr H) _ h2
        simp only [resOf, e, rdVar_part h1, p1]
      · cases hr
    · cases hr

theorem resSs_spec {t : List SV} {H : List Seg} {t' : Tmps} {h : Heap} (hv : Val t H t' h) : ∀ {rs : List MRes} {vs : List SV}, resSs t H rs = some vs → resAll h t' rs = some (concs (addr H) vs)
  | [], vs, hr => by simp only [resSs, Option.some.injEq] at hr; subst hr; simp [resAll, concs]
  | r :: rs, vs, hr => by
    simp only [resSs] at hr
    split at hr
    · rename_i v ws h1 h2
      cases hr
      simp only [resAll, resS1_spec hv h1, resSs_spec hv h2, concs]
    · cases hr

theorem resS_spec {t : List SV} {H : List Seg} {t' : Tmps} {h : Heap} (hv : Val t H t' h) {rs : List MRes} {v : SV} (hr : resS t H rs = some v) : Abs.results h t' rs = some (conc (addr H) v) := by
  unfold resS at hr
  unfold Abs.results
  split at hr
  · rename_i v' h1
    cases hr
    rw [resSs_spec hv h1]
    simp [concs]
  · rename_i vs hne h1
    cases hr
    rw [resSs_spec hv h1]
    cases vs with
    | nil => simp [concs, conc]
    | cons a l =>
      cases l with
      | nil => exact absurd rfl (hne a)
      | cons b l => simp [concs, conc]
  · cases hr

def wpF (M : Model) (F : MFunc) (hi : Hint) (args : List SV) (H : List Seg) (P : AV → Heap → Prop) : Prop :=
  wpC M 1 [] F.body hi (args ++ List.replicate (F.ntmps - args.length) .bad) H fun x t1 H1 _ => match x with
    | .exit _ => False
    | _ => match resS t1 H1 F.results with
      | some v => P (conc (addr H1) v) (flat (addr H1) (H1.drop 1))
      | none => False

theorem callP_of_wp {M : Model} {f : Nat} {F : MFunc} {hi : Hint} {args : List SV} {p : Heap} {R : List Seg} {P : AV → Heap → Prop} (hF : M.fn f = some F) (hargs : oks (R.length + 1) args) (hR : ∀ s ∈ R, s.ok (R.length + 1))
    (hw : wpF M F hi args (.sym p :: R) P) : CallP M f (concs (addr (.sym p :: R)) args) p (flat (addr (.sym p :: R)) R) P := by
  intro Q hQ
  have hlen : (concs (addr (.sym p :: R)) args).length = args.length := concs_length _ _
  refine .call hF ?_
  rw [hlen]
  have hv : Val (args ++ List.replicate (F.ntmps - args.length) .bad) (.sym p :: R) (concs (addr (.sym p :: R)) args ++ List.replicate (F.ntmps - args.length) .undef) (p ++ flat (addr (.sym p :: R)) R) := by
    refine ⟨⟨by rw [flat_cons]; rfl, ?_⟩, by simp [hlen], ?_⟩
    · intro s hs
      rcases List.mem_cons.1 hs with rfl | hs
      · simp only [Seg.ok]
      · exact hR s hs
    · intro i v hi
      rcases Nat.lt_or_ge i args.length with hlt | hge
      · rw [List.getElem?_append_left hlt] at hi
        rw [oks_iff] at hargs
        refine .inr ⟨hargs v (List.mem_of_getElem? hi), ?_⟩
        rw [List.getD_eq_getElem?_getD, List.getElem?_append_left (by rw [hlen]; exact hlt), concs_map, List.getElem?_map, hi]
        rfl
      · rw [List.getElem?_append_right hge, List.getElem?_replicate] at hi
        split at hi
        · cases hi; exact .inl rfl
        · cases hi
  refine wpC_sound F.body hv (by simp) hw fun x t1 H1 r1 t1' h1 a1 a5 a2 a3 a4 => ?_
  have fin : (x = .normal ∨ x = .ret) → (match resS t1 H1 F.results with
      | some v => P (conc (addr H1) v) (flat (addr H1) (H1.drop 1))
      | none => False) → (x = .normal ∨ x = .ret) ∧ ∃ v, Abs.results h1 t1' F.results = some v ∧ Q v h1 := by
    intro hx a4
    refine ⟨hx, ?_⟩
    split at a4
    · rename_i v hv'
      refine ⟨_, resS_spec a1 hv', ?_⟩
      have e : h1 = p ++ flat (addr H1) (H1.drop 1) := by
        have e1 : h1.take p.length = p := by
          refine List.ext_getElem? fun k => ?_
          rcases Nat.lt_or_ge k p.length with hkl | hkl
          · rw [List.getElem?_take_of_lt hkl]
            have := a2.2.2 0 (by omega) (by simp) k (by simp [addr]) (by simpa [addr, Seg.len, addr_zero] using hkl)
            rw [this, List.getElem?_append_left hkl]
          · rw [List.getElem?_eq_none (by simp; omega), List.getElem?_eq_none hkl]
        have e2 : h1.drop p.length = flat (addr H1) (H1.drop 1) := by
          have := drop_flat (addr H1) (H := H1) (z := 1) a2.1
          rw [a2.2.1 1 (Nat.le_refl _), ← a1.heap.1] at this
          simp only [addr, Seg.len, addr_zero, Nat.add_zero] at this
          exact this
        rw [← e2]
        conv => lhs; rw [← List.take_append_drop p.length h1, e1]
      rw [e]
      exact hQ _ _ a4
    · exact a4.elim
  cases x with
  | normal => exact fin (.inl rfl) a4
  | ret => exact fin (.inr rfl) a4
  | exit => exact a4.elim

theorem callE_of_wp {M : Model} {f : Nat} {F : MFunc} {hi : Hint} {args : List SV} {h : Heap} {P : AV → Heap → Prop} (hF : M.fn f = some F) (hargs : oks 1 args)
    (hw : wpF M F hi args [.sym h] P) : CallE M f (concs (addr [.sym h]) args) h P := by
  intro Q hQ
  have := callP_of_wp (R := []) hF (by simpa using hargs) (by simp) hw Q hQ
  simp only [flat, List.append_nil] at this
  exact this

theorem CallE.of_does {M : Model} {f : Nat} {args : List AV} {h tail : Heap} {v : AV} {P : AV → Heap → Prop} (hd : Does M f args h v (h ++ tail)) (hp : P v tail) : CallE M f args h P := fun Q hQ => hd Q (hQ v tail hp)
end Go.Abs

set_option linter.unusedVariables false
set_option linter.unusedSimpArgs false
namespace Go.Abs

class ExtC (a b : Heap) : Prop where
  out : Ext a b
instance ExtC.same (a : Heap) : ExtC a a := ⟨Ext.refl a⟩
instance ExtC.right (a b : Heap) : ExtC a (a ++ b) := ⟨⟨b, rfl⟩⟩
instance ExtC.app (h a b : Heap) [k : ExtC a b] : ExtC (h ++ a) (h ++ b) := ⟨by
  obtain ⟨l, rfl⟩ := k.out
  exact ⟨l, by simp⟩⟩
instance ExtC.cons (x : AObj) (a b : Heap) [k : ExtC a b] : ExtC (x :: a) (x :: b) := ⟨by
  obtain ⟨l, rfl⟩ := k.out
  exact ⟨l, by simp⟩⟩
instance ExtC.nil (b : Heap) : ExtC [] b := ⟨⟨b, rfl⟩⟩
instance ExtC.assoc (h a b H : Heap) [k : ExtC (h ++ (a ++ b)) H] : ExtC ((h ++ a) ++ b) H := ⟨by rw [List.append_assoc]; exact k.out⟩
instance ExtC.assocc (x : AObj) (a b H : Heap) [k : ExtC (x :: (a ++ b)) H] : ExtC ((x :: a) ++ b) H := ⟨by rw [List.cons_append]; exact k.out⟩
instance ExtC.nilr (h b : Heap) : ExtC (h ++ []) (h ++ b) := ⟨⟨b, by simp⟩⟩

theorem rd_sub {H : Heap} {b o n : Nat} {l : List AV} (h : rdCells H b o n = some l) {c : Nat} {v : AV} (hv : l[c]? = some v) : rdCells H b (o + c) 1 = some [v] := by
  unfold rdCells at h ⊢
  split at h
  · rename_i cs es ro hb
    split at h
    · rename_i hle
      cases h
      rw [List.getElem?_take] at hv
      split at hv
      · rename_i hc
        rw [List.getElem?_drop] at hv
        have hlt := (List.getElem?_eq_some_iff.1 hv).1
        rw [if_pos (by omega)]
        congr 1
        have := List.drop_eq_getElem_cons hlt
        rw [this]
        have e := (List.getElem?_eq_some_iff.1 hv).2
        simp [e]
      · cases hv
    · cases h
  · cases h

structure Sl {α : Type} (H : Heap) (s : Slc) (es : Nat) (f : α → List AV) (l : List α) : Prop where
  len : s.len = l.length
  get : ∀ (i : Nat) (x : α), l[i]? = some x → rdCells H s.b (s.o + i * es) es = some (f x)

section
variable {α : Type} {H H' : Heap} {s : Slc} {es : Nat} {f : α → List AV} {l : List α} {i : Nat} {x : α}

theorem Sl.ext (k : Sl H s es f l) [e : ExtC H H'] : Sl H' s es f l := ⟨k.len, fun i x hi => e.out.rd (k.get i x hi)⟩
theorem Sl.agg (k : Sl H s es f l) (hi : l[i]? = some x) : rdVar H (some es) s.b (s.o + i * es) = some (.agg (f x)) := by
  simp only [rdVar, k.get i x hi, Option.map_some]
theorem Sl.cell (k : Sl H s es f l) (hi : l[i]? = some x) {c : Nat} {v : AV} (hv : (f x)[c]? = some v) : rdVar H none s.b (s.o + i * es + c) = some v := by
  simp only [rdVar, rd_sub (k.get i x hi) hv, Option.bind_some, List.head?_cons]
end

def Ow (base : Nat) (t : Heap) (s : Slc) (es : Nat) (c : List AV) : Prop :=
  (s.nil = true ∧ c = []) ∨ (s.nil = false ∧ s.o = 0 ∧ s.n * es = c.length ∧ ∃ k, s.b = base + k ∧ t[k]? = some (.arr c es false))

theorem Ow.len {base : Nat} {t : Heap} {s : Slc} {es : Nat} {c : List AV} (k : Ow base t s es c) : s.len * es = c.length := by
  rcases k with ⟨h1, h2⟩ | ⟨h1, h2, h3, _⟩
  · simp [Slc.len, h1, h2]
  · simp [Slc.len, h1, h3]
theorem flatMap_get {α : Type} {f : α → List AV} {es : Nat} (hf : ∀ x, (f x).length = es) : ∀ {l : List α} {i : Nat} {x : α}, l[i]? = some x → i * es + es ≤ (l.flatMap f).length ∧ ((l.flatMap f).drop (i * es)).take es = f x
  | [], i, x, h => by simp at h
  | y :: l, 0, x, h => by
    simp at h
    subst h
    simp [← hf y]
  | y :: l, i + 1, x, h => by
    obtain ⟨h1, h2⟩ := flatMap_get hf (l := l) (i := i) (x := x) (by simpa using h)
    have e : (i + 1) * es = (f y).length + i * es := by rw [hf y, Nat.add_mul]; omega
    refine ⟨by rw [e, List.flatMap_cons, List.length_append]; omega, ?_⟩
    rw [e, List.flatMap_cons, List.drop_append, List.drop_eq_nil_of_le (by omega), List.nil_append, Nat.add_sub_cancel_left, h2]

theorem flatMap_len {α : Type} {f : α → List AV} {es : Nat} (hf : ∀ x, (f x).length = es) : ∀ (l : List α), (l.flatMap f).length = l.length * es
  | [] => by simp
  | y :: l => by simp [flatMap_len hf l, hf y, Nat.add_mul]; omega

theorem Ow.sl {α : Type} {base : Nat} {t H : Heap} {s : Slc} {es : Nat} {f : α → List AV} {l : List α} (k : Ow base t s es (l.flatMap f)) (hes : 0 < es) (hf : ∀ x, (f x).length = es) (hH : ∀ k o, t[k]? = some o → H[base + k]? = some o) : Sl H s es f l := by
  have hl := flatMap_len hf l
  rcases k with ⟨h1, h2⟩ | ⟨h1, h2, h3, k, h4, h5⟩
  · have : l = [] := by
      rw [h2] at hl
      cases l with
      | nil => rfl
      | cons y l =>
        simp only [List.length_nil, List.length_cons] at hl
        have : 0 < (l.length + 1) * es := Nat.mul_pos (by omega) hes
        omega
    subst this
    exact ⟨by simp [Slc.len, h1], fun i x hi => by simp at hi⟩
  · refine ⟨?_, fun i x hi => ?_⟩
    · rw [hl] at h3
      simp only [Slc.len, h1, cond_false]
      exact Nat.eq_of_mul_eq_mul_right hes h3
    · obtain ⟨g1, g2⟩ := flatMap_get hf hi
      simp only [rdCells, h4, hH k _ h5, h2, Nat.zero_add]
      rw [if_pos g1, g2]

theorem lt_len {α : Type} {l : List α} {i n : Nat} (hn : n = l.length) (hi : i < n) : ∃ x, l[i]? = some x := ⟨l[i]'(by omega), by simp [hn ▸ hi]⟩
theorem wrap_succ {i : Nat} (h : i < 140737488355328) : IntKind.wrap .i64 ((i : Int) + 1) = ((i + 1 : Nat) : Int) := by
  have e : IntKind.wrap .i64 ((i : Int) + 1) = (if ((i : Int) + 1) % 18446744073709551616 ≥ 9223372036854775808 then ((i : Int) + 1) % 18446744073709551616 - 18446744073709551616 else ((i : Int) + 1) % 18446744073709551616) := by
    have e1 : (2 : Int) ^ 64 = 18446744073709551616 := by decide
    have e2 : (2 : Int) ^ (64 - 1) = 9223372036854775808 := by decide
    simp only [IntKind.wrap, IntKind.signed, IntKind.bits, Bool.true_and, decide_eq_true_eq, e1, e2]
  rw [e]
  split <;> omega
end Go.Abs

set_option linter.unusedVariables false
set_option linter.unusedSimpArgs false
namespace Go.Abs

def MOp.adds : MOp → Bool
  | .alloc .. | .box .. | .buildSlice .. | .mkSlice .. | .mkMap | .rangeStr _ | .runes _ => true
  | _ => false

theorem adds_ext {t : Tmps} {h h' : Heap} {o : MOp} {v : AV} (ha : o.adds = true) (he : evalOp t h o = some (v, h')) : Ext h h' := by
  cases o <;> simp only [MOp.adds, Bool.false_eq_true] at ha <;> simp only [evalOp] at he
  case alloc z es => cases he; exact ⟨_, rfl⟩
  case box n x =>
    split at he
    · split at he
      · cases he; exact ⟨_, rfl⟩
      · cases he
    · cases he
  case buildSlice n es z ps =>
    simp only [Option.map_eq_some_iff, Prod.mk.injEq] at he
    obtain ⟨l, _, _, rfl⟩ := he
    exact ⟨_, rfl⟩
  case mkMap => cases he; exact ⟨_, rfl⟩
  case mkSlice z b l c =>
    split at he
    · split at he
      · cases he; exact ⟨_, rfl⟩
      · cases he
    · cases he
  case rangeStr x =>
    split at he
    · cases he; exact ⟨_, rfl⟩
    · cases he
  case runes x =>
    split at he
    · split at he
      · cases he; exact ⟨_, rfl⟩
      · cases he
    · cases he

theorem loop_runs {M : Model} {c c' : MCode} (H : ∀ t Q h, Runs M (.code c' t Q) h → Runs M (.code c t Q) h) {t : Tmps} {Q : MX → Tmps → Heap → Prop} {h : Heap} (hr : Runs M (.code (.loop c') t Q) h) : Runs M (.code (.loop c) t Q) h := by
  generalize hJ : Job.code (.loop c') t Q = J at hr
  induction hr generalizing t with
  | loop Q1 h1 h2 h3 ih1 ih2 =>
    injection hJ with e1 e2 e3
    subst e2 e3
    injection e1 with e1
    subst e1
    exact .loop Q1 (H _ _ _ h1) (fun t1 h1 hq => ih2 t1 h1 hq rfl) h3
  | _ => cases hJ

end Go.Abs

