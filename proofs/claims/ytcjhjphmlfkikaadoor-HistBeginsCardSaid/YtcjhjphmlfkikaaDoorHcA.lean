import Derived.Test.YtcjhjphmlfkikaaDoorHDec
import Derived.Test.YtcjhjphmlfkikaaDoorHDecT
import Derived.Test.YtcjhjphmlfkikaaDoorHRep
import Derived.Test.YtcjhjphmlfkikaaDoorShH
import Derived.Test.YtcjhjphmlfkikaaDoorBd
import Derived.Test.YtcjhjphmlfkikaaDoorHoA
import Derived.Test.YtcjhjphmlfkikaaDoorAbsG11
import Derived.Test.YtcjhjphmlfkikaaDoorAbsG6
import Derived.Test.YtcjhjphmlfkikaaDoorAbsG4
set_option linter.unusedVariables false
set_option linter.unusedSimpArgs false
set_option maxRecDepth 100000
namespace Go.Proofs.YtcjhjphmlfkikaaDoor.Mini
open Go.Abs

def okSmall (n : Int) : Bool := decide (0 ≤ n) && decide (n < 100)
theorem okSmall_iff {n : Int} : okSmall n = true ↔ 0 ≤ n ∧ n < 100 := by simp [okSmall]
def dd (n : Nat) : List UInt8 := if n < 10 then [UInt8.ofNat (48 + n)] else [UInt8.ofNat (48 + n / 10), UInt8.ofNat (48 + n % 10)]
theorem dd_eq {n : Nat} (h : n < 100) : Lib.decDigits n = dd n := by
  unfold dd
  rw [Lib.decDigits]
  split
  · rfl
  · rw [Lib.decDigits, dif_pos (by omega)]
    rfl
theorem dd_len (n : Nat) : (dd n).length ≤ 2 := by
  unfold dd
  split <;> simp
def itoaP (f0 : Nat) : PrimsV := fun f args => cond (Nat.beq f0 f) (match args with
  | [.int .i64 n] => cond (okSmall n) (some (.flat (.str (dd n.toNat)))) none
  | _ => none) none
theorem isfn70 : IsFn Tryd.prog 70 := isFn Tryd.func70 (by kernel_rfl) (by kernel_rfl)
theorem itoaP_ok {base : Nat} {w0 : World} {out : Prop} : WaysOK Tryd.prog base w0 out (itoaP 70) := by
  intro f args v hv
  unfold itoaP at hv
  cases hf : Nat.beq 70 f with
  | false => rw [hf] at hv; cases hv
  | true =>
    rw [hf] at hv
    have := Nat.eq_of_beq_eq_true hf
    subst this
    simp only [cond_true] at hv
    split at hv
    · rename_i n
      cases hn : okSmall n with
      | false => rw [hn] at hv; cases hv
      | true =>
        rw [hn] at hv
        injection hv with hv
        subst hv
        obtain ⟨n0, n1⟩ := okSmall_iff.1 hn
        obtain ⟨fn, c, h1, h2, h3⟩ := isfn70
        refine .told _ fun m w cargs ha _ => ⟨.string ⟨(dd n.toNat).toArray⟩, by simp only [VR], fn, c, h1, h2, h3, ?_⟩
        simp only [VRs, VR] at ha
        obtain ⟨c1, cs, e1, rfl, rfl⟩ := ha
        have : cargs = #[.int .i64 n] := by
          apply Array.ext'
          rw [e1]
        subst this
        have en : ((n.toNat : Nat) : Int) = n := by omega
        have hc := Sh.strconv_Itoa_small n.toNat (by omega) w
        rw [en, dd_eq (by omega)] at hc
        refine hc.mono ?_
        rintro e' w' ⟨rfl, rfl⟩
        exact ⟨rfl, Go.RowKit.Below.refl _ _⟩
    · cases hv
def asciiL (c : List UInt8) : Bool := c.all fun b => Nat.blt b.toNat 128
def trimP (f0 : Nat) : PrimsV := fun f args => cond (Nat.beq f0 f) (match args with
  | [.str s, .str c] => cond (asciiL c && (Nat.ble s.length 1000000 && Nat.ble c.length 1000000)) (some (.flat (.str (Lib.trimS s c)))) none
  | _ => none) none
theorem isfn80 : IsFn Tryd.prog 80 := isFn Tryd.func80 (by kernel_rfl) (by kernel_rfl)
theorem trimP_ok {base : Nat} {w0 : World} {out : Prop} : WaysOK Tryd.prog base w0 out (trimP 80) := by
  intro f args v hv
  unfold trimP at hv
  cases hf : Nat.beq 80 f with
  | false => rw [hf] at hv; cases hv
  | true =>
    rw [hf] at hv
    have := Nat.eq_of_beq_eq_true hf
    subst this
    simp only [cond_true] at hv
    split at hv
    · rename_i s c
      cases hn : asciiL c && (Nat.ble s.length 1000000 && Nat.ble c.length 1000000) with
      | false => rw [hn] at hv; cases hv
      | true =>
        rw [hn] at hv
        injection hv with hv
        subst hv
        simp only [Bool.and_eq_true, Nat.ble_eq] at hn
        obtain ⟨n0, n1, n2⟩ := hn
        obtain ⟨fn, cd, h1, h2, h3⟩ := isfn80
        refine .told _ fun m w cargs ha _ => ⟨.string ⟨(Lib.trimS s c).toArray⟩, by simp only [VR], fn, cd, h1, h2, h3, ?_⟩
        simp only [VRs, VR] at ha
        obtain ⟨c1, cs, e1, rfl, c2, cs2, rfl, rfl, rfl⟩ := ha
        have : cargs = #[.string ⟨s.toArray⟩, .string ⟨c.toArray⟩] := by
          apply Array.ext'
          rw [e1]
        subst this
        have e2 : (⟨s.toArray⟩ : ByteArray).size = s.length := size_ba s
        have e3 : (⟨c.toArray⟩ : ByteArray).size = c.length := size_ba c
        refine (Sh.strings_Trim ⟨s.toArray⟩ ⟨c.toArray⟩ w (by rw [e2]; omega) (by rw [e3]; omega) (fun j b hb => ?_)).mono ?_
        · have hm : b ∈ c := List.mem_of_getElem? (by simpa using hb)
          have := List.all_eq_true.1 n0 b hm
          simp only [Nat.blt, Nat.ble_eq] at this
          omega
        · rintro e' w' ⟨rfl, hb⟩
          exact ⟨rfl, hb⟩
    · cases hv

def repPrim (f : Nat) (args : List AV) (h : Heap) (Q : AV → Heap → Prop) : Prop := f = 62 ∧ ∃ b : Nat, args = [.slice b 0 1, .int .i64 4] ∧ h[b]? = some (.arr [.int .i64 (-1)] 1 false) ∧
  Q (.slice h.length 0 4) (h ++ [.arr [.int .i64 (-1), .int .i64 (-1), .int .i64 (-1), .int .i64 (-1)] 1 false])
theorem isfn62 : IsFn Tryd.prog 62 := isFn Tryd.func62 (by kernel_rfl) (by kernel_rfl)
theorem good_rep {base : Nat} {w0 : World} {out : Prop} {h : Heap} {b : Nat} {Q : AV → Heap → Prop} (hb : h[b]? = some (.arr [.int .i64 (-1)] 1 false)) (hQ : Q (.slice h.length 0 4) (h ++ [.arr [.int .i64 (-1), .int .i64 (-1), .int .i64 (-1), .int .i64 (-1)] 1 false])) :
    Go.Abs.Good Tryd.prog base w0 out (.call 62 [.slice b 0 1, .int .i64 4] Q) h := by
  intro m w cargs ha hk O a next Q' hnext hlet
  obtain ⟨fn, c, f1, f2, f3⟩ := isfn62
  rw [callFunc_run f1 f2 f3, Oper.upon_enter]
  simp only [VRs, VR] at ha
  obtain ⟨c1, cs, e1, ⟨e, he, hv⟩, c2, cs2, rfl, rfl, rfl⟩ := ha
  rcases hv with ⟨cap, rfl, hcap, hroom⟩ | ⟨h0, _⟩
  rotate_left
  · cases h0
  have : cargs = #[.slice (some ⟨e.g, e.off, none⟩) 1 cap, .int .i64 4] := by
    apply Array.ext'
    rw [e1]
    rfl
  subst this
  obtain ⟨e', he', hes, cc, t, fr, g1, g2, g3, g4, g5, g6⟩ := hk.obj b _ hb
  rw [he] at he'
  cases he'
  obtain ⟨cv, q1, q2, _⟩ := g4 0 (.int .i64 (-1)) rfl
  simp only [VR] at q2
  subst q2
  have hlt := (hk.lt b e he).1
  have hcell : w.cell? ⟨e.g, e.off, none⟩ = some (.int .i64 (-1)) := by
    unfold World.cell?
    rw [g1]
    simpa using q1
  refine (repeat4 e.g e.off cap w hlt hcell).mono ?_
  rintro e' w' ⟨rfl, hheap, hbl⟩
  have ht : Turns w w' (fun _ => False) := ⟨hbl.os, hbl.tape, hbl.output, hbl.size, fun k hk _ => hbl.block k hk⟩
  have k1 := hk.turnFree ht (fun g hg => hg.elim) (fun i o ei _ _ _ hg => hg)
  have hlt' : w.heap.size < w'.heap.size := (Array.getElem?_eq_some_iff.1 hheap).1
  have k2 := k1.adopt (w' := w') (.arr [.int .i64 (-1), .int .i64 (-1), .int .i64 (-1), .int .i64 (-1)] 1 false) w.heap.size 0 4 1 (fun x ox ex hx hr hm => by have := (hk.lt x ex hm).1; omega) hk.size hlt' rfl rfl rfl rfl (fun _ _ => rfl)
    ⟨_, Emb.upd_same _ _ _, rfl, _, _, _, hheap, rfl, Nat.le_refl _, fun i v hi => by
      have hi4 : i < 4 := (List.getElem?_eq_some_iff.1 hi).1
      rcases (by omega : i = 0 ∨ i = 1 ∨ i = 2 ∨ i = 3) with rfl | rfl | rfl | rfl <;> (cases hi; exact ⟨.int .i64 (-1), rfl, by simp only [VR], rfl⟩), fun _ => ⟨rfl, hk.size⟩, fun hq => by cases hq⟩
  refine hnext (.slice h.length 0 4) _ _ (.slice (some ⟨w.heap.size, 0, none⟩) 4 4) w' hQ (Emb.le_upd hk.none_of_len) ?_ k2
  simp only [VR]
  exact ⟨_, Emb.upd_same _ _ _, .inl ⟨4, rfl, Nat.le_refl _, (by show 0 + 0 + 4 * 1 ≤ 4; omega)⟩⟩
def withR (M : Model) : Model := ⟨M.fn, fun f args h Q => M.prim f args h Q ∨ repPrim f args h Q⟩
theorem fits_rep {base : Nat} {w0 : World} {out : Prop} {M : Model} (hM : Fits Tryd.prog base w0 out M) : Fits Tryd.prog base w0 out (withR M) where
  mixed := hM.mixed
  fn := hM.fn
  prim := fun f args h Q hp => by
    rcases hp with hp | ⟨rfl, b, rfl, hb, hQ⟩
    · exact hM.prim f args h Q hp
    · exact good_rep hb hQ
  ops := hM.ops

noncomputable def tblH : List (Nat × MFunc) := [(3, F3), (4, F4), (5, F5), (11, F11), (12, F12 src12), (13, F13), (14, F14), (15, F15), (16, F16), (17, F17), (18, F18), (19, F19), (20, F20), (21, F21), (22, F22), (23, F23), (24, F24), (25, F25), (26, F26), (27, F27), (28, F28), (37, F37), (41, F41), (42, F42), (43, F43), (44, F44), (45, F45), (46, F46), (54, F54), (63, F63 src63), (64, F64)]
theorem tblH_ok : ∀ p ∈ tblH, (modelOf Tryd.prog noPrim).fn p.1 = some p.2 := by
  simp only [tblH, List.mem_cons, List.not_mem_nil, or_false, forall_eq_or_imp, forall_eq]
  exact ⟨fn3, fn4, fn5, fn11, fn12, fn13, fn14, fn15, fn16, fn17, fn18, fn19, fn20, fn21, fn22, fn23, fn24, fn25, fn26, fn27, fn28, fn37, fn41, fn42, fn43, fn44, fn45, fn46, fn54, fn63, fn64⟩
theorem mixedH : Tryd.prog.follows .mixedOrders = true := by kernel_rfl
noncomputable def primsH : PrimsV := orPrims (itoaP 70) (trimP 80)
noncomputable def KH : Model := withR (withB ⟨fnOf tblH, primV primsH⟩ bldN)
theorem fitsH {base : Nat} {w0 : World} {out : Prop} : Fits Tryd.prog base w0 out KH := fits_rep (fits_bld (fits_ways mixedH tblH tblH_ok _ (orPrims_ok itoaP_ok trimP_ok)) bldOK)

theorem itoa_ok {n : Int} (hn : okSmall n = true) {h : Heap} {P : AV → Heap → Prop} (hP : ∀ t, P (.str (dd n.toNat)) t) : CallE KH 70 [.int .i64 n] h P := by
  intro Q hQ
  refine .prim (.inl (.inl ⟨.flat (.str (dd n.toNat)), ?_, by simpa [PVal.put] using hQ _ [] (hP _)⟩))
  show orPrims (itoaP 70) (trimP 80) 70 [.int .i64 n] = _
  simp only [orPrims, itoaP, hn]
  rfl
theorem trim_ok {s c : List UInt8} (hc : asciiL c = true) (hs : s.length ≤ 1000000) (hl : c.length ≤ 1000000) {h : Heap} {P : AV → Heap → Prop} (hP : ∀ t, P (.str (Lib.trimS s c)) t) : CallE KH 80 [.str s, .str c] h P := by
  intro Q hQ
  refine .prim (.inl (.inl ⟨.flat (.str (Lib.trimS s c)), ?_, by simpa [PVal.put] using hQ _ [] (hP _)⟩))
  have h1 : Nat.ble s.length 1000000 = true := by rw [Nat.ble_eq]; exact hs
  have h2 : Nat.ble c.length 1000000 = true := by rw [Nat.ble_eq]; exact hl
  show orPrims (itoaP 70) (trimP 80) 80 [.str s, .str c] = _
  simp only [orPrims, itoaP, trimP, hc, h1, h2]
  rfl
theorem rep_ok {h : Heap} {b : Nat} {P : AV → Heap → Prop} (hb : h[b]? = some (.arr [.int .i64 (-1)] 1 false)) (hP : P (.slice h.length 0 4) [.arr [.int .i64 (-1), .int .i64 (-1), .int .i64 (-1), .int .i64 (-1)] 1 false]) : CallE KH 62 [.slice b 0 1, .int .i64 4] h P := by
  intro Q hQ
  exact .prim (.inr ⟨rfl, b, rfl, hb, hQ _ _ hP⟩)

theorem lettersEq : src63 0 = [97, 98, 99, 100, 101, 102, 103, 104, 105, 106, 107, 108, 109, 110, 111, 112, 113, 114, 115, 116, 117, 118, 119, 120, 121, 122] := by kernel_rfl
theorem drop_nil {α : Type} {p : α → Bool} : ∀ {l : List α}, l.dropWhile p = [] ↔ l.all p = true
  | [] => by simp
  | a :: l => by
    rw [List.dropWhile_cons]
    cases h : p a with
    | true => simp [h, drop_nil (l := l)]
    | false => simp [h]
theorem trim_nil {s c : List UInt8} : Lib.trimS s c = [] ↔ s.all (fun b => c.contains b) = true := by
  unfold Lib.trimS Lib.trimLeftS Lib.trimRightS
  rw [drop_nil]
  constructor
  · intro h
    by_cases hd : s.reverse.dropWhile (fun b => c.contains b) = []
    · rw [drop_nil, List.all_reverse] at hd
      exact hd
    · exfalso
      obtain ⟨a, l, hl⟩ := List.exists_cons_of_ne_nil hd
      have h1 : c.contains a = false := by
        have := List.head?_dropWhile_not (fun b => c.contains b) s.reverse
        rw [hl] at this
        simpa using this
      have h2 := List.all_eq_true.1 h a (by rw [hl]; simp)
      rw [h1] at h2
      cases h2
  · intro h
    have : s.reverse.dropWhile (fun b => c.contains b) = [] := by
      rw [drop_nil, List.all_reverse]
      exact h
    rw [this]
    rfl
theorem letters_lower : ∀ b : UInt8, ([97, 98, 99, 100, 101, 102, 103, 104, 105, 106, 107, 108, 109, 110, 111, 112, 113, 114, 115, 116, 117, 118, 119, 120, 121, 122] : List UInt8).contains b = lower b := by
  intro b
  have all : ∀ n : Fin 256, ([97, 98, 99, 100, 101, 102, 103, 104, 105, 106, 107, 108, 109, 110, 111, 112, 113, 114, 115, 116, 117, 118, 119, 120, 121, 122] : List UInt8).contains (UInt8.ofNat n.val) = lower (UInt8.ofNat n.val) := by decide
  have := all ⟨b.toNat, b.toNat_lt⟩
  simpa using this
theorem named_ok {w : List UInt8} {h : Heap} {P : AV → Heap → Prop} (hP : ∀ t, P (.bool (nameV w)) t) : CallE KH 63 [.str w] h P := by
  refine d63 (s := src63) (by kernel_rfl) ?_
  unfold D63
  rw [lettersEq]
  unfold nameV at hP
  refine ⟨fun a => ⟨fun b => ?_, fun b => ?_⟩, fun a => ?_⟩
  · have ha : decide (1 ≤ w.length) = true := by simp only [decide_eq_false_iff_not, decide_eq_true_eq] at a ⊢; omega
    have hb : decide (w.length ≤ 8) = true := by simp only [decide_eq_false_iff_not, decide_eq_true_eq] at b ⊢; omega
    refine trim_ok (by decide) (by simp only [decide_eq_true_eq] at hb; omega) (by decide) fun t => ⟨_, rfl, ?_⟩
    rw [ha, hb, Bool.true_and, Bool.true_and] at hP
    have e : (Lib.trimS w [97, 98, 99, 100, 101, 102, 103, 104, 105, 106, 107, 108, 109, 110, 111, 112, 113, 114, 115, 116, 117, 118, 119, 120, 121, 122] == []) = w.all lower := by
      rw [Bool.eq_iff_iff, beq_iff_eq, trim_nil]
      simp only [letters_lower]
    rw [e]
    exact hP _
  · have hb : decide (w.length ≤ 8) = false := by simp only [decide_eq_false_iff_not, decide_eq_true_eq] at b ⊢; omega
    rw [hb] at hP
    simpa using hP _
  · have ha : decide (1 ≤ w.length) = false := by simp only [decide_eq_false_iff_not, decide_eq_true_eq] at a ⊢; omega
    rw [ha] at hP
    simpa using hP _
theorem word_ok {n : Int} {h : Heap} {P : AV → Heap → Prop} (hP : ∀ t, P (.bool (isW n)) t) : CallE KH 64 [.int .i64 n] h P := by
  refine d64 (by kernel_rfl) ?_
  unfold D64
  unfold isW at hP
  refine ⟨fun a => ?_, fun a => ?_⟩
  · rw [a, Bool.true_and] at hP; exact hP _
  · rw [a, Bool.false_and] at hP; exact hP _
end Go.Proofs.YtcjhjphmlfkikaaDoor.Mini

