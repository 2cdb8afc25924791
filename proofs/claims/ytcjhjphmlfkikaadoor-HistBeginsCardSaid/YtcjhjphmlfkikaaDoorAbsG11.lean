import Derived.Shelf.Strings.Builder1
import Derived.Below
import Derived.Test.YtcjhjphmlfkikaaDoorAbsG7
import Derived.Test.YtcjhjphmlfkikaaDoorAbsG6
import Derived.Test.YtcjhjphmlfkikaaDoorAbsG8
set_option linter.unusedVariables false
set_option linter.unusedSimpArgs false
namespace Go.Abs
open Go.RowKit Go.Shelf Go.Proofs Go.Lib

structure Turns (w w' : World) (S : Nat → Prop) : Prop where
  os : w'.os = w.os
  tape : w'.tape = w.tape
  output : w'.output = w.output
  size : w.heap.size ≤ w'.heap.size
  block : ∀ k, k < w.heap.size → ¬ S k → w'.heap[k]? = w.heap[k]?
theorem Turns.refl (w : World) (S : Nat → Prop) : Turns w w S := ⟨rfl, rfl, rfl, Nat.le_refl _, fun _ _ _ => rfl⟩
theorem Turns.trans {a b c : World} {S : Nat → Prop} (h : Turns a b S) (k : Turns b c S) : Turns a c S :=
  ⟨k.os.trans h.os, k.tape.trans h.tape, k.output.trans h.output, Nat.le_trans h.size k.size, fun i hi hs => (k.block i (Nat.lt_of_lt_of_le hi h.size) hs).trans (h.block i hi hs)⟩
theorem Turns.mono {a b : World} {S T : Nat → Prop} (h : Turns a b S) (hs : ∀ k, S k → T k) : Turns a b T := ⟨h.os, h.tape, h.output, h.size, fun k hk ht => h.block k hk fun s => ht (hs k s)⟩
theorem Turns.setCell (w : World) (b i : Nat) (v : Value) : Turns w (w.setCell ⟨b, i, none⟩ v) (· = b) :=
  ⟨rfl, rfl, rfl, by simp [World.setCell], fun k _ hk => Below.heap_setCell _ _ _ _ hk⟩
theorem Turns.grown {w w' : World} {g : Option Nat} (h : w.grownBy w' g) : Turns w w' fun k => g = some k := ⟨h.os, h.tape, h.output, h.size, fun k hk hs => h.block k hk fun e => hs e.symm⟩

section
variable {P : Program} (w : World)
theorem append_own2 (base : Nat) (t u ty e : TypeId) (i : TypeInfo) (ht : P.underlying t = some (.slice e)) (hu : P.underlying u = some .string) (hi : P.info? e = some i) (hz : i.zero = some (.int .u8 0))
    (hsize : i.size = 1) (hby : i.bytes = 1)
    (v : Value) (n : Nat) (xs : List Value) (hown : w.ownsRow base e 1 v n xs) (s : ByteArray) (hs0 : s.size ≠ 0)
    (h63 : n + s.size ≤ maxLen) (hbytes : n + s.size ≤ 140737488355328) (hbase : base ≤ w.heap.size) :
    ∃ v' w', (Builtin.append_ #[t, u] ty #[v, .string s]).run P w = .ok v' w' ∧ w'.ownsRow base e 1 v' (n + s.size) (xs ++ strCells s) ∧ w.grownBy w' v.ownBlock ∧ ((v'.ownBlock = v.ownBlock ∧ w'.heap.size = w.heap.size) ∨ v'.ownBlock = some w.heap.size) := by
  have hsmall : n + s.size ≤ 9223372036854775807 := by simp only [maxLen] at h63; omega
  have hxl : xs.length = n := by simpa using hown.1
  have hlen : (xs ++ strCells s).length = (n + s.size) * 1 := by rw [List.length_append, hxl, strCells_length, Nat.mul_one]
  have grown : ∀ (old : Nat), old < n + s.size → ∀ (row : Option Nat),
      (w.drew.alloc (.cells (xs.toArray ++ (strCells s).toArray ++ Builtin.zeroCells (Value.int .u8 0).cells (grownCap w (n + s.size) old e - (n + s.size))) e)).ownsRow base e 1
        (.slice (some ⟨w.heap.size, 0, none⟩) (n + s.size) (grownCap w (n + s.size) old e)) (n + s.size) (xs ++ strCells s) ∧
      w.grownBy (w.drew.alloc (.cells (xs.toArray ++ (strCells s).toArray ++ Builtin.zeroCells (Value.int .u8 0).cells (grownCap w (n + s.size) old e - (n + s.size))) e)) row := by
    intro old ho row
    have hge := grownCap_ge w (n + s.size) old e
    have hcm : grownCap w (n + s.size) old e ≤ maxLen := grownCap_le_maxLen w (n + s.size) old e h63
    refine ⟨⟨hlen, .inr ⟨w.heap.size, _, _, rfl, hbase, heap_alloc_new w.drew _, hge, hcm, ?_, ?_⟩⟩, ⟨rfl, rfl, rfl, by simp, fun k hk _ => Lib.alloc_old w.drew _ k hk⟩⟩
    · have hz1 : (Value.int IntKind.u8 0).cells.size = 1 := rfl
      simp only [Array.size_append, List.size_toArray, size_zeroCells, hz1, hxl, strCells_length]
      omega
    · simp only [Array.toList_append, List.append_assoc]
      rw [← List.append_assoc, ← hlen]
      exact List.take_left
  rcases hown.2 with ⟨rfl, rfl⟩ | ⟨g, cap, cur, rfl, hbg, hg, hnc, hcm, hcs, htake⟩
  · have hx : xs = [] := List.eq_nil_of_length_eq_zero hxl
    subst hx
    have hr := run_append_nil_string (P := P) w t u ty e i (.int .u8 0) ht hu hi hz s (by omega) (by omega) (by rw [hby]; omega)
    have hgr := grown 0 (by omega) (Value.ownBlock (.slice none 0 0))
    simp only [Nat.zero_add, List.nil_append, Array.empty_append] at hgr ⊢
    have e1 : (s.data.map fun b => Value.int .u8 b.toNat) = (strCells s).toArray := by
      apply Array.ext'
      simp [strCells]
    rw [e1] at hr
    exact ⟨_, _, hr, hgr.1, hgr.2, .inr rfl⟩
  · by_cases hroom : n + s.size ≤ cap
    · have hcs' : cur.size = cap := by simpa using hcs
      have hr := run_append_room_string (P := P) w t u ty e i ht hu hi hsize g n cap cur hg s hroom (by omega)
      refine ⟨_, _, hr, ⟨hlen, .inr ⟨g, cap, _, rfl, hbg, setRow_heap w g cur _ e _ hg, hroom, hcm, ?_, ?_⟩⟩, ⟨rfl, rfl, rfl, by simp, fun k _ hk => Go.setRow_other w g k _ (fun e => hk (by simp [Value.ownBlock, e]))⟩, .inl ⟨rfl, by simp [World.setRow]⟩⟩
      · simp only [List.size_toArray, List.length_append, List.length_take, List.length_drop, Array.length_toList, strCells_length]
        omega
      · have ht' : cur.toList.take n = xs := by simpa using htake
        rw [ht', ← hlen]
        exact List.take_left
    · have holds : ∀ j u, xs[j]? = some u → w.cell? ((⟨g, 0, none⟩ : Addr).add j) = some u := hown.cells (g := g) rfl
      have hr := run_append_grow_string (P := P) w t u ty e i (.int .u8 0) ht hu hi hz ⟨g, 0, none⟩ n cap xs (by rw [hsize]; simpa using hxl) holds s (by omega) (by omega) (by rw [hby]; exact growslice_fits (by omega) (by omega))
      have hgr := grown cap (by omega) (Value.ownBlock (.slice (some ⟨g, 0, none⟩) n cap))
      exact ⟨_, _, hr, hgr.1, hgr.2, .inr rfl⟩

theorem wpList_append_own2 {ops : Array Oper} {rest : List Oper} {o : Oper} {a : Act} {Q : Exit → Act → World → Prop} (hgd : o.guard = none) (sl x : Operand) (t u : TypeId)
    (ho : o.op = .call { callee := .builtin .append, args := #[sl, x], argTypes := #[t, u] })
    (base : Nat) (e : TypeId) (i : TypeInfo) (ht : P.underlying t = some (.slice e)) (hu : P.underlying u = some .string) (hi : P.info? e = some i) (hz : i.zero = some (.int .u8 0))
    (hsize : i.size = 1) (hby : i.bytes = 1)
    (v : Value) (n : Nat) (xs : List Value) (hs : a.eval sl = v) (hown : w.ownsRow base e 1 v n xs) (s : ByteArray) (hx : a.eval x = .string s) (hs0 : s.size ≠ 0)
    (h63 : n + s.size ≤ maxLen) (hbytes : n + s.size ≤ 140737488355328) (hbase : base ≤ w.heap.size)
    (h : ∀ v' w', w'.ownsRow base e 1 v' (n + s.size) (xs ++ strCells s) → w.grownBy w' v.ownBlock → ((v'.ownBlock = v.ownBlock ∧ w'.heap.size = w.heap.size) ∨ v'.ownBlock = some w.heap.size) → wpList P ops Q rest (a.put o.dst v') w') : wpList P ops Q (o :: rest) a w := by
  refine wpList_plain hgd fun K hK => ?_
  obtain ⟨v', w', hr, h2, h3, h4⟩ := append_own2 (P := P) w base t u o.type e i ht hu hi hz hsize hby v n xs hown s hs0 h63 hbytes hbase
  unfold Oper.wp execOp
  simp only [ho, resolve, invoke, builtin, Sem.run_bind, Sem.run_pure, Result.andThen_ok, List.map_toArray, List.map_cons, List.map_nil, hs, hx, hr]
  exact hK _ _ (h v' w' h2 h3 h4)
end

section
variable {P : Program} {ρ : Ren}
set_option maxHeartbeats 2000000 in
set_option maxRecDepth 100000 in
theorem Turns.freeze {a w : World} {S : Nat → Prop} (h : Turns a w S) {p : Addr} (hp : S p.block) (n : Nat) : Turns a (w.freeze p n) S := by
  refine h.trans ?_
  unfold World.freeze
  split
  · exact Turns.refl w S
  · exact ⟨rfl, rfl, rfl, by simp, fun k hk hs => by
      simp only [Array.getElem?_modify]
      rw [if_neg (fun e => hs (by rw [← e]; exact hp))]⟩
theorem Turns.drew {a w : World} {S : Nat → Prop} (h : Turns a w S) : Turns a w.drew S := ⟨h.os, h.tape, h.output, h.size, h.block⟩

set_option maxHeartbeats 2000000 in
set_option maxRecDepth 100000 in
end
end Go.Abs

set_option linter.unusedVariables false
set_option linter.unusedSimpArgs false
namespace Go.Abs
open Go.RowKit

section
variable {m : Emb} {h : Heap} {base : Nat} {w0 w w' : World}
theorem HR.turnFree (k : HR m h base w0 w) {S : Nat → Prop} (ht : Turns w w' S) (hS : ∀ g, S g → base ≤ g) (hfree : ∀ (i : Nat) (o : AObj) (e : Ent), h[i]? = some o → o.rw = true → m i = some e → ¬ S e.g) : HR m h base w0 w' := by
  refine ⟨k.below.trans ⟨ht.os, ht.tape, ht.output, ht.size, fun i hi => ht.block i (Nat.lt_of_lt_of_le hi k.size) fun hs => by have := hS i hs; omega⟩, Nat.le_trans k.size ht.size, fun b o hb => ?_, fun b e he => ⟨Nat.lt_of_lt_of_le (k.lt b e he).1 ht.size, (k.lt b e he).2⟩, k.uniq⟩
  by_cases hd : o = .dead
  · subst hd; trivial
  · refine (k.obj b o hb).mono (Emb.le.refl m) fun e he => ht.block _ (k.lt b e he).1 fun hs => ?_
    by_cases hr : o.rw = true
    · exact hfree b o e hb hr he hs
    · cases o with
      | dead => exact absurd rfl hd
      | map _ => exact absurd rfl hr
      | iter _ _ => exact absurd rfl hr
      | bld _ _ _ => exact absurd rfl hr
      | arr c es ro =>
        have hro : ro = true := by simpa [AObj.rw] using hr
        obtain ⟨e', he', _, cc, t, fr, _, _, _, _, _, h7⟩ := k.obj b _ hb
        rw [he] at he'
        cases he'
        have := h7 hro
        have := hS _ hs
        omega

theorem HR.revive (k : HR m h base w0 w) {b : Nat} {e : Ent} {o' : AObj} (hb : b < h.length) (he : m b = some e) (hfree : ∀ (i : Nat) (o : AObj) (ei : Ent), i ≠ b → h[i]? = some o → o.rw = true → m i = some ei → ei.g ≠ e.g) (ho : ORel m base b w o') : HR m (h.set b o') base w0 w := by
  refine ⟨k.below, k.size, fun x ox hx => ?_, fun x ex hm => ?_, fun b1 b2 o1 o2 e1 e2 h1 h2 r1 r2 m1 m2 hne => ?_⟩
  · rw [List.getElem?_set] at hx
    by_cases hxb : b = x
    · subst hxb
      simp [hb] at hx
      subst hx
      exact ho
    · simp [hxb] at hx
      exact k.obj x ox hx
  · have := k.lt x ex hm
    simp; exact this
  · rw [List.getElem?_set] at h1 h2
    by_cases c1 : b = b1
    · subst c1
      rw [he] at m1
      cases m1
      rw [if_neg hne] at h2
      exact (hfree b2 o2 e2 (Ne.symm hne) h2 r2 m2).symm
    · rw [if_neg c1] at h1
      by_cases c2 : b = b2
      · subst c2
        rw [he] at m2
        cases m2
        exact hfree b1 o1 e1 hne h1 r1 m1
      · rw [if_neg c2] at h2
        exact k.uniq b1 b2 o1 o2 e1 e2 h1 h2 r1 r2 m1 m2 hne
end

def BufIs (h : Heap) (U : Nat) (x : AV) (s : List UInt8) : Prop := (x = .nilslice ∧ s = []) ∨ ∃ (r : Nat) (y : AV), x = .slice r 0 s.length ∧ h[r]? = some (.bld (2 * U + 1) y s)
def killB (h : Heap) : AV → Heap
  | .slice r _ _ => h.set r .dead
  | _ => h
def strB (U : Nat) (s : List UInt8) : AObj := .bld (2 * U + 1) .undef s

structure BldN where
  T : Nat
  U : Nat
  fw : Nat
  fs : Nat

def bldPrim (N : BldN) (f : Nat) (args : List AV) (h : Heap) (Q : AV → Heap → Prop) : Prop :=
  (f = N.fw ∧ ∃ (b : Nat) (y : List UInt8) (x : AV) (s0 s : List UInt8), args = [.ptr b 0, .str y] ∧ y ≠ [] ∧ h[b]? = some (.bld (2 * N.T) x s0) ∧ BufIs h N.U x s ∧ s.length + y.length ≤ 140737488355328 ∧
    Q (.tuple [.int .i64 (y.length : Int), .niliface]) ((killB h x).set b (.bld (2 * N.T) (.slice h.length 0 (s.length + y.length)) []) ++ [strB N.U (s ++ y)])) ∨
  (f = N.fs ∧ ∃ (b : Nat) (x : AV) (s0 s : List UInt8), args = [.ptr b 0] ∧ s ≠ [] ∧ h[b]? = some (.bld (2 * N.T) x s0) ∧ BufIs h N.U x s ∧ Q (.str s) (killB h x))

structure BldOK (P : Program) (N : BldN) : Prop where
  ne : N.T ≠ N.U
  fnw : IsFn P N.fw
  fns : IsFn P N.fs
  write : ∀ (b : Nat) (p v : Value) (xs : List Value) (s : ByteArray) (w : World), s.size ≠ 0 → w.heap[b]? = some (.cells #[p, v] N.T (0, 0)) → (p = .pointer none ∨ p = .pointer (some ⟨b, 0, none⟩)) →
    w.ownsRow 0 N.U 1 v xs.length xs → xs.length + s.size ≤ 140737488355328 →
    Calls P N.fw #[.pointer (some ⟨b, 0, none⟩), .string s] w fun e w' => e = .returned (.tuple #[.int .i64 s.size, .nilIface]) ∧ ∃ v', w'.heap[b]? = some (.cells #[.pointer (some ⟨b, 0, none⟩), v'] N.T (0, 0)) ∧
      w'.ownsRow 0 N.U 1 v' (xs.length + s.size) (xs ++ Lib.strCells s) ∧ ((v'.ownBlock = v.ownBlock ∧ w'.heap.size = w.heap.size) ∨ v'.ownBlock = some w.heap.size) ∧ Turns w w' fun k => k = b ∨ v.ownBlock = some k
  string : ∀ (b : Nat) (p v : Value) (l : List UInt8) (w : World), l ≠ [] → w.heap[b]? = some (.cells #[p, v] N.T (0, 0)) → w.ownsRow 0 N.U 1 v l.length (Lib.byteCells l) →
    Calls P N.fs #[.pointer (some ⟨b, 0, none⟩)] w fun e w' => e = .returned (.string ⟨l.toArray⟩) ∧ Turns w w' (fun k => v.ownBlock = some k)

section
variable {P : Program} {m : Emb} {h : Heap} {base : Nat} {w0 w : World}
theorem bld_struct (k : HR m h base w0 w) {b T : Nat} {x : AV} {s0 : List UInt8} (hb : h[b]? = some (.bld (2 * T) x s0)) : ∃ e p v, m b = some e ∧ base ≤ e.g ∧ e.off = 0 ∧ w.heap[e.g]? = some (.cells #[p, v] T (0, 0)) ∧ (p = .pointer none ∨ p = .pointer (some ⟨e.g, 0, none⟩)) ∧ BufR m x v := by
  obtain ⟨e, he, h0, h1, cc, h2, h3, _⟩ := k.obj b _ hb
  obtain ⟨p, v, rfl, h4, h5⟩ := h3 (by omega)
  rw [show 2 * T / 2 = T by omega] at h2
  exact ⟨e, p, v, he, h0, h1, h2, h4, h5⟩
theorem bld_bytes (k : HR m h base w0 w) {r U : Nat} {y : AV} {s : List UInt8} (hr : h[r]? = some (.bld (2 * U + 1) y s)) : ∃ e cc, m r = some e ∧ base ≤ e.g ∧ e.off = 0 ∧ w.heap[e.g]? = some (.cells cc U (0, 0)) ∧ cc.size = e.sz ∧ s.length ≤ cc.size ∧ cc.toList.take s.length = Lib.byteCells s := by
  obtain ⟨e, he, h0, h1, cc, h2, _, h4⟩ := k.obj r _ hr
  obtain ⟨h5, h6, h7⟩ := h4 (by omega)
  rw [show (2 * U + 1) / 2 = U by omega] at h2
  exact ⟨e, cc, he, h0, h1, h2, h5, h6, h7⟩
theorem buf_owns (k : HR m h base w0 w) {U : Nat} {x : AV} {s : List UInt8} {v : Value} (hx : BufIs h U x s) (hv : BufR m x v) : w.ownsRow 0 U 1 v s.length (Lib.byteCells s) ∧ ((v = .slice none 0 0 ∧ x = .nilslice) ∨ ∃ (r : Nat) (y : AV) (er : Ent), x = .slice r 0 s.length ∧ h[r]? = some (.bld (2 * U + 1) y s) ∧ m r = some er ∧ base ≤ er.g ∧ v.ownBlock = some er.g) := by
  rcases hx with ⟨rfl, rfl⟩ | ⟨r, y, rfl, hr⟩
  · rcases hv with ⟨_, rfl⟩ | ⟨r, n, er, h1, _⟩
    · exact ⟨⟨by simp [Lib.byteCells], .inl ⟨rfl, rfl⟩⟩, .inl ⟨rfl, rfl⟩⟩
    · cases h1
  · rcases hv with ⟨h1, _⟩ | ⟨r', n, er, h1, h2, h3, h4, h5, rfl⟩
    · cases h1
    · cases h1
      obtain ⟨e, cc, he, g1, g2, g3, g4, g5, g6⟩ := bld_bytes k hr
      rw [h2] at he
      cases he
      exact ⟨⟨by simp [Lib.byteCells], .inr ⟨er.g, er.sz, cc, rfl, Nat.zero_le _, g3, h4, h5, by omega, by rw [Nat.mul_one]; exact g6⟩⟩, .inr ⟨r, y, er, rfl, hr, h2, g1, rfl⟩⟩

theorem killB_hr (k : HR m h base w0 w) (x : AV) : HR m (killB h x) base w0 w := by
  cases x <;> first | exact k | exact k.kill _
theorem killB_length (h : Heap) (x : AV) : (killB h x).length = h.length := by
  cases x <;> simp [killB]

theorem good_string {out : Prop} {N : BldN} (hN : BldOK P N) {b : Nat} {x : AV} {s0 s : List UInt8} {Q : AV → Heap → Prop} (hs : s ≠ []) (hb : h[b]? = some (.bld (2 * N.T) x s0)) (hx : BufIs h N.U x s) (hQ : Q (.str s) (killB h x)) : Good P base w0 out (.call N.fs [.ptr b 0] Q) h := by
  intro m w cargs ha hk O a next Q' hnext hlet
  obtain ⟨fn, c, f1, f2, f3⟩ := hN.fns
  rw [callFunc_run f1 f2 f3, Oper.upon_enter]
  obtain ⟨e, p, v, he, h0, h1, h2, h3, h4⟩ := bld_struct hk hb
  obtain ⟨hown, hcase⟩ := buf_owns hk hx h4
  simp only [VRs, VR] at ha
  obtain ⟨c1, cs, e1, ⟨e', he', rfl⟩, rfl⟩ := ha
  rw [he] at he'
  cases he'
  have : cargs = #[.pointer (some ⟨e.g, 0, none⟩)] := by
    apply Array.ext'
    rw [e1, h1]
  subst this
  refine (hN.string e.g p v s w hs h2 hown).mono ?_
  rintro e' w' ⟨rfl, ht⟩
  refine hnext (.str s) _ m (.string ⟨s.toArray⟩) w' hQ (Emb.le.refl m) (by simp only [VR]) ?_
  rcases hcase with ⟨rfl, rfl⟩ | ⟨r, y, er, rfl, hr, hm, hbase, hob⟩
  · exact hk.turnFree ht (fun g hg => by simp [Value.ownBlock] at hg) fun i o e _ _ _ hg => by simp [Value.ownBlock] at hg
  · refine (hk.kill r).turnFree ht (fun g hg => ?_) fun i o ei hi hr' hmi hg => ?_
    · rw [hob] at hg
      cases hg
      exact hbase
    · rw [hob] at hg
      injection hg with hg
      rw [List.getElem?_set] at hi
      split at hi
      · split at hi
        · cases hi; cases hr'
        · cases hi
      · rename_i hne
        exact hk.uniq i r o _ ei er hi hr hr' rfl hmi hm (Ne.symm hne) hg.symm

theorem good_write {out : Prop} {N : BldN} (hN : BldOK P N) {b : Nat} {x : AV} {y s0 s : List UInt8} {Q : AV → Heap → Prop} (hy : y ≠ []) (hb : h[b]? = some (.bld (2 * N.T) x s0)) (hx : BufIs h N.U x s) (hlen : s.length + y.length ≤ 140737488355328)
    (hQ : Q (.tuple [.int .i64 (y.length : Int), .niliface]) ((killB h x).set b (.bld (2 * N.T) (.slice h.length 0 (s.length + y.length)) []) ++ [strB N.U (s ++ y)])) : Good P base w0 out (.call N.fw [.ptr b 0, .str y] Q) h := by
  intro m w cargs ha hk O a next Q' hnext hlet
  obtain ⟨fn, c, f1, f2, f3⟩ := hN.fnw
  rw [callFunc_run f1 f2 f3, Oper.upon_enter]
  obtain ⟨e, p, v, he, h0, h1, h2, h3, h4⟩ := bld_struct hk hb
  obtain ⟨hown, hcase⟩ := buf_owns hk hx h4
  simp only [VRs, VR] at ha
  obtain ⟨c1, cs, e1, ⟨e', he', rfl⟩, c2, cs2, rfl, rfl, rfl⟩ := ha
  rw [he] at he'
  cases he'
  have : cargs = #[.pointer (some ⟨e.g, 0, none⟩), .string ⟨y.toArray⟩] := by
    apply Array.ext'
    rw [e1, h1]
  subst this
  have hys : (⟨y.toArray⟩ : ByteArray).size = y.length := size_ba y
  have hy0 : y.length ≠ 0 := by simpa using hy
  have hbl : b < h.length := (hk.lt b e he).2
  have hxl : (Lib.byteCells s).length = s.length := by simp [Lib.byteCells]
  rw [← hxl] at hown
  refine (hN.write e.g p v (Lib.byteCells s) ⟨y.toArray⟩ w (by rw [hys]; exact hy0) h2 h3 hown (by rw [hxl, hys]; exact hlen)).mono ?_
  rintro e' w' ⟨rfl, v', g1, g2, g3, g4⟩
  rw [hxl, hys] at g2
  have hcells : Lib.byteCells s ++ Lib.strCells ⟨y.toArray⟩ = Lib.byteCells (s ++ y) := by simp [Lib.byteCells, Lib.strCells]
  rw [hcells] at g2
  -- the new buffer
  obtain ⟨g, cap, cur, rfl, _, q1, q2, q3, q4, q5⟩ : ∃ g cap cur, v' = .slice (some ⟨g, 0, none⟩) (s.length + y.length) cap ∧ 0 ≤ g ∧ w'.heap[g]? = some (.cells cur N.U (0, 0)) ∧ s.length + y.length ≤ cap ∧ cap ≤ maxLen ∧ cur.size = cap * 1 ∧ cur.toList.take ((s.length + y.length) * 1) = Lib.byteCells (s ++ y) := by
    rcases g2.2 with ⟨_, hz⟩ | hz
    · omega
    · exact hz
  rw [Nat.mul_one] at q4 q5
  have hgl : g < w'.heap.size := (Array.getElem?_eq_some_iff.1 q1).1
  -- what lives, but for the Builder and its elder buffer
  have live : ∀ (i : Nat) (o : AObj) (ei : Ent), ((killB h x).set b .dead)[i]? = some o → o.rw = true → m i = some ei → i ≠ b ∧ h[i]? = some o ∧ ei.g ≠ e.g ∧ v.ownBlock ≠ some ei.g := by
    intro i o ei hi hr hmi
    rw [List.getElem?_set] at hi
    by_cases hib : b = i
    · rw [if_pos hib] at hi
      split at hi
      · cases hi; cases hr
      · cases hi
    · rw [if_neg hib] at hi
      have hold : h[i]? = some o ∧ v.ownBlock ≠ some ei.g := by
        rcases hcase with ⟨rfl, rfl⟩ | ⟨r, z, er, rfl, hr2, hm2, hbase, hob⟩
        · exact ⟨hi, by simp [Value.ownBlock]⟩
        · simp only [killB] at hi
          rw [List.getElem?_set] at hi
          by_cases hir : r = i
          · rw [if_pos hir] at hi
            split at hi
            · cases hi; cases hr
            · cases hi
          · rw [if_neg hir] at hi
            refine ⟨hi, fun hc => ?_⟩
            rw [hob] at hc
            injection hc with hc
            exact hk.uniq i r o _ ei er hi hr2 hr rfl hmi hm2 (Ne.symm hir) hc.symm
      exact ⟨Ne.symm hib, hold.1, hk.uniq i b o _ ei e hold.1 hb hr rfl hmi he (Ne.symm hib), hold.2⟩
  have hvb : ∀ q, v.ownBlock = some q → base ≤ q := by
    intro q hq
    rcases hcase with ⟨rfl, _⟩ | ⟨r, z, er, _, _, _, hbase, hob⟩
    · simp [Value.ownBlock] at hq
    · rw [hob] at hq; cases hq; exact hbase
  have k1 : HR m ((killB h x).set b .dead) base w0 w' := by
    refine ((killB_hr hk x).kill b).turnFree g4 (fun q hq => ?_) fun i o ei hi hr hmi hq => ?_
    · rcases hq with rfl | hq
      · exact h0
      · exact hvb q hq
    · obtain ⟨_, _, n1, n2⟩ := live i o ei hi hr hmi
      rcases hq with hq | hq
      · exact n1 hq
      · exact n2 hq
  have hge : base ≤ g := by
    rcases g3 with ⟨h5, _⟩ | h5
    · exact hvb g (by rw [← h5]; rfl)
    · simp only [Value.ownBlock, Option.some.injEq] at h5
      have := hk.size
      omega
  have hgne : ∀ (i : Nat) (o : AObj) (ei : Ent), ((killB h x).set b .dead)[i]? = some o → o.rw = true → m i = some ei → ei.g ≠ g := by
    intro i o ei hi hr hmi hc
    obtain ⟨_, _, n1, n2⟩ := live i o ei hi hr hmi
    rcases g3 with ⟨h5, _⟩ | h5
    · exact n2 (by rw [← h5, hc]; rfl)
    · simp only [Value.ownBlock, Option.some.injEq] at h5
      have := (hk.lt i ei hmi).1
      omega
  have hlen2 : ((killB h x).set b .dead).length = h.length := by rw [List.length_set, killB_length]
  have hmn : m h.length = none := hk.none_of_len
  have hle : m.le (m.upd h.length ⟨g, 0, cap, 1⟩) := Emb.le_upd hmn
  have k2 : HR (m.upd h.length ⟨g, 0, cap, 1⟩) ((killB h x).set b .dead ++ [strB N.U (s ++ y)]) base w0 w' := by
    have := k1.adopt (w' := w') (strB N.U (s ++ y)) g 0 cap 1 hgne hge hgl rfl rfl rfl rfl (fun _ _ => rfl)
    rw [hlen2] at this
    refine this ⟨_, Emb.upd_same _ _ _, hge, rfl, cur, by rw [show (2 * N.U + 1) / 2 = N.U by omega]; exact q1, fun hq => by omega, fun _ => ⟨q4, by rw [q4, List.length_append]; exact q2, ?_⟩⟩
    rw [List.length_append]
    exact q5
  have hbe : b ≠ h.length := by omega
  have he2 : (m.upd h.length ⟨g, 0, cap, 1⟩) b = some e := by rw [Emb.upd_ne _ _ hbe]; exact he
  have hgeb : e.g ≠ g := by
    rcases g3 with ⟨h5, _⟩ | h5
    · intro hc
      rw [← hc] at q1
      rw [g1] at q1
      simp only [Option.some.injEq, Obj.cells.injEq] at q1
      exact hN.ne q1.2.1
    · simp only [Value.ownBlock, Option.some.injEq] at h5
      have := (hk.lt b e he).1
      omega
  have k3 : HR (m.upd h.length ⟨g, 0, cap, 1⟩) (((killB h x).set b .dead ++ [strB N.U (s ++ y)]).set b (.bld (2 * N.T) (.slice h.length 0 (s.length + y.length)) [])) base w0 w' := by
    refine k2.revive (by simp [killB_length]; omega) he2 (fun i o ei hib hi hr hmi => ?_) ?_
    · by_cases hin : i = h.length
      · subst hin
        rw [Emb.upd_same] at hmi
        cases hmi
        exact fun hc => hgeb hc.symm
      · rw [Emb.upd_ne _ _ hin] at hmi
        rw [List.getElem?_append_left (by rw [hlen2]; exact (hk.lt i ei hmi).2)] at hi
        exact (live i o ei hi hr hmi).2.2.1
    · refine ⟨e, he2, h0, h1, _, by rw [show 2 * N.T / 2 = N.T by omega]; exact g1, fun _ => ⟨_, _, rfl, .inr rfl, .inr ⟨h.length, _, _, rfl, Emb.upd_same _ _ _, rfl, q2, q3, rfl⟩⟩, fun hq => by omega⟩
  refine hnext (.tuple [.int .i64 (y.length : Int), .niliface]) _ _ (.tuple #[.int .i64 (y.length : Int), .nilIface]) w' hQ hle ?_ ?_
  · simp only [VR]
    exact ⟨_, rfl, by simp only [VRs, VR]; exact ⟨_, _, rfl, rfl, _, _, rfl, rfl, rfl⟩⟩
  · have e3 : ((killB h x).set b .dead ++ [strB N.U (s ++ y)]).set b (.bld (2 * N.T) (.slice h.length 0 (s.length + y.length)) []) = (killB h x).set b (.bld (2 * N.T) (.slice h.length 0 (s.length + y.length)) []) ++ [strB N.U (s ++ y)] := by
      rw [List.set_append_left _ _ (by rw [hlen2]; exact hbl), List.set_set]
    rw [e3] at k3
    exact k3
end

def withB (M : Model) (N : BldN) : Model := ⟨M.fn, fun f args h Q => M.prim f args h Q ∨ bldPrim N f args h Q⟩
theorem fits_bld {P : Program} {base : Nat} {w0 : World} {out : Prop} {M : Model} {N : BldN} (hM : Fits P base w0 out M) (hN : BldOK P N) : Fits P base w0 out (withB M N) where
  mixed := hM.mixed
  fn := hM.fn
  prim := fun f args h Q hp => by
    rcases hp with hp | ⟨rfl, b, y, x, s0, s, rfl, hy, hb, hx, hl, hQ⟩ | ⟨rfl, b, x, s0, s, rfl, hs, hb, hx, hQ⟩
    · exact hM.prim f args h Q hp
    · exact good_write hN hy hb hx hl hQ
    · exact good_string hN hs hb hx hQ
  ops := hM.ops
end Go.Abs

