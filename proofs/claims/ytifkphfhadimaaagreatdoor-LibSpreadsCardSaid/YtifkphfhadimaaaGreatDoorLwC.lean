/- Layer 16: the rows of both tables as plain data, and what the two finders give at a structure's name; the law LibTakes. -/
import Derived.Test.YtifkphfhadimaaaGreatDoorLwB
set_option linter.unusedVariables false
set_option linter.unusedSimpArgs false
set_option maxRecDepth 100000
namespace Go.Proofs.YtifkphfhadimaaaGreatDoor.Mini
open Go.Abs

structure LRow where
  rule : Int
  calls : List (List UInt8 × Int × Int)
  lo : Int
  hi : Int
  safe : Bool
  strict : Bool
  point : Bool
def lrows : List LRow := [⟨1, [([112, 117, 115, 104], 1, 4), ([112, 111, 112], 0, 4)], 0, 900, true, true, true⟩,
  ⟨1, [([112, 117, 115, 104], 1, 4), ([112, 111, 112], 0, 4)], 0, 900, true, true, false⟩,
  ⟨2, [([101, 110, 113], 1, 4), ([100, 101, 113], 0, 4)], 0, 900, true, true, true⟩,
  ⟨3, [([101, 110, 113], 1, 4), ([100, 101, 113], 0, 4)], 0, 900, true, true, true⟩,
  ⟨4, [([112, 117, 115, 104], 1, 1), ([112, 111, 112], 0, 1), ([115, 116, 101, 97, 108], 0, 4)], 0, 900, true, true, false⟩,
  ⟨5, [([112, 117, 116], 1, 4), ([116, 97, 107, 101], 0, 4)], 0, 900, true, true, true⟩,
  ⟨6, [([112, 117, 116], 1, 4), ([103, 101, 116], 0, 4)], 0, 900, true, true, true⟩,
  ⟨7, [([97, 100, 100], 1, 4), ([114, 101, 109], 1, 4), ([104, 97, 115], 1, 4)], 0, 900, true, true, true⟩,
  ⟨7, [([97, 100, 100], 1, 4), ([114, 101, 109], 1, 4), ([104, 97, 115], 1, 4)], 0, 900, true, false, true⟩,
  ⟨7, [([97, 100, 100], 1, 4), ([114, 101, 109], 1, 4), ([104, 97, 115], 1, 4)], 0, 900, true, false, true⟩,
  ⟨8, [([97, 100, 100], 1, 4), ([114, 101, 109], 1, 4), ([104, 97, 115], 1, 4), ([97, 108, 108], 0, 4)], 0, 15, true, true, true⟩,
  ⟨7, [([97, 100, 100], 1, 4), ([114, 101, 109], 1, 4), ([104, 97, 115], 1, 4)], 0, 15, true, false, true⟩,
  ⟨9, [([110, 101, 120, 116], 1, 4)], 0, 900, true, true, false⟩,
  ⟨10, [([119, 114, 105, 116, 101], 1, 4), ([114, 101, 97, 100], 0, 4)], 0, 900, true, true, true⟩,
  ⟨11, [([117, 112, 100, 97, 116, 101], 1, 2), ([115, 99, 97, 110], 0, 4)], 0, 900, true, true, true⟩,
  ⟨12, [([117, 110, 105, 116, 101], 2, 4), ([115, 97, 109, 101], 2, 4)], 0, 7, true, true, true⟩,
  ⟨13, [([112, 117, 116], 1, 4), ([109, 111, 118, 101], 1, 4), ([98, 111, 116, 104], 0, 4)], 0, 99, true, true, false⟩,
  ⟨14, [([97, 100, 100], 1, 3), ([103, 101, 116], 0, 4)], 1, 99, true, true, false⟩,
  ⟨15, [([112, 117, 116, 97], 1, 4), ([112, 117, 116, 98], 1, 4), ([103, 101, 116, 97], 0, 4), ([103, 101, 116, 98], 0, 4), ([109, 111, 118, 101], 0, 4)], 0, 900, true, true, true⟩,
  ⟨16, [([97, 100, 100], 1, 4), ([103, 101, 116], 0, 4)], (-900), 900, true, true, true⟩,
  ⟨1, [([112, 117, 115, 104], 1, 4), ([112, 111, 112], 0, 4)], 0, 900, false, false, false⟩]
def lrow (k : Nat) : LRow := lrows.getD k ⟨0, [], 0, 0, false, false, false⟩
abbrev Form := List UInt8 × Int × Int
def encC (c : Form) : List AV := [.str c.1, .int .i64 c.2.1]
def encF (c : Form) : List AV := [.str c.1, .int .i64 c.2.1, .int .i64 c.2.2]

/-- A row that holds a list's elements, one behind the other. -/
noncomputable def holds (f : Form → List AV) (es : Nat) (l : List Form) (n : Nat) (r : List AObj) (b o m : Nat) : Bool := match ratF n r b with
  | some (.arr c _ _) => Nat.beq m l.length && AV.sames (l.flatMap f) (takeN (dropN c o) (m * es))
  | _ => false
theorem sl_of_holds {f : Form → List AV} {es : Nat} (hf : ∀ x, (f x).length = es) (hes : 0 < es) {l : List Form} {n : Nat} {r : List AObj} {b o m : Nat} (hn : r.length = n) (h : holds f es l n r b o m = true) {g : Heap} : Sl (g ++ r.reverse.map (AObj.sh g.length)) ⟨b + g.length, o, m, false⟩ es f l := by
  unfold holds at h
  rw [ratF_eq] at h
  split at h
  · rename_i c es' ro hx
    simp only [Bool.and_eq_true] at h
    obtain ⟨h1, h2⟩ := h
    have h1 := Nat.eq_of_beq_eq_true h1
    obtain ⟨h3, h4⟩ := sames_eq _ _ h2
    rw [takeN_eq, dropN_eq] at h3
    refine ⟨h1, fun i x hi => ?_⟩
    obtain ⟨g1, g2⟩ := flatMap_get hf hi
    have hl : (l.flatMap f).length = m * es := by rw [flatMap_len hf, h1]
    have hlen : m * es ≤ c.length - o := by
      have := congrArg List.length h3
      rw [hl, List.length_take, List.length_drop] at this
      omega
    have hpos : 0 < m * es := by omega
    have hrow := rowEv_at (g := g) hn hx
    simp only [rdCells, hrow, List.length_map]
    rw [if_pos (by omega)]
    congr 1
    rw [← List.map_drop, ← List.map_take]
    have e : (c.drop (o + i * es)).take es = f x := by
      rw [← g2, h3, List.drop_take, List.drop_drop, List.take_take]
      congr 1
      omega
    rw [e]
    have : AV.flats (f x) = true := by
      have hmem : ∀ (l : List AV), AV.flats l = true → ∀ v ∈ l, v.flat = true := by
        intro l
        induction l with
        | nil => intro _ v hv; cases hv
        | cons y l ih =>
          intro hf v hv
          simp only [AV.flats, Bool.and_eq_true] at hf
          rcases List.mem_cons.1 hv with rfl | hv
          · exact hf.1
          · exact ih hf.2 v hv
      have back : ∀ (l : List AV), (∀ v ∈ l, v.flat = true) → AV.flats l = true := by
        intro l
        induction l with
        | nil => intro _; simp only [AV.flats]
        | cons y l ih => intro hf; simp only [AV.flats, hf y List.mem_cons_self, ih fun v hv => hf v (List.mem_cons_of_mem _ hv), Bool.and_self]
      exact back _ fun v hv => hmem _ h4 v (List.mem_flatMap.2 ⟨x, List.mem_of_getElem? hi, hv⟩)
    exact flats_shs this
  · cases h

noncomputable def evChk (E : EMod) (f : Nat) (args : List AV) (chk : AV → Nat → List AObj → Bool) : Bool := match evF E 100000 (.call f args) 0 0 [] with
  | some (.val v n r) => chk v n r
  | _ => false
theorem callE_chk {M : Model} {E : EMod} (hE : EOK M E) {f : Nat} {args : List AV} (ha : AV.flats args = true) {chk : AV → Nat → List AObj → Bool} (h : evChk E f args chk = true) {g : Heap} {P : AV → Heap → Prop} (hP : ∀ v n r, chk v n r = true → r.length = n → P (v.sh g.length) (r.reverse.map (AObj.sh g.length))) : CallE M f args g P := by
  unfold evChk at h
  exact callE_ev hE 100000 ha h hP
theorem flat_str (s : List UInt8) : AV.flats [.str s] = true := by simp only [AV.flats, AV.flat, Bool.and_self]

noncomputable def chkF (k : Nat) (v : AV) (n : Nat) (r : List AObj) : Bool := match v with
  | .tuple [.agg [a, b, c, .slice sb so sn, d, e, f, g, i], j] => AV.sames [.str (nm k), .str (src75 k), .int .i64 (lrow k).rule, .int .i64 (lrow k).lo, .int .i64 (lrow k).hi, .bool (lrow k).safe, .bool (lrow k).strict, .bool (lrow k).point, .bool true] [a, b, c, d, e, f, g, i, j] && holds encC 2 (lrow k).calls n r sb so sn
  | _ => false
theorem find_all : ((List.range 21).all fun k => evChk E4 74 [.str (nm k)] (chkF k)) = true := by kernel_rfl
noncomputable abbrev rowE (k : Nat) (c : Slc) : AV := .agg [(.str (nm k)), (.str (src75 k)), (.int .i64 (lrow k).rule), c.av, (.int .i64 (lrow k).lo), (.int .i64 (lrow k).hi), (.bool (lrow k).safe), (.bool (lrow k).strict), (.bool (lrow k).point)]
theorem find_yes {k : Nat} (hk : k < 21) {h : Heap} {P : AV → Heap → Prop} (hP : ∀ (c : Slc) t, c.nil = false → Sl (h ++ t) c 2 encC (lrow k).calls → P (.tuple [rowE k c, .bool true]) t) : CallE K4 74 [.str (nm k)] h P := by
  refine callE_chk (f := 74) (args := [.str (nm k)]) (chk := chkF k) eok4 (flat_str _) (List.all_eq_true.1 find_all k (List.mem_range.2 hk)) fun v n r hc hn => ?_
  unfold chkF at hc
  split at hc
  · rename_i a b c sb so sn d e f g i j
    simp only [Bool.and_eq_true] at hc
    obtain ⟨h1, h2⟩ := hc
    obtain ⟨h3, _⟩ := sames_eq _ _ h1
    simp only [List.cons.injEq, and_true] at h3
    obtain ⟨rfl, rfl, rfl, rfl, rfl, rfl, rfl, rfl, rfl⟩ := h3
    have := hP ⟨sb + h.length, so, sn, false⟩ _ rfl (sl_of_holds (f := encC) (es := 2) (g := h) (fun _ => rfl) (by decide) hn h2)
    simp only [AV.sh, AV.shs]
    exact this
  · cases hc

noncomputable def chkR (k : Nat) (v : AV) (n : Nat) (r : List AObj) : Bool := match v with
  | .tuple [.agg [a, c, .slice sb so sn, d, e, g, i], j] => AV.sames [.str (nm k), .int .i64 (lrow k).rule, .int .i64 (lrow k).lo, .int .i64 (lrow k).hi, .bool (lrow k).strict, .bool (lrow k).point, .bool true] [a, c, d, e, g, i, j] && holds encF 3 (lrow k).calls n r sb so sn
  | _ => false
theorem refFind_all : ((List.range 21).all fun k => evChk E4 31 [.str (nm k)] (chkR k)) = true := by kernel_rfl
abbrev rowR16 (k : Nat) (c : Slc) : AV := .agg [(.str (nm k)), (.int .i64 (lrow k).rule), c.av, (.int .i64 (lrow k).lo), (.int .i64 (lrow k).hi), (.bool (lrow k).strict), (.bool (lrow k).point)]
theorem refFind_yes {k : Nat} (hk : k < 21) {h : Heap} {P : AV → Heap → Prop} (hP : ∀ (c : Slc) t, c.nil = false → Sl (h ++ t) c 3 encF (lrow k).calls → P (.tuple [rowR16 k c, .bool true]) t) : CallE K4 31 [.str (nm k)] h P := by
  refine callE_chk (f := 31) (args := [.str (nm k)]) (chk := chkR k) eok4 (flat_str _) (List.all_eq_true.1 refFind_all k (List.mem_range.2 hk)) fun v n r hc hn => ?_
  unfold chkR at hc
  split at hc
  · rename_i a c sb so sn d e g i j
    simp only [Bool.and_eq_true] at hc
    obtain ⟨h1, h2⟩ := hc
    obtain ⟨h3, _⟩ := sames_eq _ _ h1
    simp only [List.cons.injEq, and_true] at h3
    obtain ⟨rfl, rfl, rfl, rfl, rfl, rfl, rfl⟩ := h3
    have := hP ⟨sb + h.length, so, sn, false⟩ _ rfl (sl_of_holds (f := encF) (es := 3) (g := h) (fun _ => rfl) (by decide) hn h2)
    simp only [AV.sh, AV.shs]
    exact this
  · cases hc

/-! ### How many arguments a call takes -/
/-- The place of a call. -/
def at16 (op : List UInt8) (l : List Form) : Option Nat := l.findIdx? fun c => c.1 == op
theorem few {k : Nat} (hk : k < 21) : (lrow k).calls.length ≤ 5 := by
  have : ∀ k, k < 21 → (lrow k).calls.length ≤ 5 := by decide
  exact this k hk

theorem names_once {k : Nat} (hk : k < 21) : ((List.range (lrow k).calls.length).all fun i => at16 ((lrow k).calls.getD i ([], 0, 0)).1 (lrow k).calls == some i) = true := by
  have : ∀ k, k < 21 → ((List.range (lrow k).calls.length).all fun i => at16 ((lrow k).calls.getD i ([], 0, 0)).1 (lrow k).calls == some i) = true := by decide
  exact this k hk
end Go.Proofs.YtifkphfhadimaaaGreatDoor.Mini

