/- Layer 16: the rows of both tables as plain data, and what the two finders give at a structure's name; the law LibTakes. -/
import Derived.Test.YtifkphfhadimaaaGreatDoorLwB
set_option linter.unusedVariables false
set_option linter.unusedSimpArgs false
set_option maxRecDepth 100000
namespace Go.Proofs.YtifkphfhadimaaaGreatDoor.Mini
open Go.Abs

structure LRow where
  rule : Int
  calls : List (List UInt8 × Int × Int)
  lo : Int
  hi : Int
  safe : Bool
  strict : Bool
  point : Bool
def lrows : List LRow := [⟨1, [([112, 117, 115, 104], 1, 4), ([112, 111, 112], 0, 4)], 0, 900, true, true, true⟩,
  ⟨1, [([112, 117, 115, 104], 1, 4), ([112, 111, 112], 0, 4)], 0, 900, true, true, false⟩,
  ⟨2, [([101, 110, 113], 1, 4), ([100, 101, 113], 0, 4)], 0, 900, true, true, true⟩,
  ⟨3, [([101, 110, 113], 1, 4), ([100, 101, 113], 0, 4)], 0, 900, true, true, true⟩,
  ⟨4, [([112, 117, 115, 104], 1, 1), ([112, 111, 112], 0, 1), ([115, 116, 101, 97, 108], 0, 4)], 0, 900, true, true, false⟩,
  ⟨5, [([112, 117, 116], 1, 4), ([116, 97, 107, 101], 0, 4)], 0, 900, true, true, true⟩,
  ⟨6, [([112, 117, 116], 1, 4), ([103, 101, 116], 0, 4)], 0, 900, true, true, true⟩,
  ⟨7, [([97, 100, 100], 1, 4), ([114, 101, 109], 1, 4), ([104, 97, 115], 1, 4)], 0, 900, true, true, true⟩,
  ⟨7, [([97, 100, 100], 1, 4), ([114, 101, 109], 1, 4), ([104, 97, 115], 1, 4)], 0, 900, true, false, true⟩,
  ⟨7, [([97, 100, 100], 1, 4), ([114, 101, 109], 1, 4), ([104, 97, 115], 1, 4)], 0, 900, true, false, true⟩,
  ⟨8, [([97, 100, 100], 1, 4), ([114, 101, 109], 1, 4), ([104, 97, 115], 1, 4), ([97, 108, 108], 0, 4)], 0, 15, true, true, true⟩,
  ⟨7, [([97, 100, 100], 1, 4), ([114, 101, 109], 1, 4), ([104, 97, 115], 1, 4)], 0, 15, true, false, true⟩,
  ⟨9, [([110, 101, 120, 116], 1, 4)], 0, 900, true, true, false⟩,
  ⟨10, [([119, 114, 105, 116, 101], 1, 4), ([114, 101, 97, 100], 0, 4)], 0, 900, true, true, true⟩,
  ⟨11, [([117, 112, 100, 97, 116, 101], 1, 2), ([115, 99, 97, 110], 0, 4)], 0, 900, true, true, true⟩,
  ⟨12, [([117, 110, 105, 116, 101], 2, 4), ([115, 97, 109, 101], 2, 4)], 0, 7, true, true, true⟩,
  ⟨13, [([112, 117, 116], 1, 4), ([109, 111, 118, 101], 1, 4), ([98, 111, 116, 104], 0, 4)], 0, 99, true, true, false⟩,
  ⟨14, [([97, 100, 100], 1, 3), ([103, 101, 116], 0, 4)], 1, 99, true, true, false⟩,
  ⟨15, [([112, 117, 116, 97], 1, 4), ([112, 117, 116, 98], 1, 4), ([103, 101, 116, 97], 0, 4), ([103, 101, 116, 98], 0, 4), ([109, 111, 118, 101], 0, 4)], 0, 900, true, true, true⟩,
  ⟨16, [([97, 100, 100], 1, 4), ([103, 101, 116], 0, 4)], (-900), 900, true, true, true⟩,
  ⟨1, [([112, 117, 115, 104], 1, 4), ([112, 111, 112], 0, 4)], 0, 900, false, false, false⟩]
def lrow (k : Nat) : LRow := lrows.getD k ⟨0, [], 0, 0, false, false, false⟩
abbrev Form := List UInt8 × Int × Int
def encC (c : Form) : List AV := [.str c.1, .int .i64 c.2.1]
def encF (c : Form) : List AV := [.str c.1, .int .i64 c.2.1, .int .i64 c.2.2]

/-- A row that holds a list's elements, one behind the other. -/
noncomputable def holds (f : Form → List AV) (es : Nat) (l : List Form) (n : Nat) (r : List AObj) (b o m : Nat) : Bool := match ratF n r b with
  | some (.arr c _ _) => Nat.beq m l.length && AV.sames (l.flatMap f) (takeN (dropN c o) (m * es))
  | _ => false
theorem sl_of_holds {f : Form → List AV} {es : Nat} (hf : ∀ x, (f x).length = es) (hes : 0 < es) {l : List Form} {n : Nat} {r : List AObj} {b o m : Nat} (hn : r.length = n) (h : holds f es l n r b o m = true) {g : Heap} : Sl (g ++ r.reverse.map (AObj.sh g.length)) ⟨b + g.length, o, m, false⟩ es f l := by
  unfold holds at h
  rw [ratF_eq] at h
  split at h
  · rename_i c es' ro hx
    simp only [Bool.and_eq_true] at h
    obtain ⟨h1, h2⟩ := h
    have h1 := Nat.eq_of_beq_eq_true h1
    obtain ⟨h3, h4⟩ := sames_eq _ _ h2
    rw [takeN_eq, dropN_eq] at h3
    refine ⟨h1, fun i x hi => ?_⟩
    obtain ⟨g1, g2⟩ := flatMap_get hf hi
    have hl : (l.flatMap f).length = m * es := by rw [flatMap_len hf, h1]
    have hlen : m * es ≤ c.length - o := by
      have := congrArg List.length h3
      rw [hl, List.length_take, List.length_drop] at this
      omega
    have hpos : 0 < m * es := by omega
    have hrow := rowEv_at (g := g) hn hx
    simp only [rdCells, hrow, List.length_map]
    rw [if_pos (by omega)]
    congr 1
    rw [← List.map_drop, ← List.map_take]
    have e : (c.drop (o + i * es)).take es = f x := by
      rw [← g2, h3, List.drop_take, List.drop_drop, List.take_take]
      congr 1
      omega
    rw [e]
    have : AV.flats (f x) = true := by
      have hmem : ∀ (l : List AV), AV.flats l = true → ∀ v ∈ l, v.flat = true := by
        intro l
        induction l with
        | nil => intro _ v hv; cases hv
        | cons y l ih =>
          intro hf v hv
          simp only [AV.flats, Bool.and_eq_true] at hf
          rcases List.mem_cons.1 hv with rfl | hv
          · exact hf.1
          · exact ih hf.2 v hv
      have back : ∀ (l : List AV), (∀ v ∈ l, v.flat = true) → AV.flats l = true := by
        intro l
        induction l with
        | nil => intro _; simp only [AV.flats]
        | cons y l ih => intro hf; simp only [AV.flats, hf y List.mem_cons_self, ih fun v hv => hf v (List.mem_cons_of_mem _ hv), Bool.and_self]
      exact back _ fun v hv => hmem _ h4 v (List.mem_flatMap.2 ⟨x, List.mem_of_getElem? hi, hv⟩)
    exact flats_shs this
  · cases h

noncomputable def evChk (E : EMod) (f : Nat) (args : List AV) (chk : AV → Nat → List AObj → Bool) : Bool := match evF E 100000 (.call f args) 0 0 [] with
  | some (.val v n r) => chk v n r
  | _ => false
theorem callE_chk {M : Model} {E : EMod} (hE : EOK M E) {f : Nat} {args : List AV} (ha : AV.flats args = true) {chk : AV → Nat → List AObj → Bool} (h : evChk E f args chk = true) {g : Heap} {P : AV → Heap → Prop} (hP : ∀ v n r, chk v n r = true → r.length = n → P (v.sh g.length) (r.reverse.map (AObj.sh g.length))) : CallE M f args g P := by
  unfold evChk at h
  exact callE_ev hE 100000 ha h hP
theorem flat_str (s : List UInt8) : AV.flats [.str s] = true := by simp only [AV.flats, AV.flat, Bool.and_self]

noncomputable def chkF (k : Nat) (v : AV) (n : Nat) (r : List AObj) : Bool := match v with
  | .tuple [.agg [a, b, c, .slice sb so sn, d, e, f, g, i], j] => AV.sames [.str (nm k), .str (src75 k), .int .i64 (lrow k).rule, .int .i64 (lrow k).lo, .int .i64 (lrow k).hi, .bool (lrow k).safe, .bool (lrow k).strict, .bool (lrow k).point, .bool true] [a, b, c, d, e, f, g, i, j] && holds encC 2 (lrow k).calls n r sb so sn
  | _ => false
theorem find_all : ((List.range 21).all fun k => evChk E4 74 [.str (nm k)] (chkF k)) = true := by kernel_rfl
noncomputable abbrev rowE (k : Nat) (c : Slc) : AV := .agg [(.str (nm k)), (.str (src75 k)), (.int .i64 (lrow k).rule), c.av, (.int .i64 (lrow k).lo), (.int .i64 (lrow k).hi), (.bool (lrow k).safe), (.bool (lrow k).strict), (.bool (lrow k).point)]
theorem find_yes {k : Nat} (hk : k < 21) {h : Heap} {P : AV → Heap → Prop} (hP : ∀ (c : Slc) t, c.nil = false → Sl (h ++ t) c 2 encC (lrow k).calls → P (.tuple [rowE k c, .bool true]) t) : CallE K4 74 [.str (nm k)] h P := by
  refine callE_chk (f := 74) (args := [.str (nm k)]) (chk := chkF k) eok4 (flat_str _) (List.all_eq_true.1 find_all k (List.mem_range.2 hk)) fun v n r hc hn => ?_
  unfold chkF at hc
  split at hc
  · rename_i a b c sb so sn d e f g i j
    simp only [Bool.and_eq_true] at hc
    obtain ⟨h1, h2⟩ := hc
    obtain ⟨h3, _⟩ := sames_eq _ _ h1
    simp only [List.cons.injEq, and_true] at h3
    obtain ⟨rfl, rfl, rfl, rfl, rfl, rfl, rfl, rfl, rfl⟩ := h3
    have := hP ⟨sb + h.length, so, sn, false⟩ _ rfl (sl_of_holds (f := encC) (es := 2) (g := h) (fun _ => rfl) (by decide) hn h2)
    simp only [AV.sh, AV.shs]
    exact this
  · cases hc

noncomputable def chkR (k : Nat) (v : AV) (n : Nat) (r : List AObj) : Bool := match v with
  | .tuple [.agg [a, c, .slice sb so sn, d, e, g, i], j] => AV.sames [.str (nm k), .int .i64 (lrow k).rule, .int .i64 (lrow k).lo, .int .i64 (lrow k).hi, .bool (lrow k).strict, .bool (lrow k).point, .bool true] [a, c, d, e, g, i, j] && holds encF 3 (lrow k).calls n r sb so sn
  | _ => false
theorem refFind_all : ((List.range 21).all fun k => evChk E4 31 [.str (nm k)] (chkR k)) = true := by kernel_rfl
abbrev rowR16 (k : Nat) (c : Slc) : AV := .agg [(.str (nm k)), (.int .i64 (lrow k).rule), c.av, (.int .i64 (lrow k).lo), (.int .i64 (lrow k).hi), (.bool (lrow k).strict), (.bool (lrow k).point)]
theorem refFind_yes {k : Nat} (hk : k < 21) {h : Heap} {P : AV → Heap → Prop} (hP : ∀ (c : Slc) t, c.nil = false → Sl (h ++ t) c 3 encF (lrow k).calls → P (.tuple [rowR16 k c, .bool true]) t) : CallE K4 31 [.str (nm k)] h P := by
  refine callE_chk (f := 31) (args := [.str (nm k)]) (chk := chkR k) eok4 (flat_str _) (List.all_eq_true.1 refFind_all k (List.mem_range.2 hk)) fun v n r hc hn => ?_
  unfold chkR at hc
  split at hc
  · rename_i a c sb so sn d e g i j
    simp only [Bool.and_eq_true] at hc
    obtain ⟨h1, h2⟩ := hc
    obtain ⟨h3, _⟩ := sames_eq _ _ h1
    simp only [List.cons.injEq, and_true] at h3
    obtain ⟨rfl, rfl, rfl, rfl, rfl, rfl, rfl⟩ := h3
    have := hP ⟨sb + h.length, so, sn, false⟩ _ rfl (sl_of_holds (f := encF) (es := 3) (g := h) (fun _ => rfl) (by decide) hn h2)
    simp only [AV.sh, AV.shs]
    exact this
  · cases hc

/-! ### How many arguments a call takes -/
/-- The place of a call. -/
def at16 (op : List UInt8) (l : List Form) : Option Nat := l.findIdx? fun c => c.1 == op
theorem few {k : Nat} (hk : k < 21) : (lrow k).calls.length ≤ 5 := by
  have : ∀ k, k < 21 → (lrow k).calls.length ≤ 5 := by decide
  exact this k hk

/-- slices.IndexFunc over the calls, with the closure that compares the name. -/
theorem index_ok {s : Slc} {l : List Form} {op : List UInt8} {h : Heap} {a : Nat} (hs : Sl h s 2 encC l) (hl : l.length ≤ 1000000) (ha : rdVar h none a 0 = some (.str op)) {P : AV → Heap → Prop}
    (hP : ∀ t, P (.int .i64 (match at16 op l with | some i => (i : Int) | none => -1)) t) : CallE K4 76 [s.av, .fn 77 [.ptr a 0]] h P := by
  refine d76 (by kernel_rfl) ?_
  unfold D76
  refine ⟨fun n x t => ∃ i : Nat, x = i ∧ n + i = l.length ∧ ∀ j c, j < i → l[j]? = some c → (c.1 == op) = false, ⟨l.length, 0, rfl, rfl, fun j c h => absurd h (Nat.not_lt_zero j)⟩, ?_⟩
  rintro n x t ⟨i, rfl, hi, hno⟩
  rw [hs.len]
  refine ⟨fun hc => ?_, fun hc => ?_⟩
  · simp only [decide_eq_true_eq] at hc
    have hi' : i < l.length := by omega
    obtain ⟨y, hy⟩ := lt_len rfl hi'
    have hg := hs.agg hy
    refine ⟨by omega, y.1, y.2.1, by simpa [encC] using hg, ?_⟩
    refine d77 (by kernel_rfl) ?_
    unfold D77
    have hx := (inferInstance : ExtC h (h ++ t)).out.rdVar ha
    refine ⟨op, hx, _, rfl, fun hb => ?_, fun hb => ⟨n - 1, by omega, i + 1, wrap_succ (by omega), by omega, fun j c hj hjc => ?_⟩⟩
    · have : at16 op l = some i := by
        unfold at16
        rw [List.findIdx?_eq_some_iff_getElem]
        refine ⟨hi', ?_, fun j hj => ?_⟩
        · have := (List.getElem?_eq_some_iff.1 hy).2
          rw [this]
          exact hb
        · have := hno j l[j] hj (List.getElem?_eq_getElem (by omega))
          simp [this]
      have h2 := hP (t ++ [AObj.arr [(.str y.1), (.int .i64 y.2.1)] 2 false])
      rw [this] at h2
      exact h2
    · rcases Nat.lt_or_ge j i with h1 | h1
      · exact hno j c h1 hjc
      · have : j = i := by omega
        subst this
        rw [hy] at hjc
        cases hjc
        exact hb
  · simp only [decide_eq_false_iff_not] at hc
    have : at16 op l = none := by
      unfold at16
      rw [List.findIdx?_eq_none_iff]
      intro c hm
      obtain ⟨j, hj⟩ := List.mem_iff_getElem?.1 hm
      exact hno j c (by have := (List.getElem?_eq_some_iff.1 hj).1; omega) hj
    have h2 := hP t
    rw [this] at h2
    exact h2

def takesV (l : List Form) (op : List UInt8) : AV := match at16 op l with
  | some i => .tuple [.int .i64 (l.getD i ([], 0, 0)).2.1, .int .i64 0]
  | none => .tuple [.int .i64 0, .int .i64 1]
theorem takes_yes {k : Nat} (hk : k < 21) {op : List UInt8} {h : Heap} {P : AV → Heap → Prop} (hP : ∀ t, P (takesV (lrow k).calls op) t) : CallE K4 32 [.str (nm k), .str op] h P := by
  refine d32 (by kernel_rfl) ?_
  unfold D32
  refine find_yes hk fun c t1 hc hs => ⟨nm k, src75 k, (lrow k).rule, c, (lrow k).lo, (lrow k).hi, (lrow k).safe, (lrow k).strict, (lrow k).point, true, rfl, fun hb => by simp at hb, fun _ => ?_⟩
  have hs' : Sl (h ++ (AObj.arr [(.str op)] 1 false :: (t1 ++ [AObj.arr [(.str (nm k)), (.str (src75 k)), (.int .i64 (lrow k).rule), c.av, (.int .i64 (lrow k).lo), (.int .i64 (lrow k).hi), (.bool (lrow k).safe), (.bool (lrow k).strict), (.bool (lrow k).point)] 9 false]))) c 2 encC (lrow k).calls := by
    have := hs.ext (H' := (h ++ [AObj.arr [(.str op)] 1 false]) ++ (t1 ++ [AObj.arr [(.str (nm k)), (.str (src75 k)), (.int .i64 (lrow k).rule), c.av, (.int .i64 (lrow k).lo), (.int .i64 (lrow k).hi), (.bool (lrow k).safe), (.bool (lrow k).strict), (.bool (lrow k).point)] 9 false]))
    simpa using this
  refine index_ok hs' (by have := few hk; omega) (rdVar_at (c := [.str op]) (es := 1) (ro := false) (by simp) rfl) fun t2 => ⟨_, rfl, fun hb => ?_, fun hb => ?_⟩
  · cases ha : at16 op (lrow k).calls with
    | none =>
      have := hP (AObj.arr [(.str op)] 1 false :: (t1 ++ (AObj.arr [(.str (nm k)), (.str (src75 k)), (.int .i64 (lrow k).rule), c.av, (.int .i64 (lrow k).lo), (.int .i64 (lrow k).hi), (.bool (lrow k).safe), (.bool (lrow k).strict), (.bool (lrow k).point)] 9 false :: t2)))
      unfold takesV at this
      rw [ha] at this
      exact this
    | some i =>
      rw [ha] at hb
      simp only [decide_eq_true_eq] at hb
      omega
  · cases ha : at16 op (lrow k).calls with
    | none =>
      rw [ha] at hb
      simp at hb
    | some i =>
      have hi : i < (lrow k).calls.length := by
        unfold at16 at ha
        rw [List.findIdx?_eq_some_iff_getElem] at ha
        exact ha.1
      obtain ⟨y, hy⟩ := lt_len rfl hi
      have hl := hs.len
      refine ⟨⟨by simp, by simp only; omega⟩, y.2.1, ?_, ?_⟩
      · have := (hs'.ext (H' := h ++ (AObj.arr [(.str op)] 1 false :: (t1 ++ (AObj.arr [(.str (nm k)), (.str (src75 k)), (.int .i64 (lrow k).rule), c.av, (.int .i64 (lrow k).lo), (.int .i64 (lrow k).hi), (.bool (lrow k).safe), (.bool (lrow k).strict), (.bool (lrow k).point)] 9 false :: t2))))).cell hy (c := 1) (v := .int .i64 y.2.1) rfl
        simpa using this
      · have := hP (AObj.arr [(.str op)] 1 false :: (t1 ++ (AObj.arr [(.str (nm k)), (.str (src75 k)), (.int .i64 (lrow k).rule), c.av, (.int .i64 (lrow k).lo), (.int .i64 (lrow k).hi), (.bool (lrow k).safe), (.bool (lrow k).strict), (.bool (lrow k).point)] 9 false :: t2)))
        unfold takesV at this
        rw [ha] at this
        simp only [List.getD_eq_getElem?_getD, hy, Option.getD_some] at this
        exact this
theorem takes_no {name op : List UInt8} (hn : ∀ k, k < 21 → nm k ≠ name) {h : Heap} {P : AV → Heap → Prop} (hP : ∀ t, P (.tuple [.int .i64 0, .int .i64 5]) t) : CallE K4 32 [.str name, .str op] h P := by
  refine d32 (by kernel_rfl) ?_
  unfold D32
  exact find_no hn fun t => ⟨[], [], 0, nilS, 0, 0, false, false, false, false, rfl, fun _ => hP _, fun hb => by simp at hb⟩

def refTakesV (l : List Form) (op : List UInt8) : Int := match at16 op l with
  | some i => (l.getD i ([], 0, 0)).2.1
  | none => -1
theorem refTakes_ok {k : Nat} (hk : k < 21) {c : Slc} {op : List UInt8} {h : Heap} (hs : Sl h c 3 encF (lrow k).calls) {P : AV → Heap → Prop} (hP : ∀ t, P (.int .i64 (refTakesV (lrow k).calls op)) t) : CallE K4 33 [rowR16 k c, .str op] h P := by
  refine d33 (by kernel_rfl) ?_
  unfold D33
  have hfew := few hk
  generalize hL : (lrow k).calls = l at hs hP hfew
  refine ⟨fun n x t => ∃ i : Nat, x = i ∧ n + i = l.length ∧ ∀ j c, j < i → l[j]? = some c → (c.1 == op) = false, ⟨l.length, 0, rfl, rfl, fun j c h => absurd h (Nat.not_lt_zero j)⟩, ?_⟩
  rintro n x t ⟨i, rfl, hi, hno⟩
  rw [hs.len]
  refine ⟨fun hc => ?_, fun hc => ?_⟩
  · simp only [decide_eq_true_eq] at hc
    have hi' : i < l.length := by omega
    obtain ⟨y, hy⟩ := lt_len rfl hi'
    refine ⟨by omega, y.1, by simpa using hs.cell0 hy (v := .str y.1) rfl, fun hb => ?_, fun hb => ⟨n - 1, by omega, i + 1, wrap_succ (by omega), by omega, fun j c hj hjc => ?_⟩⟩
    · have : at16 op l = some i := by
        unfold at16
        rw [List.findIdx?_eq_some_iff_getElem]
        refine ⟨hi', ?_, fun j hj => ?_⟩
        · have := (List.getElem?_eq_some_iff.1 hy).2
          rw [this]
          exact hb
        · have := hno j l[j] hj (List.getElem?_eq_getElem (by omega))
          simp [this]
      refine ⟨by omega, y.2.1, by simpa using hs.cell hy (c := 1) (v := .int .i64 y.2.1) rfl, ?_⟩
      have h2 := hP (AObj.arr [(.str (nm k)), (.int .i64 (lrow k).rule), c.av, (.int .i64 (lrow k).lo), (.int .i64 (lrow k).hi), (.bool (lrow k).strict), (.bool (lrow k).point)] 7 false :: t)
      unfold refTakesV at h2
      rw [this] at h2
      simp only [List.getD_eq_getElem?_getD, hy, Option.getD_some] at h2
      exact h2
    · rcases Nat.lt_or_ge j i with h1 | h1
      · exact hno j c h1 hjc
      · have : j = i := by omega
        subst this
        rw [hy] at hjc
        cases hjc
        exact hb
  · simp only [decide_eq_false_iff_not] at hc
    have : at16 op l = none := by
      unfold at16
      rw [List.findIdx?_eq_none_iff]
      intro c hm
      obtain ⟨j, hj⟩ := List.mem_iff_getElem?.1 hm
      exact hno j c (by have := (List.getElem?_eq_some_iff.1 hj).1; omega) hj
    have h2 := hP (AObj.arr [(.str (nm k)), (.int .i64 (lrow k).rule), c.av, (.int .i64 (lrow k).lo), (.int .i64 (lrow k).hi), (.bool (lrow k).strict), (.bool (lrow k).point)] 7 false :: t)
    unfold refTakesV at h2
    rw [this] at h2
    exact h2

theorem nonneg {k : Nat} (hk : k < 21) : ((lrow k).calls.all fun c => decide (0 ≤ c.2.1)) = true := by
  have : ∀ k, k < 21 → ((lrow k).calls.all fun c => decide (0 ≤ c.2.1)) = true := by decide
  exact this k hk
theorem names_once {k : Nat} (hk : k < 21) : ((List.range (lrow k).calls.length).all fun i => at16 ((lrow k).calls.getD i ([], 0, 0)).1 (lrow k).calls == some i) = true := by
  have : ∀ k, k < 21 → ((List.range (lrow k).calls.length).all fun i => at16 ((lrow k).calls.getD i ([], 0, 0)).1 (lrow k).calls == some i) = true := by decide
  exact this k hk
theorem no_star {k : Nat} (hk : k < 21) (op : List UInt8) : nm k ≠ op ++ [42] := by
  have : ∀ k, k < 21 → (nm k).getLast? ≠ some 42 := by decide
  intro e
  exact this k hk (by rw [e]; simp)

theorem libTakes_ok {w : Int} {op : List UInt8} (hop : op.length ≤ 140737488355328) {h : Heap} {P : AV → Heap → Prop} (hP : ∀ t, P (.bool true) t) : CallE K4 6 [.int .i64 w, .str op] h P := by
  refine d6 (by kernel_rfl) ?_
  unfold D6
  refine awake4 ⟨true, rfl, fun hb => by simp at hb, fun _ => ?_⟩
  refine nameIx_ok fun t2 => ⟨_, rfl, ?_⟩
  have hk := ix_lt w
  generalize ix w = k at hk
  refine refFind_yes hk fun c t3 hc hs => ⟨nm k, (lrow k).rule, c, (lrow k).lo, (lrow k).hi, (lrow k).strict, (lrow k).point, true, rfl, ?_⟩
  have hfew := few hk
  have htv : ∃ x y, takesV (lrow k).calls op = .tuple [.int .i64 x, .int .i64 y] ∧ ((decide (refTakesV (lrow k).calls op < 0)) = true → x = 0 ∧ y = 1) ∧ ((decide (refTakesV (lrow k).calls op < 0)) = false → x = refTakesV (lrow k).calls op ∧ y = 0) := by
    unfold takesV refTakesV
    cases ha : at16 op (lrow k).calls with
    | none => exact ⟨0, 1, rfl, fun _ => ⟨rfl, rfl⟩, fun hb => by simp at hb⟩
    | some i =>
      refine ⟨_, _, rfl, fun hb => ?_, fun _ => ⟨rfl, rfl⟩⟩
      have hi : i < (lrow k).calls.length := by
        unfold at16 at ha
        rw [List.findIdx?_eq_some_iff_getElem] at ha
        exact ha.1
      have := List.all_eq_true.1 (nonneg hk) ((lrow k).calls.getD i ([], 0, 0)) (by
        rw [List.getD_eq_getElem?_getD, List.getElem?_eq_getElem hi]
        exact List.getElem_mem hi)
      simp only [decide_eq_true_eq] at this hb
      omega
  obtain ⟨x, y, hxy, hneg, hpos⟩ := htv
  refine takes_yes hk fun t4 => ⟨x, y, hxy, ?_⟩
  have hs1 : Sl (h ++ ([] ++ (t2 ++ (t3 ++ (AObj.arr [(.str (nm k)), (.int .i64 (lrow k).rule), c.av, (.int .i64 (lrow k).lo), (.int .i64 (lrow k).hi), (.bool (lrow k).strict), (.bool (lrow k).point)] 7 false :: t4))))) c 3 encF (lrow k).calls := by
    have := hs.ext (H' := (h ++ ([] ++ t2)) ++ (t3 ++ (AObj.arr [(.str (nm k)), (.int .i64 (lrow k).rule), c.av, (.int .i64 (lrow k).lo), (.int .i64 (lrow k).hi), (.bool (lrow k).strict), (.bool (lrow k).point)] 7 false :: t4)))
    simpa using this
  refine refTakes_ok hk hs1 fun t5 => ⟨_, rfl, by simp; omega, ?_⟩
  refine takes_no (fun j hj => no_star hj op) fun t6 => ⟨0, 5, rfl, fun _ => ⟨fun hb => by simp at hb, fun _ => ?_⟩, fun hb => by simp at hb⟩
  refine ⟨fun n x t => ∃ i : Nat, x = i ∧ n + i = (lrow k).calls.length, ⟨_, 0, rfl, rfl⟩, ?_⟩
  rintro n _ t7 ⟨i, rfl, hi⟩
  rw [hs.len]
  refine ⟨fun hc' => ?_, fun _ => ⟨fun hb => ⟨fun _ => ?_, fun hx => ?_⟩, fun hb => ⟨fun _ => ?_, fun hx => ?_⟩⟩⟩
  · simp only [decide_eq_true_eq] at hc'
    have hi' : i < (lrow k).calls.length := by omega
    obtain ⟨z, hz⟩ := lt_len rfl hi'
    have hs2 := hs1.ext (H' := h ++ ([] ++ (t2 ++ (t3 ++ (AObj.arr [(.str (nm k)), (.int .i64 (lrow k).rule), c.av, (.int .i64 (lrow k).lo), (.int .i64 (lrow k).hi), (.bool (lrow k).strict), (.bool (lrow k).point)] 7 false :: (t4 ++ (t5 ++ (t6 ++ t7))))))))
    refine ⟨by omega, z.1, by simpa using hs2.cell0 hz (v := .str z.1) rfl, ?_⟩
    have hat : at16 z.1 (lrow k).calls = some i := by
      have := List.all_eq_true.1 (names_once hk) i (List.mem_range.2 hi')
      rw [List.getD_eq_getElem?_getD, hz] at this
      simpa using this
    have htz : takesV (lrow k).calls z.1 = .tuple [.int .i64 z.2.1, .int .i64 0] := by
      unfold takesV
      rw [hat]
      simp [List.getD_eq_getElem?_getD, hz]
    refine takes_yes hk fun t8 => ⟨z.2.1, 0, htz, by omega, z.2.1, ?_, fun _ => ⟨fun hb => by simp at hb, fun _ => ⟨n - 1, by omega, i + 1, wrap_succ (by omega), by omega⟩⟩, fun hb => by simp at hb⟩
    have hs3 := hs2.ext (H' := h ++ ([] ++ (t2 ++ (t3 ++ (AObj.arr [(.str (nm k)), (.int .i64 (lrow k).rule), c.av, (.int .i64 (lrow k).lo), (.int .i64 (lrow k).hi), (.bool (lrow k).strict), (.bool (lrow k).point)] 7 false :: (t4 ++ (t5 ++ (t6 ++ (t7 ++ t8)))))))))
    simpa using hs3.cell hz (c := 1) (v := .int .i64 z.2.1) rfl
  · rw [(hneg hb).2]
    exact hP _
  · rw [(hneg hb).1] at hx
    simp at hx
  · rw [(hpos hb).2]
    exact hP _
  · rw [(hpos hb).1] at hx
    simp at hx
end Go.Proofs.YtifkphfhadimaaaGreatDoor.Mini
