import Derived.Test.YtifkphfhadimaaaGreatDoorCdD
set_option linter.unusedVariables false
set_option linter.unusedSimpArgs false
set_option maxRecDepth 100000
namespace Go.Proofs.YtifkphfhadimaaaGreatDoor.Mini
open Go.Abs

def inOp (op : Int) : Bool := decide (0 ≤ op) && decide (op < 26)
theorem inOp_yes {op : Int} (h0 : 0 ≤ op) (h1 : op < 26) : inOp op = true := by simp [inOp, h0, h1]
theorem inOp_low {op : Int} (h : op < 0) : inOp op = false := by simp [inOp]; omega
theorem inOp_high {op : Int} (h : op ≥ 26) : inOp op = false := by simp [inOp]; omega
theorem l26 : shps.length = 26 := rfl
theorem form_at (op : Int) (h0 : 0 ≤ op) (h1 : op < 26) (f : List UInt8 × List UInt8 → List UInt8) {c : List AV} (hc : c = shps.map fun x => .str (f x)) : partOf none c (0 + (op : Int).toNat * 1) = some (.str (f (opN op, opP op))) := by
  subst hc
  simp only [partOf, Nat.zero_add, Nat.mul_one, List.getElem?_map, shps_at h0 h1, Option.map_some]
theorem form_ok {op : Int} {h : Heap} {P : AV → Heap → Prop} (hP : ∀ t, P (if inOp op = true then .tuple [.str (opN op), .str (opP op)] else .tuple [.str [], .str []]) t) : CallE KC 113 [.int .i64 op] h P := by
  refine d113 (by kernel_rfl) ?_
  unfold D113
  refine ⟨fun hb => ⟨fun hc => ?_, fun hc => ?_⟩, fun hb => ?_⟩
  · simp only [decide_eq_true_eq] at hc
    rw [inOp_high hc] at hP
    exact hP _
  · simp only [decide_eq_false_iff_not] at hb hc
    rw [inOp_yes (by omega) (by omega)] at hP
    exact ⟨⟨by omega, by omega⟩, opN op, form_at op (by omega) (by omega) (·.1) rfl, ⟨by omega, by omega⟩, opP op, form_at op (by omega) (by omega) (·.2) rfl, hP _⟩
  · simp only [decide_eq_true_eq] at hb
    rw [inOp_low hb] at hP
    exact hP _
theorem opN_ne {op : Int} (h0 : 0 ≤ op) (h1 : op < 26) : (opN op == []) = false := by
  have : (shps.all fun x => !(x.1 == [])) = true := by decide
  have := List.all_eq_true.1 this _ (List.mem_of_getElem? (shps_at h0 h1))
  simpa using this
theorem inOp_cases (op : Int) : (0 ≤ op ∧ op < 26 ∧ inOp op = true) ∨ inOp op = false := by
  by_cases h0 : 0 ≤ op
  · by_cases h1 : op < 26
    · exact .inl ⟨h0, h1, inOp_yes h0 h1⟩
    · exact .inr (inOp_high (by omega))
  · exact .inr (inOp_low (by omega))
def anyV (w : List UInt8) (c : Int) : Bool := w.any fun d => c == ((d.toNat : Nat) : Int)
def hasV (op : Int) (c : Int) : Bool := anyV (opP op) c
def encD (d : UInt8) : List AV := [.int .i32 ((d.toNat : Nat) : Int)]
theorem anyV_take {w : List UInt8} {i : Nat} {d : UInt8} {c : Int} (h : w[i]? = some d) : anyV (w.take (i + 1)) c = (anyV (w.take i) c || (c == ((d.toNat : Nat) : Int))) := by
  unfold anyV
  rw [List.take_add_one, h, List.any_append]
  simp
theorem anyV_mem {w : List UInt8} {i : Nat} {d : UInt8} {c : Int} (h : w[i]? = some d) (hd : (c == ((d.toNat : Nat) : Int)) = true) : anyV w c = true :=
  List.any_eq_true.2 ⟨d, List.mem_of_getElem? h, hd⟩
theorem contains_ok {s : Slc} {w : List UInt8} {c : Int} {h : Heap} (hs : Sl h s 1 encD w) (hl : w.length ≤ 1000) {P : AV → Heap → Prop} (hP : ∀ t, P (.bool (anyV w c)) t) : CallE KC 115 [s.av, .int .i32 c] h P := by
  refine d115 (by kernel_rfl) ?_
  unfold D115
  refine d146 (by kernel_rfl) ?_
  unfold D146
  rw [hs.len]
  refine ⟨fun m x t => ∃ i : Nat, x = i ∧ m + i = w.length ∧ anyV (w.take i) c = false, ⟨w.length, 0, rfl, rfl, rfl⟩, ?_⟩
  rintro m _ t ⟨i, rfl, hi, hno⟩
  refine ⟨fun hc => ?_, fun hc => ?_⟩
  · simp only [decide_eq_true_eq] at hc
    obtain ⟨d, hd⟩ := lt_len rfl (show i < w.length by omega)
    refine ⟨by omega, ((d.toNat : Nat) : Int), by simpa using hs.cell0 hd (v := .int .i32 ((d.toNat : Nat) : Int)) rfl, fun he => ⟨_, rfl, ?_⟩, fun he => ⟨m - 1, by omega, i + 1, wrap_succ (by omega), by omega, ?_⟩⟩
    · rw [anyV_mem hd he] at hP
      rw [decide_eq_true (show ((i : Nat) : Int) ≥ 0 by omega)]
      exact hP _
    · rw [anyV_take hd, hno, he]
      rfl
  · simp only [decide_eq_false_iff_not] at hc
    have : i = w.length := by omega
    subst this
    rw [List.take_length] at hno
    rw [hno] at hP
    exact ⟨_, rfl, hP _⟩
theorem has_ok {op c : Int} {l : Slc} {a1 a2 : Nat} {h : Heap} (h0 : 0 ≤ op) (h1 : op < 26) (hl : Sl h l 2 encS shps) (r1 : rdVar h none a1 0 = some l.av) (r2 : rdVar h none a2 0 = some (.int .i64 op)) {P : AV → Heap → Prop} (hP : ∀ t, P (.bool (hasV op c)) t) : CallE KC 114 [.int .i32 c, .ptr a1 0, .ptr a2 0] h P := by
  refine d114 (by kernel_rfl) ?_
  unfold D114
  obtain ⟨f1, f2, f3⟩ := shps_facts h0 h1
  refine ⟨l, r1, op, r2, ?_⟩
  rw [hl.len, l26]
  refine ⟨⟨h0, by omega⟩, opP op, hl.cell (shps_at h0 h1) (c := 1) rfl, ?_, by omega, ?_⟩
  · rw [List.all_eq_true]
    intro d hd
    have := f3 d hd
    simp only [Nat.blt, Nat.ble_eq]
    omega
  · have : Ow h.length [AObj.arr (List.map (fun c => AV.int .i32 (UInt8.toNat c : Nat)) (opP op)) 1 false] ⟨h.length, 0, (opP op).length, false⟩ 1 ((opP op).flatMap encD) := by
      refine Ow.mk 0 rfl ?_ (by rw [flatMap_len (es := 1) (fun _ => rfl)])
      simp only [List.getElem?_cons_zero]
      congr 2
      induction opP op with
      | nil => rfl
      | cons d w ih => simp only [List.map_cons, List.flatMap_cons, encD, List.singleton_append]; rw [← ih]
    refine contains_ok (s := ⟨h.length, 0, (opP op).length, false⟩) (this.sl (by decide) (fun _ => rfl) fun j o hj => ?_) (by omega) fun t => ⟨_, rfl, hP _⟩
    rw [List.getElem?_append_right (by omega), Nat.add_sub_cancel_left]
    exact hj
theorem asks_ok {op c : Int} {h : Heap} {P : AV → Heap → Prop} (h0 : 0 ≤ op) (h1 : op < 26) (hP : ∀ t, P (.bool (hasV op c)) t) : CallE KC 118 [.int .i64 op, .int .u8 c] h P := by
  refine d118 (by kernel_rfl) ?_
  unfold D118
  obtain ⟨f1, f2, f3⟩ := shps_facts h0 h1
  refine form_ok fun t1 => ?_
  rw [inOp_yes h0 h1]
  refine ⟨opN op, opP op, rfl, fun m x t => ∃ i : Nat, x = i ∧ m + i = (opP op).length ∧ anyV ((opP op).take i) c = false, ⟨(opP op).length, 0, rfl, rfl, rfl⟩, ?_⟩
  rintro m _ t ⟨i, rfl, hi, hno⟩
  refine ⟨fun hc => ?_, fun hc => ?_⟩
  · simp only [decide_eq_true_eq] at hc
    obtain ⟨d, hd⟩ := lt_len rfl (show i < (opP op).length by omega)
    have sw : ((((UInt8.toNat d : Nat) : Int)) == c) = (c == (((UInt8.toNat d : Nat) : Int))) := by
      rw [Bool.eq_iff_iff]
      simp only [beq_iff_eq]
      exact ⟨fun h => h.symm, fun h => h.symm⟩
    refine ⟨d, ⟨by omega, by simpa using hd⟩, fun he => ?_, fun he => ⟨m - 1, by omega, i + 1, wrap_succ (by omega), by omega, ?_⟩⟩
    · rw [sw] at he
      unfold hasV at hP
      rw [anyV_mem hd he] at hP
      exact hP _
    · rw [sw] at he
      rw [anyV_take hd, hno, he]
      rfl
  · simp only [decide_eq_false_iff_not] at hc
    have : i = (opP op).length := by omega
    subst this
    rw [List.take_length] at hno
    unfold hasV at hP
    rw [hno] at hP
    exact hP _

def opdV (r n : Int) : Bool := if (r == (-1)) = true then decide (n ≥ (-1000000000000000)) && decide (n ≤ 1000000000000000) else decide (r ≥ 0) && (decide (r < 16) && (n == 0))
theorem operand_ok {r n : Int} {h : Heap} {P : AV → Heap → Prop} (hP : ∀ t, P (.bool (opdV r n)) t) : CallE KC 117 [.agg [.int .i64 r, .int .i64 n]] h P := by
  refine d117 (by kernel_rfl) ?_
  unfold D117
  unfold opdV at hP
  refine ⟨fun h1 => ⟨fun h2 => ?_, fun h2 => ?_⟩, fun h1 => ⟨fun h2 => ⟨fun h3 => ?_, fun h3 => ?_⟩, fun h2 => ?_⟩⟩
  · rw [if_pos h1, h2] at hP; exact hP _
  · rw [if_pos h1, h2] at hP; exact hP _
  · rw [if_neg (by simp [h1]), h2, h3] at hP; exact hP _
  · rw [if_neg (by simp [h1]), h2, h3] at hP; exact hP _
  · rw [if_neg (by simp [h1]), h2] at hP; exact hP _
theorem roperand_ok {r n : Int} {h : Heap} {P : AV → Heap → Prop} (hP : ∀ t, P (.bool (opdV r n)) t) : CallE KC 119 [.agg [.int .i64 r, .int .i64 n]] h P := by
  refine d119 (by kernel_rfl) ?_
  unfold D119
  unfold opdV at hP
  have e : decide (r ≤ 15) = decide (r < 16) := by
    rw [decide_eq_decide]
    omega
  rw [e]
  refine ⟨fun h1 => ⟨fun h2 => ?_, fun h2 => ?_⟩, fun h1 => ⟨fun h2 => ⟨fun h3 => ?_, fun h3 => ?_⟩, fun h2 => ?_⟩⟩
  · rw [if_pos h1, h2] at hP; exact hP _
  · rw [if_pos h1, h2] at hP; exact hP _
  · rw [if_neg (by simp [h1]), h2, h3] at hP; exact hP _
  · rw [if_neg (by simp [h1]), h2, h3] at hP; exact hP _
  · rw [if_neg (by simp [h1]), h2] at hP; exact hP _

theorem at_add {a b : Heap} {k : Nat} : (a ++ b)[a.length + k]? = b[k]? := by simp [List.getElem?_append_right]
theorem at_addc {x : AObj} {b : Heap} {k : Nat} : (x :: b)[1 + k]? = b[k]? := by rw [Nat.add_comm]; rfl
theorem at_len {a b : Heap} : (a ++ b)[a.length]? = b[0]? := by simp [List.getElem?_append_right]
theorem rdAgg2 {H : Heap} {b n : Nat} {c : List AV} {es : Nat} {ro : Bool} (h : H[b]? = some (.arr c es ro)) (hn : c.length = n) : rdVar H (some n) b 0 = some (.agg c) := by
  simp [rdVar, rdCells, h, ← hn]
def partB (op c r n : Int) : Bool := if hasV op c = true then opdV r n else ((r == 0) && ((n == 0) && true))
def regB (op r : Int) : Bool := if hasV op 114 = true then decide (r ≥ 0) && decide (r < 14) else (r == 0)
def numB (op n : Int) : Bool := if hasV op 111 = true then decide (n ≥ 0) && decide (n ≤ 15) else (n == 0)
def toB (op to len : Int) : Bool := if hasV op 76 = true then decide (to ≥ 0) && decide (to < len) else (to == 0)
def validV (op r sr sn vr vn wr wn n to len : Int) : Bool := inOp op && ((partB op 115 sr sn && (partB op 118 vr vn && partB op 119 wr wn)) && (regB op r && (numB op n && toB op to len)))
theorem bne_false (b : Bool) : (b != false) = b := by cases b <;> rfl
theorem part_ok {op c r n : Int} {l : Slc} {a1 a2 b1 b2 : Nat} {h : Heap} (h0 : 0 ≤ op) (h1 : op < 26) (hl : Sl h l 2 encS shps) (r1 : rdVar h none a1 0 = some l.av) (r2 : rdVar h none a2 0 = some (.int .i64 op)) (r3 : rdVar h none b1 0 = some (.fn 114 [.ptr a1 0, .ptr a2 0])) (r4 : rdVar h (some 2) b2 0 = some (.agg [.int .i64 0, .int .i64 0])) {P : AV → Heap → Prop} (hP : ∀ t, P (.bool (partB op c r n)) t) : CallE KC 116 [.int .i32 c, .agg [.int .i64 r, .int .i64 n], .ptr b1 0, .ptr b2 0] h P := by
  refine d116 (by kernel_rfl) ?_
  unfold D116
  unfold partB at hP
  refine ⟨_, r3, ?_⟩
  have ext : ∀ {agg b o v} (u : Heap), rdVar h agg b o = some v → rdVar (h ++ u) agg b o = some v := fun u hr => (Ext.rdVar ⟨u, rfl⟩ hr)
  refine has_ok h0 h1 hl.ext (ext _ r1) (ext _ r2) fun t => ⟨_, rfl, fun hb => ?_, fun hb => ?_⟩
  · rw [hb, if_pos rfl] at hP
    exact operand_ok fun t2 => ⟨_, rfl, hP _⟩
  · rw [hb, if_neg (by simp)] at hP
    refine ⟨0, 0, r4, ?_⟩
    rw [bne_false]
    exact hP _

theorem box_at {h : Heap} {x : AObj} {r : Heap} : (h ++ (x :: r))[h.length]? = some x := by simp
theorem valid_ok {op r sr sn vr vn wr wn n to len : Int} {star : Bool} {h : Heap} {P : AV → Heap → Prop} (hP : ∀ t, P (.bool (validV op r sr sn vr vn wr wn n to len)) t) : CallE KC 61 [.agg [.int .i64 op, .bool star, .int .i64 r, .int .i64 sr, .int .i64 sn, .int .i64 vr, .int .i64 vn, .int .i64 wr, .int .i64 wn, .int .i64 n, .int .i64 to], .int .i64 len] h P := by
  refine d61 (by kernel_rfl) ?_
  unfold D61
  refine shapes_ok fun l t1 hl => ⟨l, rfl, fun hb => ⟨fun hc => ?_, fun hc => ?_⟩, fun hb => ?_⟩
  · rw [hl.len, l26] at hc
    simp only [decide_eq_true_eq] at hc
    unfold validV at hP
    rw [inOp_high (by omega), Bool.false_and] at hP
    exact hP _
  · rw [hl.len, l26] at hc
    simp only [decide_eq_false_iff_not] at hb hc
    have h0 : 0 ≤ op := by omega
    have h1 : op < 26 := by omega
    unfold validV at hP
    rw [inOp_yes h0 h1, Bool.true_and] at hP
    have l1 : Sl (h ++ (AObj.arr [.int .i64 op, .bool star, .int .i64 r, .int .i64 sr, .int .i64 sn, .int .i64 vr, .int .i64 vn, .int .i64 wr, .int .i64 wn, .int .i64 n, .int .i64 to] 11 false :: t1)) l 2 encS shps := by
      have := hl
      rw [List.append_assoc] at this
      exact this
    have A2 : ∀ u : Heap, rdVar (h ++ (AObj.arr [.int .i64 op, .bool star, .int .i64 r, .int .i64 sr, .int .i64 sn, .int .i64 vr, .int .i64 vn, .int .i64 wr, .int .i64 wn, .int .i64 n, .int .i64 to] 11 false :: u)) none h.length 0 = some (.int .i64 op) := fun u => rdVar_at (c := [.int .i64 op, .bool star, .int .i64 r, .int .i64 sr, .int .i64 sn, .int .i64 vr, .int .i64 vn, .int .i64 wr, .int .i64 wn, .int .i64 n, .int .i64 to]) (es := 11) (ro := false) box_at rfl
    have A1 : ∀ (x : AObj) (u : Heap), rdVar (h ++ (x :: (t1 ++ (AObj.arr [l.av] 1 false :: u)))) none (h.length + (1 + t1.length)) 0 = some l.av := fun x u => rdVar_at (c := [l.av]) (es := 1) (ro := false) (by simp only [at_add, at_addc, at_len]; rfl) rfl
    have B1 : ∀ (x : AObj) (u : Heap), rdVar (h ++ (x :: (t1 ++ (AObj.arr [l.av] 1 false :: (AObj.arr [(.fn 114 [(.ptr (h.length + (1 + t1.length)) 0), (.ptr h.length 0)])] 1 false :: u))))) none (h.length + (1 + (t1.length + 1))) 0 = some (.fn 114 [(.ptr (h.length + (1 + t1.length)) 0), (.ptr h.length 0)]) := fun x u => rdVar_at (c := [(.fn 114 [(.ptr (h.length + (1 + t1.length)) 0), (.ptr h.length 0)])]) (es := 1) (ro := false) (by simp only [at_add, at_addc, at_len]; rfl) rfl
    have B2 : ∀ (x y z : AObj) (u : Heap), rdVar (h ++ (x :: (t1 ++ (y :: (z :: (AObj.arr [(.int .i64 0), (.int .i64 0)] 2 false :: u)))))) (some 2) (h.length + (1 + (t1.length + (1 + 1)))) 0 = some (.agg [.int .i64 0, .int .i64 0]) := fun x y z u => rdAgg2 (c := [(.int .i64 0), (.int .i64 0)]) (es := 2) (ro := false) (by simp only [at_add, at_addc, at_len]; rfl) rfl
    refine part_ok h0 h1 l1.ext (A1 _ _) (A2 _) (B1 _ _) (B2 _ _ _ _) fun t2 => ⟨_, rfl, fun q1 => ?_, fun q1 => ?_⟩
    · refine part_ok h0 h1 l1.ext (A1 _ _) (A2 _) (B1 _ _) (B2 _ _ _ _) fun t3 => ⟨_, rfl, fun q2 => ?_, fun q2 => ?_⟩
      · rw [q1, q2, Bool.true_and, Bool.true_and] at hP
        refine part_ok h0 h1 l1.ext (A1 _ _) (A2 _) (B1 _ _) (B2 _ _ _ _) fun t4 => ⟨_, rfl, fun b t => b = (partB op 119 wr wn && regB op r), has_ok h0 h1 l1.ext (A1 _ _) (A2 _) fun t5 => ⟨_, rfl, fun q4 => ⟨fun q3 => ⟨fun q5 => ?_, fun q5 => ?_⟩, fun q3 => ?_⟩, fun q4 => ⟨fun q3 => ?_, fun q3 => ?_⟩⟩, ?_⟩
        · unfold regB; rw [q3, if_pos q4, q5]; rfl
        · unfold regB; rw [q3, if_pos q4, q5]; rfl
        · rw [q3]; rfl
        · unfold regB; rw [q3, if_neg (by simp [q4])]; rfl
        · rw [q3]; rfl
        rintro _ t6 rfl
        refine ⟨fun b t => b = ((partB op 119 wr wn && regB op r) && numB op n), has_ok h0 h1 l1.ext (A1 _ _) (A2 _) fun t7 => ⟨_, rfl, fun q5 => ⟨fun q6 => ⟨fun q7 => ?_, fun q7 => ?_⟩, fun q6 => ?_⟩, fun q5 => ⟨fun q6 => ?_, fun q6 => ?_⟩⟩, ?_⟩
        · unfold numB; rw [q6, if_pos q5, q7]; rfl
        · unfold numB; rw [q6, if_pos q5, q7]; rfl
        · rw [q6]; rfl
        · unfold numB; rw [q6, if_neg (by simp [q5])]; rfl
        · rw [q6]; rfl
        rintro _ t8 rfl
        have e : (partB op 119 wr wn && (regB op r && (numB op n && toB op to len))) = (((partB op 119 wr wn && regB op r) && numB op n) && toB op to len) := by simp only [Bool.and_assoc]
        rw [e] at hP
        refine has_ok h0 h1 l1.ext (A1 _ _) (A2 _) fun t9 => ⟨_, rfl, fun q7 => ⟨fun q8 => ⟨fun q9 => ?_, fun q9 => ?_⟩, fun q8 => ?_⟩, fun q7 => ⟨fun q8 => ?_, fun q8 => ?_⟩⟩
        · unfold toB at hP; rw [q8, if_pos q7, q9] at hP; exact hP _
        · unfold toB at hP; rw [q8, if_pos q7, q9] at hP; exact hP _
        · rw [q8] at hP; exact hP _
        · unfold toB at hP; rw [q8, if_neg (by simp [q7])] at hP; exact hP _
        · rw [q8] at hP; exact hP _
      · rw [q1, q2, Bool.true_and, Bool.false_and, Bool.false_and] at hP
        refine ⟨fun b t => b = false, has_ok h0 h1 l1.ext (A1 _ _) (A2 _) fun t5 => ⟨_, rfl, fun _ => rfl, fun _ => rfl⟩, ?_⟩
        rintro _ t6 rfl
        refine ⟨fun b t => b = false, has_ok h0 h1 l1.ext (A1 _ _) (A2 _) fun t7 => ⟨_, rfl, fun q5 => ⟨fun q6 => (by cases q6), fun _ => rfl⟩, fun q5 => ⟨fun q6 => (by cases q6), fun _ => rfl⟩⟩, ?_⟩
        rintro _ t8 rfl
        exact has_ok h0 h1 l1.ext (A1 _ _) (A2 _) fun t9 => ⟨_, rfl, fun q7 => ⟨fun q8 => (by cases q8), fun _ => hP _⟩, fun q7 => ⟨fun q8 => (by cases q8), fun _ => hP _⟩⟩
    · rw [q1, Bool.false_and, Bool.false_and] at hP
      refine ⟨fun b t => b = false, has_ok h0 h1 l1.ext (A1 _ _) (A2 _) fun t5 => ⟨_, rfl, fun _ => rfl, fun _ => rfl⟩, ?_⟩
      rintro _ t6 rfl
      refine ⟨fun b t => b = false, has_ok h0 h1 l1.ext (A1 _ _) (A2 _) fun t7 => ⟨_, rfl, fun q5 => ⟨fun q6 => (by cases q6), fun _ => rfl⟩, fun q5 => ⟨fun q6 => (by cases q6), fun _ => rfl⟩⟩, ?_⟩
      rintro _ t8 rfl
      exact has_ok h0 h1 l1.ext (A1 _ _) (A2 _) fun t9 => ⟨_, rfl, fun q7 => ⟨fun q8 => (by cases q8), fun _ => hP _⟩, fun q7 => ⟨fun q8 => (by cases q8), fun _ => hP _⟩⟩
  · simp only [decide_eq_true_eq] at hb
    unfold validV at hP
    rw [inOp_low hb, Bool.false_and] at hP
    exact hP _
end Go.Proofs.YtifkphfhadimaaaGreatDoor.Mini

