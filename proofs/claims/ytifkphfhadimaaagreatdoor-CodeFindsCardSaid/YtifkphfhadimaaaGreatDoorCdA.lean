import Derived.Test.YtifkphfhadimaaaGreatDoorIdx
import Derived.Test.YtifkphfhadimaaaGreatDoorMiniX
import Derived.Test.YtifkphfhadimaaaGreatDoorMiniE
import Derived.Test.YtifkphfhadimaaaGreatDoorDecY
import Derived.Test.YtifkphfhadimaaaGreatDoorShI
import Derived.Test.YtifkphfhadimaaaGreatDoorBd
import Derived.Test.YtifkphfhadimaaaGreatDoorAbsG6
import Derived.Test.YtifkphfhadimaaaGreatDoorAbsG4
set_option linter.unusedVariables false
set_option linter.unusedSimpArgs false
set_option maxRecDepth 100000
namespace Go.Proofs.YtifkphfhadimaaaGreatDoor.Mini
open Go.Abs

def srcS : List UInt8 := [115, 116, 114, 117, 99, 116, 32, 115, 10, 99, 101, 108, 108, 115, 32, 49, 10, 32, 111, 112, 32, 103, 101, 116, 32, 59, 32, 97, 32, 99, 111, 109, 109, 101, 110, 116, 10, 76, 58, 32, 10, 108, 111, 97, 100, 42, 32, 32, 97, 32, 48, 32, 48, 10, 101, 113, 32, 97, 32, 48, 32, 76, 10, 103, 105, 118, 101, 32, 97, 10]
def txtS : List UInt8 := [115, 116, 114, 117, 99, 116, 32, 115, 10, 99, 101, 108, 108, 115, 32, 49, 10, 111, 112, 32, 103, 101, 116, 10, 108, 111, 97, 100, 42, 32, 97, 32, 48, 32, 48, 10, 101, 113, 32, 97, 32, 48, 32, 64, 48, 10, 103, 105, 118, 101, 32, 97, 10]
theorem srcS_eq : src51 0 = srcS := by kernel_rfl
theorem txtS_eq : src51 1 = txtS := by kernel_rfl
abbrev Rout := List UInt8 × List (List Int)

def okSmall (n : Int) : Bool := decide (0 ≤ n) && decide (n < 100)
theorem okSmall_iff {n : Int} : okSmall n = true ↔ 0 ≤ n ∧ n < 100 := by simp [okSmall]
def dd (n : Nat) : List UInt8 := if n < 10 then [UInt8.ofNat (48 + n)] else [UInt8.ofNat (48 + n / 10), UInt8.ofNat (48 + n % 10)]
theorem dd_eq {n : Nat} (h : n < 100) : Lib.decDigits n = dd n := by
  unfold dd
  rw [Lib.decDigits]
  split
  · rfl
  · rw [Lib.decDigits, dif_pos (by omega)]
    rfl
theorem dd_len (n : Nat) : (dd n).length ≤ 2 := by
  unfold dd
  split <;> simp
def itoaP (f0 : Nat) : PrimsV := fun f args => cond (Nat.beq f0 f) (match args with
  | [.int .i64 n] => cond (okSmall n) (some (.flat (.str (dd n.toNat)))) none
  | _ => none) none
theorem isfn105 : IsFn Tryz.prog 105 := isFn Tryz.func105 (by kernel_rfl) (by kernel_rfl)
theorem itoaP_ok {base : Nat} {w0 : World} {out : Prop} : WaysOK Tryz.prog base w0 out (itoaP 105) := by
  intro f args v hv
  unfold itoaP at hv
  cases hf : Nat.beq 105 f with
  | false => rw [hf] at hv; cases hv
  | true =>
    rw [hf] at hv
    have := Nat.eq_of_beq_eq_true hf
    subst this
    simp only [cond_true] at hv
    split at hv
    · rename_i n
      cases hn : okSmall n with
      | false => rw [hn] at hv; cases hv
      | true =>
        rw [hn] at hv
        injection hv with hv
        subst hv
        obtain ⟨n0, n1⟩ := okSmall_iff.1 hn
        obtain ⟨fn, c, h1, h2, h3⟩ := isfn105
        refine .told _ fun m w cargs ha _ => ⟨.string ⟨(dd n.toNat).toArray⟩, by simp only [VR], fn, c, h1, h2, h3, ?_⟩
        simp only [VRs, VR] at ha
        obtain ⟨c1, cs, e1, rfl, rfl⟩ := ha
        have : cargs = #[.int .i64 n] := by
          apply Array.ext'
          rw [e1]
        subst this
        have en : ((n.toNat : Nat) : Int) = n := by omega
        have hc := Sh.strconv_Itoa_small n.toNat (by omega) w
        rw [en, dd_eq (by omega)] at hc
        refine hc.mono ?_
        rintro e' w' ⟨rfl, rfl⟩
        exact ⟨rfl, Go.RowKit.Below.refl _ _⟩
    · cases hv

noncomputable def newX : List (Nat × MFunc) := [(49, F49), (51, F51 src51), (62, F62), (106, F106), (113, F113), (118, F118), (119, F119), (140, F140)]
noncomputable def tblX : List (Nat × MFunc) := tbl ++ newX
theorem tblX_ok : ∀ p ∈ tblX, (modelOf Tryz.prog noPrim).fn p.1 = some p.2 := by
  intro p hp
  rcases List.mem_append.1 hp with hp | hp
  · exact tbl_ok p hp
  · have : ∀ p ∈ newX, (modelOf Tryz.prog noPrim).fn p.1 = some p.2 := by
      simp only [newX, List.mem_cons, List.not_mem_nil, or_false, forall_eq_or_imp, forall_eq]
      exact ⟨fn49, fn51, fn62, fn106, fn113, fn118, fn119, fn140⟩
    exact this p hp
noncomputable def primsX : PrimsV := orPrims prims1 (itoaP 105)
noncomputable def KX : Model := ⟨fnOf tblX, primV primsX⟩
noncomputable def KC : Model := withB KX bldN
theorem waysX {base : Nat} {w0 : World} {out : Prop} : WaysOK Tryz.prog base w0 out primsX := orPrims_ok ways1 itoaP_ok
theorem le_q : Model.le K1 KC := ⟨fun f F h => show fnOf (tbl ++ newX) f = some F from fnOf_app h, fun f args h Q hp => by
  obtain ⟨v, h1, h2⟩ := hp
  exact .inl ⟨v, by show orPrims prims1 _ f args = some v; unfold orPrims; rw [h1], h2⟩⟩
theorem no105 : KC.fn 105 = none := by kernel_rfl
theorem prims1_105 (a : List AV) : prims1 105 a = none := by
  unfold prims1 onFlat
  cases AV.flats a <;> rfl
theorem itoa_ok {n : Int} (hn : okSmall n = true) {h : Heap} {P : AV → Heap → Prop} (hP : ∀ t, P (.str (dd n.toNat)) t) : CallE KC 105 [.int .i64 n] h P := by
  intro Q hQ
  refine .prim (.inl ⟨.flat (.str (dd n.toNat)), ?_, by simpa [PVal.put] using hQ _ [] (hP [])⟩)
  show orPrims prims1 _ 105 _ = _
  unfold orPrims
  rw [prims1_105]
  unfold itoaP
  simp only [hn]
  rfl
theorem itoaP_flat {f : Nat} {a : List AV} {u : PVal} (h : itoaP 105 f a = some u) : ∃ w, u = .flat w := by
  unfold itoaP at h
  cases hf : Nat.beq 105 f with
  | false => rw [hf] at h; cases h
  | true =>
    rw [hf] at h
    simp only [cond_true] at h
    split at h
    · rename_i n
      cases hn : okSmall n with
      | false => rw [hn] at h; cases h
      | true => rw [hn] at h; injection h with h; exact ⟨_, h.symm⟩
    · cases h
theorem primsX_105 {a : List AV} {v : PVal} (h : primsX 105 a = some v) : ∃ u, v = .flat u := by
  have e : primsX 105 a = (match prims1 105 a with
    | some v => some v
    | none => itoaP 105 105 a) := rfl
  rw [e, prims1_105] at h
  exact itoaP_flat h
theorem quiet105 : QuietOps KC (isQ [105]) := by
  intro o ho t h Q1 hr
  unfold isQ at ho
  split at ho
  · rename_i k args
    have hk : k = 105 := by simpa using ho
    subst hk
    cases hr with
    | op he hQ => simp [evalOp] at he
    | callOp hf hc =>
      simp only [MO.eval, AV.fn.injEq] at hf
      obtain ⟨rfl, rfl⟩ := hf
      cases hc with
      | call hF _ => rw [no105] at hF; cases hF
      | prim hp =>
        rcases hp with ⟨v, h1, h2⟩ | hp
        · obtain ⟨u, rfl⟩ := primsX_105 h1
          exact ⟨u, h2, fun h' => .callOp rfl (.prim (.inl ⟨_, h1, rfl, rfl⟩))⟩
        · rcases hp with ⟨hf, _⟩ | ⟨hf, _⟩ <;> cases hf
  · cases ho

theorem callE_at {M : Model} {E : EMod} (hE : EOK M E) {k f n n' : Nat} {args : List AV} {r r' : List AObj} {v : AV} (hn : r.length = n) (h : evF E k (.call f args) n n r = some (.val v n' r')) {g : Heap} {P : AV → Heap → Prop} (hP : ∀ t, P (v.sh g.length) t) : CallE M f (args.map (AV.sh g.length)) (rel g r) P := by
  intro Q hQ
  obtain ⟨st, run⟩ := ev_snd hE g k (.call f args) n n r _ hn (Nat.le_refl _) (evF_eq E k ▸ h) rfl
  refine run Q ?_
  have e : rel g r' = rel g r ++ (rel g r').drop (g.length + n) := by
    conv => lhs; rw [← List.take_append_drop (g.length + n) (rel g r'), st.keep]
    rw [List.take_of_length_le (by rw [len_rel]; omega)]
  rw [e]
  exact hQ _ _ (hP _)

theorem wrapI {k : Int} (h1 : -9223372036854775808 ≤ k) (h2 : k ≤ 9223372036854775807) : IntKind.wrap .i64 k = k := by
  have e3 : (2 : Int) ^ 64 = 18446744073709551616 := by decide
  have e4 : (2 : Int) ^ (64 - 1) = 9223372036854775808 := by decide
  simp only [IntKind.wrap, IntKind.signed, IntKind.bits, Bool.true_and, decide_eq_true_eq, e3, e4]
  split <;> omega

def shps : List (List UInt8 × List UInt8) := [([115, 101, 116], [114, 118]), ([97, 100, 100], [114, 115, 118]), ([115, 117, 98], [114, 115, 118]), ([109, 117, 108], [114, 115, 118]), ([100, 105, 118], [114, 115, 118]), ([114, 101, 109], [114, 115, 118]), ([116, 117, 114, 110], [114, 115]), ([101, 113], [115, 118, 76]), ([110, 101], [115, 118, 76]), ([108, 116], [115, 118, 76]), ([103, 111], [76]), ([99, 97, 108, 108], [76]), ([98, 97, 99, 107], []), ([108, 111, 97, 100], [114, 115, 111]), ([115, 116, 111, 114, 101], [115, 111, 118]), ([99, 97, 115], [114, 115, 111, 118, 119]), ([102, 97, 97], [114, 115, 111, 118]), ([108, 108], [114, 115, 111]), ([115, 99], [114, 115, 111, 118]), ([110, 101, 119], [114, 118]), ([102, 114, 101, 101], [115]), ([99, 111, 112, 121], [115, 118, 111]), ([104, 111, 108, 100], [111, 118]), ([105, 110], []), ([111, 117, 116], []), ([103, 105, 118, 101], [118])]
def encS (x : List UInt8 × List UInt8) : List AV := [.str x.1, .str x.2]
noncomputable def chkShp (v : AV) (n : Nat) (r : List AObj) : Bool := match v, r with
  | .slice b o m, [.arr c es ro] => (Nat.beq b 0 && (Nat.beq o 0 && Nat.beq m 26)) && (Nat.beq es 2 && (!ro && AV.sames (shps.flatMap encS) c))
  | _, _ => false
theorem shapes_ev : (match evF E1 100000 (.call 81 []) 0 0 [] with
    | some (.val v n r) => chkShp v n r
    | _ => false) = true := by kernel_rfl
theorem shapes_ok {h : Heap} {P : AV → Heap → Prop} (hP : ∀ (l : Slc) t, Sl (h ++ t) l 2 encS shps → P l.av t) : CallE KC 81 [] h P := by
  refine CallE.lift le_q (callE_ev eok1 100000 (f := 81) (args := []) rfl shapes_ev fun v n r hc hn => ?_)
  unfold chkShp at hc
  split at hc
  · rename_i b o m c es ro
    simp only [Bool.and_eq_true, Bool.not_eq_true'] at hc
    obtain ⟨⟨h1, h2, h3⟩, h4, h5, h6⟩ := hc
    have h1 := Nat.eq_of_beq_eq_true h1
    have h2 := Nat.eq_of_beq_eq_true h2
    have h3 := Nat.eq_of_beq_eq_true h3
    have h4 := Nat.eq_of_beq_eq_true h4
    obtain ⟨h7, h8⟩ := sames_eq _ _ h6
    subst h1 h2 h3 h4 h5 h7
    have e1 : ([AObj.arr (shps.flatMap encS) 2 false].reverse.map (AObj.sh h.length)) = [AObj.arr (shps.flatMap encS) 2 false] := by
      simp only [List.reverse_cons, List.reverse_nil, List.nil_append, List.map_cons, List.map_nil, AObj.sh]
      rw [flats_shs h8]
    rw [e1]
    have e2 : (AV.slice 0 0 26).sh h.length = (Slc.mk h.length 0 26 false).av := by simp [AV.sh, Slc.av]
    rw [e2]
    refine hP ⟨h.length, 0, 26, false⟩ _ ?_
    have : Ow h.length [AObj.arr (shps.flatMap encS) 2 false] ⟨h.length, 0, 26, false⟩ 2 (shps.flatMap encS) := Ow.mk 0 rfl rfl rfl
    refine this.sl (by decide) (fun _ => rfl) fun j o hj => ?_
    rw [List.getElem?_append_right (by omega), Nat.add_sub_cancel_left]
    exact hj
  · cases hc

def opN (op : Int) : List UInt8 := (shps.getD op.toNat ([], [])).1
def opP (op : Int) : List UInt8 := (shps.getD op.toNat ([], [])).2
theorem shps_at {op : Int} (h0 : 0 ≤ op) (h1 : op < 26) : shps[op.toNat]? = some (opN op, opP op) := by
  have hl : op.toNat < shps.length := by
    have : shps.length = 26 := rfl
    omega
  unfold opN opP
  rw [List.getD_eq_getElem?_getD, List.getElem?_eq_getElem hl]
  rfl
theorem shps_all : (shps.all fun x => decide (x.1.length ≤ 8) && (decide (x.2.length ≤ 5) && x.2.all fun c => decide (c.toNat < 128))) = true := by decide
theorem shps_facts {op : Int} (h0 : 0 ≤ op) (h1 : op < 26) : (opN op).length ≤ 8 ∧ (opP op).length ≤ 5 ∧ ∀ c ∈ opP op, c.toNat < 128 := by
  have := List.all_eq_true.1 shps_all _ (List.mem_of_getElem? (shps_at h0 h1))
  simp only [Bool.and_eq_true, decide_eq_true_eq, List.all_eq_true] at this
  exact this

def regsX : List UInt8 := [97, 98, 99, 100, 101, 102, 103, 104, 105, 106, 107, 108, 120, 121, 116, 110]
def rgV (r : Int) : List UInt8 := (regsX.drop r.toNat).take 1
def wordV (r n : Int) : List UInt8 := if r < 0 then dd n.toNat else rgV r
def okReg (r : Int) : Bool := decide (0 ≤ r) && decide (r < 16)
def okWord (r n : Int) : Bool := if r < 0 then okSmall n else okReg r
theorem okReg_iff {r : Int} : okReg r = true ↔ 0 ≤ r ∧ r < 16 := by simp [okReg]
theorem rgV_len (r : Int) : (rgV r).length ≤ 1 := by
  unfold rgV
  rw [List.length_take]
  omega
theorem wordV_len (r n : Int) : (wordV r n).length ≤ 2 := by
  unfold wordV
  split
  · exact dd_len _
  · have := rgV_len r
    omega
theorem reg_take {r : Int} (h : okReg r = true) : (regsX.drop (Int.toNat r)).take (Int.toNat (IntKind.wrap .i64 (r + 1)) - Int.toNat r) = rgV r := by
  obtain ⟨h0, h1⟩ := okReg_iff.1 h
  rw [wrapI (k := r + 1) (by omega) (by omega), show Int.toNat (r + 1) - Int.toNat r = 1 by omega]
  rfl
theorem reg_bounds {r : Int} (h : okReg r = true) : 0 ≤ r ∧ r ≤ IntKind.wrap .i64 (r + 1) ∧ IntKind.wrap .i64 (r + 1) ≤ ((regsX.length : Nat) : Int) := by
  obtain ⟨h0, h1⟩ := okReg_iff.1 h
  rw [wrapI (k := r + 1) (by omega) (by omega)]
  have : regsX.length = 16 := rfl
  exact ⟨by omega, by omega, by omega⟩
theorem written_ok {r n : Int} (hw : okWord r n = true) {h : Heap} {P : AV → Heap → Prop} (hP : ∀ t, P (.str (wordV r n)) t) : CallE KC 140 [.agg [.int .i64 r, .int .i64 n]] h P := by
  refine d140 (by kernel_rfl) ?_
  unfold D140
  unfold okWord at hw
  unfold wordV at hP
  refine ⟨fun hc => ?_, fun hc => ?_⟩
  · simp only [decide_eq_true_eq] at hc
    rw [if_pos hc] at hw hP
    exact itoa_ok hw fun t => ⟨_, rfl, hP _⟩
  · simp only [decide_eq_false_iff_not] at hc
    rw [if_neg hc] at hw hP
    refine ⟨reg_bounds hw, ?_⟩
    have := reg_take hw
    unfold regsX at this
    rw [this]
    exact hP _

def partV (r sr sn vr vn wr wn n to : Int) (c : UInt8) : List UInt8 :=
  if (((c.toNat : Nat) : Int) == 114) = true then [32] ++ rgV r
  else if (((c.toNat : Nat) : Int) == 115) = true then [32] ++ wordV sr sn
  else if (((c.toNat : Nat) : Int) == 118) = true then [32] ++ wordV vr vn
  else if (((c.toNat : Nat) : Int) == 119) = true then [32] ++ wordV wr wn
  else if (((c.toNat : Nat) : Int) == 111) = true then [32] ++ dd n.toNat
  else [32, 64] ++ dd to.toNat
theorem partV_len (r sr sn vr vn wr wn n to : Int) (c : UInt8) : (partV r sr sn vr vn wr wn n to c).length ≤ 4 := by
  unfold partV
  have := rgV_len r
  have := wordV_len sr sn
  have := wordV_len vr vn
  have := wordV_len wr wn
  have := dd_len n.toNat
  have := dd_len to.toNat
  repeat' split
  all_goals simp only [List.length_append, List.length_cons, List.length_nil]
  all_goals omega
def headV (op : Int) (star : Bool) : List UInt8 := if star = true then opN op ++ [42] else opN op
def lineV (op : Int) (star : Bool) (r sr sn vr vn wr wn n to : Int) : List UInt8 := headV op star ++ (opP op).flatMap (partV r sr sn vr vn wr wn n to)
def okIns (op r sr sn vr vn wr wn n to : Int) : Bool := (decide (0 ≤ op) && decide (op < 26)) && (okReg r && (okWord sr sn && (okWord vr vn && (okWord wr wn && (okSmall n && okSmall to)))))
end Go.Proofs.YtifkphfhadimaaaGreatDoor.Mini

