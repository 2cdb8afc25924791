/- The names of the structures and the fixed example, by the newer evaluator. -/
import Derived.Test.YtifkphfhadimaaaGreatDoorMiniF
import Derived.Test.YtifkphfhadimaaaGreatDoorKn0
import Derived.Test.YtifkphfhadimaaaGreatDoorKn1
import Derived.Test.YtifkphfhadimaaaGreatDoorKn2
import Derived.Test.YtifkphfhadimaaaGreatDoorKs0
import Derived.Test.YtifkphfhadimaaaGreatDoorKs1
import Derived.Test.YtifkphfhadimaaaGreatDoorKs2
import Derived.Test.YtifkphfhadimaaaGreatDoorKs3
import Derived.Test.YtifkphfhadimaaaGreatDoorKs4
import Derived.Test.YtifkphfhadimaaaGreatDoorAbsG4
import Derived.Test.YtifkphfhadimaaaGreatDoorAbsG10
set_option linter.unusedVariables false
set_option linter.unusedSimpArgs false
set_option maxRecDepth 100000
namespace Go.Proofs.YtifkphfhadimaaaGreatDoor.Mini
open Go.Abs
def nm21 : List (List UInt8) := [[115, 116, 97, 99, 107], [101, 108, 105, 109], [113, 117, 101, 117, 101], [114, 105, 110, 103], [100, 101, 113, 117, 101], [112, 113], [108, 97, 110, 101, 115], [108, 105, 115, 116], [115, 107, 105, 112], [116, 114, 101, 101], [116, 114, 105, 101], [104, 97, 115, 104], [110, 101, 116], [119, 105, 100, 101], [115, 110, 97, 112], [117, 110, 105, 111, 110], [112, 97, 105, 114], [117, 110, 105], [116, 119, 105, 110], [116, 97, 108, 108, 121], [98, 97, 114, 101]]
def nm (k : Nat) : List UInt8 := nm21.getD k []
theorem nm_get {k : Nat} (hk : k < 21) : nm21[k]? = some (nm k) := by
  unfold nm
  rw [List.getD_eq_getElem?_getD]
  have : k < nm21.length := hk
  rw [List.getElem?_eq_getElem this]
  rfl

/-- The structure's number of a raw number. -/
def ix (w : Int) : Nat := ((w % 18446744073709551616) % 21).toNat
theorem ix_lt (w : Int) : ix w < 21 := by unfold ix; omega
theorem idx_ix (w : Int) : IntKind.wrap .i64 (Int.tmod (IntKind.wrap .u64 w) (IntKind.wrap .u64 ((21 : Nat) : Int))) = (ix w : Int) := by
  have e1 : IntKind.wrap .u64 ((21 : Nat) : Int) = 21 := by decide
  have e2 : IntKind.wrap .u64 w = w % 18446744073709551616 := by
    have : (2 : Int) ^ 64 = 18446744073709551616 := by decide
    simp only [IntKind.wrap, IntKind.signed, IntKind.bits, Bool.false_and, Bool.false_eq_true, if_false, this]
  rw [e1, e2, Int.tmod_eq_emod_of_nonneg (by omega)]
  have e3 : (2 : Int) ^ 64 = 18446744073709551616 := by decide
  have e4 : (2 : Int) ^ (64 - 1) = 9223372036854775808 := by decide
  simp only [IntKind.wrap, IntKind.signed, IntKind.bits, Bool.true_and, decide_eq_true_eq, e3, e4]
  rw [if_neg (by omega)]
  unfold ix
  omega
/-- lockless/locklesslaw16.nameOf -/
def D26 (M : Model) (n1 : Int) (h : Heap) (P : AV → Heap → Prop) : Prop :=
CallE M 27 [] h fun rv1 t1 =>
∃ (l1 : Slc), rv1 = l1.av ∧
(IntKind.wrap .u64 ((l1.len : Nat) : Int)) ≠ 0 ∧
(0 ≤ (IntKind.wrap .i64 (Int.tmod (IntKind.wrap .u64 n1) (IntKind.wrap .u64 ((l1.len : Nat) : Int)))) ∧
(IntKind.wrap .i64 (Int.tmod (IntKind.wrap .u64 n1) (IntKind.wrap .u64 ((l1.len : Nat) : Int)))) < (l1.len : Int)) ∧
∃ (w1 : List UInt8), rdVar (h ++ t1) none l1.b (l1.o + ((IntKind.wrap .i64 (Int.tmod (IntKind.wrap .u64 n1) (IntKind.wrap .u64 ((l1.len : Nat) : Int)))) : Int).toNat * 7) = some (.str w1) ∧
P (.str w1) t1
theorem d26 {M : Model} {n1 : Int} {h : Heap} {P : AV → Heap → Prop} (hF : M.fn 26 = some F26) (hd : D26 M n1 h P) : CallE M 26 [(.int .i64 n1)] h P :=
  callE_of_wp (hi := (.op ⟨.raw, 0, true, 0⟩ (.op ⟨.slc, 0, true, 0⟩ (.op ⟨.raw, 0, true, 0⟩ (.op ⟨.raw, 0, true, 0⟩ (.op ⟨.raw, 0, true, 0⟩ (.op ⟨.raw, 0, true, 0⟩ (.op ⟨.raw, 0, true, 0⟩ (.op ⟨.raw, 0, true, 0⟩ (.op ⟨.raw, 0, true, 0⟩ (.op ⟨.raw, 0, true, 1⟩ (.op ⟨.raw, 0, true, 0⟩ (.op ⟨.raw, 0, true, 0⟩ (.op ⟨.raw, 0, true, 0⟩ (.op ⟨.str, 2, true, 0⟩ (.op ⟨.raw, 0, true, 0⟩ .nil)))))))))))))))) (args := [(.av (.int .i64 n1))]) hF (by simp [oks, SV.ok]) (Eq.mp (α := D26 M n1 h P) (by kernel_rfl) hd)
noncomputable def keysQ : List (KeyMemo K1q) := [kSpl0, kSpl1, kSpl2, kSpl3, kSpl4, kSpl5, kSpl6, kSpl7, kSpl8, kSpl9, kSpl10, kSpl11, kSpl12, kSpl13, kSpl14, kSpl15, kSpl16, kSpl17, kSpl18, kSpl19, kSpl20, kNum, kReg, kCutp, kSufStar, kSufCol, kTrimStar, kTrimCol, kLab, kCut0, kFld0, kCut1, kFld1, kCut2, kFld2, kCut3, kFld3, kCut4, kFld4, kCut5, kFld5, kCut6, kFld6, kCut7, kFld7, kCut8, kFld8, kCut9, kFld9]
noncomputable def rawA : PrimsV := orPrims (keyP keysQ) (orPrims (natE2 204 176) prims1)
noncomputable def primsA : PrimsV := quick [80, 128, 191, 192, 129, 130, 131, 82, 83, 155, 176, 204] rawA
theorem rawA_ok {base : Nat} {w0 : World} {out : Prop} : WaysOK Tryz.prog base w0 out rawA := orPrims_ok (keyP_ok fits1q _) (orPrims_ok ways204 ways1)
noncomputable def newA : List (Nat × MFunc) := [(26, F26), (27, F27)]
noncomputable def tblA : List (Nat × MFunc) := tbl ++ newA
theorem tblA_ok : ∀ p ∈ tblA, (modelOf Tryz.prog noPrim).fn p.1 = some p.2 := by
  intro p hp
  rcases List.mem_append.1 hp with hp | hp
  · exact tbl_ok p hp
  · have : ∀ p ∈ newA, (modelOf Tryz.prog noPrim).fn p.1 = some p.2 := by
      simp only [newA, List.mem_cons, List.not_mem_nil, or_false, forall_eq_or_imp, forall_eq]
      exact ⟨fn26, fn27⟩
    exact this p hp
noncomputable def KA : Model := ⟨fnOf tblA, primV primsA⟩
noncomputable def newAQ : List (Nat × MFunc) := [(26, F26), (27, F27)]
noncomputable def EA : EMod := ⟨fnOf (tblQ ++ newAQ), primsA⟩
theorem goodsA : goodsR tblA [] = true := by kernel_rfl
theorem newAQ_eq : newAQ = newA.map fun x => (x.1, relaxF x.2 []) := by kernel_rfl
theorem eokA : EOK KA EA := eok_quick (eokR_table goodsA (quick_sh _ _)) (by rw [tblA, List.map_append, tblQ_eq, newAQ_eq])
theorem fitsA {base : Nat} {w0 : World} {out : Prop} : Fits Tryz.prog base w0 out KA := fits_ways mixed tblA tblA_ok _ (quick_ok rawA_ok)
theorem callE_evE {M : Model} {E : EMod} (hE : EOK M E) {k f : Nat} {args : List AV} (ha : AV.flats args = true) {u : AV} (h : givesT (evE E k f args 0 0 .leaf) (.flat u) = true) {g : Heap} {P : AV → Heap → Prop} (hP : ∀ t, P u t) : CallE M f args g P := by
  unfold givesT at h
  split at h
  · rename_i v n H hev
    obtain ⟨k', r, h1, h2⟩ := evE_evF hev
    obtain ⟨rfl, hf⟩ := same_eq _ _ h
    intro Q hQ
    have run := evF_does hE h1 g Q (by rw [flat_sh _ _ hf]; exact hQ _ _ (hP (r.reverse.map (AObj.sh g.length))))
    rwa [flats_shs ha] at run
  · cases h
theorem awake_run : givesT (evE EA 100000 24 [] 0 0 .leaf) (.flat (.bool true)) = true := by kernel_rfl
theorem awakeA {h : Heap} {P : AV → Heap → Prop} (hP : ∀ t, P (.bool true) t) : CallE KA 24 [] h P := callE_evE eokA rfl awake_run hP
/-- The table of the reference: 21 rows of seven cells; a row begins with its name. -/
noncomputable def chkT (v : AV) (H : BT AObj) : Bool := match v with
  | .slice b o m => match H.at b with
    | some (.arr c es ro) => Nat.beq o 0 && Nat.beq m 21 && strsAt 7 nm21 c
    | _ => false
  | _ => false
theorem table_run : (match evE EA 100000 27 [] 0 0 .leaf with
    | some (.val v n H) => chkT v H
    | _ => false) = true := by kernel_rfl
theorem table_ok {h : Heap} {P : AV → Heap → Prop} (hP : ∀ (s : Slc) t, s.nil = false → s.len = 21 → (∀ k, k < 21 → rdVar (h ++ t) none s.b (s.o + k * 7) = some (.str (nm k))) → P s.av t) : CallE KA 27 [] h P := by
  have hc := table_run
  split at hc
  · rename_i v n H hev
    obtain ⟨k', r, h1, h2⟩ := evE_evF hev
    intro Q hQ
    refine evF_does eokA h1 h Q ?_
    unfold chkT at hc
    split at hc
    · rename_i b o m
      split at hc
      · rename_i c es ro hx
        simp only [Bool.and_eq_true] at hc
        obtain ⟨⟨g1, g2⟩, g3⟩ := hc
        have g1 := Nat.eq_of_beq_eq_true g1
        have g2 := Nat.eq_of_beq_eq_true g2
        subst g1 g2
        refine hQ _ _ (hP ⟨b + h.length, 0, 21, false⟩ (r.reverse.map (AObj.sh h.length)) rfl rfl fun k hk => ?_)
        refine rdVar_at (rowEv_at h2.len (by rw [← h2.get b]; exact hx)) ?_
        rw [List.getElem?_map, Nat.zero_add, strsAt_get g3 k _ (nm_get hk)]
        rfl
      · cases hc
    · cases hc
  · cases hc
theorem nameIx_ok {w : Int} {h : Heap} {P : AV → Heap → Prop} (hP : ∀ t, P (.str (nm (ix w))) t) : CallE KA 26 [.int .i64 w] h P := by
  refine d26 (by kernel_rfl) ?_
  unfold D26
  refine table_ok fun s t hs hl hg => ?_
  have hk := ix_lt w
  refine ⟨s, rfl, ?_⟩
  rw [hl, idx_ix]
  exact ⟨by decide, ⟨by omega, by omega⟩, nm (ix w), by simpa using hg (ix w) hk, hP t⟩
/-- The shapes of instructions, reckoned. -/
def shapesV : PVal := (.row 26 [(.str [115, 101, 116]), (.str [114, 118]), (.str [97, 100, 100]), (.str [114, 115, 118]), (.str [115, 117, 98]), (.str [114, 115, 118]), (.str [109, 117, 108]), (.str [114, 115, 118]), (.str [100, 105, 118]), (.str [114, 115, 118]), (.str [114, 101, 109]), (.str [114, 115, 118]), (.str [116, 117, 114, 110]), (.str [114, 115]), (.str [101, 113]), (.str [115, 118, 76]), (.str [110, 101]), (.str [115, 118, 76]), (.str [108, 116]), (.str [115, 118, 76]), (.str [103, 111]), (.str [76]), (.str [99, 97, 108, 108]), (.str [76]), (.str [98, 97, 99, 107]), (.str []), (.str [108, 111, 97, 100]), (.str [114, 115, 111]), (.str [115, 116, 111, 114, 101]), (.str [115, 111, 118]), (.str [99, 97, 115]), (.str [114, 115, 111, 118, 119]), (.str [102, 97, 97]), (.str [114, 115, 111, 118]), (.str [108, 108]), (.str [114, 115, 111]), (.str [115, 99]), (.str [114, 115, 111, 118]), (.str [110, 101, 119]), (.str [114, 118]), (.str [102, 114, 101, 101]), (.str [115]), (.str [99, 111, 112, 121]), (.str [115, 118, 111]), (.str [104, 111, 108, 100]), (.str [111, 118]), (.str [105, 110]), (.str []), (.str [111, 117, 116]), (.str []), (.str [103, 105, 118, 101]), (.str [118])] 2)
noncomputable def kShapes : Memo KA := ⟨81, [], shapesV, memo_runsE eokA (k := 100000) rfl (by kernel_rfl)⟩
end Go.Proofs.YtifkphfhadimaaaGreatDoor.Mini

