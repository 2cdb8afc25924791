/- Layer 16: the names, and the laws LibNames and LibEach. -/
import Derived.Test.YtifkphfhadimaaaGreatDoorMemoC
import Derived.Test.YtifkphfhadimaaaGreatDoorDecT
import Derived.Test.YtifkphfhadimaaaGreatDoorAbsG6
import Derived.Test.YtifkphfhadimaaaGreatDoorAbsG4
set_option linter.unusedVariables false
set_option linter.unusedSimpArgs false
set_option maxRecDepth 100000
namespace Go.Proofs.YtifkphfhadimaaaGreatDoor.Mini
open Go.Abs
noncomputable def prims4 : PrimsV := onFlat (orPrims (memoP memosc) prims3)
noncomputable def K4 : Model := ⟨fnOf tblB, primV prims4⟩
noncomputable def E4 : EMod := ⟨fnR tblB [], prims4⟩
theorem eok4 : EOK K4 E4 := eokR_table goods3 (onFlat_sh _)
theorem ways4 {base : Nat} {w0 : World} {out : Prop} : WaysOK Tryz.prog base w0 out prims4 := onFlat_ok (orPrims_ok (memoP_ok fits3 _) ways3)
theorem fits4 {base : Nat} {w0 : World} {out : Prop} : Fits Tryz.prog base w0 out K4 := fits_ways mixed tblB tblB_ok _ ways4

def nm21 : List (List UInt8) := [[115, 116, 97, 99, 107], [101, 108, 105, 109], [113, 117, 101, 117, 101], [114, 105, 110, 103], [100, 101, 113, 117, 101], [112, 113], [108, 97, 110, 101, 115], [108, 105, 115, 116], [115, 107, 105, 112], [116, 114, 101, 101], [116, 114, 105, 101], [104, 97, 115, 104], [110, 101, 116], [119, 105, 100, 101], [115, 110, 97, 112], [117, 110, 105, 111, 110], [112, 97, 105, 114], [117, 110, 105], [116, 119, 105, 110], [116, 97, 108, 108, 121], [98, 97, 114, 101]]
def nm (k : Nat) : List UInt8 := nm21.getD k []
theorem nm_get {k : Nat} (hk : k < 21) : nm21[k]? = some (nm k) := by
  unfold nm
  rw [List.getD_eq_getElem?_getD]
  have : k < nm21.length := hk
  rw [List.getElem?_eq_getElem this]
  rfl

/-- The table of the reference: 21 rows of seven cells; a row begins with its name. -/
noncomputable def chkT (v : AV) (n : Nat) (r : List AObj) : Bool := match v with
  | .slice b o m => match ratF n r b with
    | some (.arr c es ro) => Nat.beq o 0 && Nat.beq m 21 && strsAt 7 nm21 c
    | _ => false
  | _ => false
theorem table_run : (match evF E4 100000 (.call 27 []) 0 0 [] with
    | some (.val v n r) => chkT v n r
    | _ => false) = true := by kernel_rfl

theorem table_ok {h : Heap} {P : AV → Heap → Prop} (hP : ∀ (s : Slc) t, s.nil = false → s.len = 21 → (∀ k, k < 21 → rdVar (h ++ t) none s.b (s.o + k * 7) = some (.str (nm k))) → P s.av t) : CallE K4 27 [] h P := by
  refine callE_ev (f := 27) (args := []) (chk := chkT) eok4 100000 (by kernel_rfl) table_run fun v n r hc hn => ?_
  unfold chkT at hc
  split at hc
  · rename_i b o m
    rw [ratF_eq] at hc
    split at hc
    · rename_i c es ro hx
      simp only [Bool.and_eq_true] at hc
      obtain ⟨⟨h1, h2⟩, h3⟩ := hc
      have h1 := Nat.eq_of_beq_eq_true h1
      have h2 := Nat.eq_of_beq_eq_true h2
      subst h1 h2
      refine hP ⟨b + h.length, 0, 21, false⟩ _ rfl rfl fun k hk => ?_
      refine rdVar_at (rowEv_at hn hx) ?_
      rw [List.getElem?_map, Nat.zero_add, strsAt_get h3 k _ (nm_get hk)]
      rfl
    · cases hc
  · cases hc

theorem idx21 (w : Int) : ∃ k : Nat, k < 21 ∧ IntKind.wrap .i64 (Int.tmod (IntKind.wrap .u64 w) (IntKind.wrap .u64 ((21 : Nat) : Int))) = (k : Int) := by
  have e1 : IntKind.wrap .u64 ((21 : Nat) : Int) = 21 := by decide
  have e2 : IntKind.wrap .u64 w = w % 18446744073709551616 := by
    have : (2 : Int) ^ 64 = 18446744073709551616 := by decide
    simp only [IntKind.wrap, IntKind.signed, IntKind.bits, Bool.false_and, Bool.false_eq_true, if_false, this]
  rw [e1, e2, Int.tmod_eq_emod_of_nonneg (by omega)]
  refine ⟨((w % 18446744073709551616) % 21).toNat, by omega, ?_⟩
  have e3 : (2 : Int) ^ 64 = 18446744073709551616 := by decide
  have e4 : (2 : Int) ^ (64 - 1) = 9223372036854775808 := by decide
  simp only [IntKind.wrap, IntKind.signed, IntKind.bits, Bool.true_and, decide_eq_true_eq, e3, e4]
  rw [if_neg (by omega)]
  omega

theorem awake4 {h : Heap} {P : AV → Heap → Prop} (hP : P (.bool true) []) : CallE K4 24 [] h P := callE_flat (by kernel_rfl) hP
theorem names4 {h : Heap} {P : AV → Heap → Prop} (hP : ∀ (s : Slc) t, s.nil = false → s.len = 21 → (∀ k, k < 21 → rdVar (h ++ t) none s.b (s.o + k * 1) = some (.str (nm k))) → P s.av t) : CallE K4 28 [] h P := by
  refine callE_row (n := 21) (c := nm21.map .str) (es := 1) (by kernel_rfl) (hP ⟨h.length, 0, 21, false⟩ _ rfl rfl fun k hk => ?_)
  refine rdVar_at (c := nm21.map .str) (es := 1) (ro := false) (by simp) ?_
  simp [nm_get hk]

theorem nameOf_ok {w : Int} {h : Heap} {P : AV → Heap → Prop} (hP : ∀ k t, k < 21 → P (.str (nm k)) t) : CallE K4 26 [.int .i64 w] h P := by
  refine d26 (by kernel_rfl) ?_
  unfold D26
  refine table_ok fun s t hs hl hg => ?_
  obtain ⟨k, hk, he⟩ := idx21 w
  refine ⟨s, rfl, ?_⟩
  rw [hl, he]
  exact ⟨by decide, ⟨by omega, by omega⟩, nm k, by simpa using hg k hk, hP k t hk⟩

theorem libNames_ok {w : Int} {h : Heap} {P : AV → Heap → Prop} (hP : ∀ t, P (.bool true) t) : CallE K4 4 [.int .i64 w] h P := by
  refine d4 (by kernel_rfl) ?_
  unfold D4
  refine awake4 ⟨true, rfl, fun hb => by simp at hb, fun _ => ?_⟩
  refine table_ok fun s1 t1 hs1 hl1 hg1 => ⟨s1, rfl, ?_⟩
  refine names4 fun s2 t2 hs2 hl2 hg2 => ⟨s2, rfl, ?_⟩
  obtain ⟨k, hk, he⟩ := idx21 w
  rw [hl1, hl2, he]
  refine ⟨fun hb => by simp at hb, fun _ => ⟨by decide, ⟨by omega, by omega⟩, nm k, ?_, ⟨by omega, by omega⟩, nm k, ?_, ?_⟩⟩
  · have := hg2 k hk
    simpa using this
  · have := (inferInstance : ExtC (h ++ [] ++ t1) (h ++ [] ++ (t1 ++ t2))).out.rdVar (hg1 k hk)
    simpa using this
  · simp only [beq_self_eq_true]
    exact hP _

def isTrue : Option PVal → Bool
  | some (.flat (.bool true)) => true
  | _ => false
theorem isTrue_eq {x : Option PVal} (h : isTrue x = true) : x = some (.flat (.bool true)) := by
  unfold isTrue at h
  split at h
  · rfl
  · cases h
theorem libTable_all : ((List.range 21).all fun k => isTrue (prims4 10 [.str (nm k)])) = true := by kernel_rfl
theorem libTable_known (k : Nat) (hk : k < 21) : prims4 10 [.str (nm k)] = some (.flat (.bool true)) :=
  isTrue_eq (List.all_eq_true.1 libTable_all k (List.mem_range.2 hk))

theorem libEach_ok {w : Int} {h : Heap} {P : AV → Heap → Prop} (hP : ∀ t, P (.bool true) t) : CallE K4 11 [.int .i64 w] h P := by
  refine d11 (by kernel_rfl) ?_
  unfold D11
  refine nameOf_ok fun k t hk => ⟨nm k, rfl, ?_⟩
  refine callE_flat (libTable_known k hk) ⟨true, rfl, fun _ => ?_, fun hb => by cases hb⟩
  exact awake4 ⟨true, rfl, hP _⟩
end Go.Proofs.YtifkphfhadimaaaGreatDoor.Mini
