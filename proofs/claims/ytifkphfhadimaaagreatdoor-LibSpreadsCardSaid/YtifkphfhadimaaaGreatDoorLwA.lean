/- Layer 16: the names, and the laws LibNames and LibEach. -/
import Derived.Test.YtifkphfhadimaaaGreatDoorMemoC
import Derived.Test.YtifkphfhadimaaaGreatDoorDecT
import Derived.Test.YtifkphfhadimaaaGreatDoorAbsG6
import Derived.Test.YtifkphfhadimaaaGreatDoorAbsG4
set_option linter.unusedVariables false
set_option linter.unusedSimpArgs false
set_option maxRecDepth 100000
namespace Go.Proofs.YtifkphfhadimaaaGreatDoor.Mini
open Go.Abs
noncomputable def prims4 : PrimsV := onFlat (orPrims (memoP memosc) prims3)
noncomputable def K4 : Model := ⟨fnOf tblB, primV prims4⟩
noncomputable def E4 : EMod := ⟨fnR tblB [], prims4⟩
theorem eok4 : EOK K4 E4 := eokR_table goods3 (onFlat_sh _)
theorem ways4 {base : Nat} {w0 : World} {out : Prop} : WaysOK Tryz.prog base w0 out prims4 := onFlat_ok (orPrims_ok (memoP_ok fits3 _) ways3)
def nm21 : List (List UInt8) := [[115, 116, 97, 99, 107], [101, 108, 105, 109], [113, 117, 101, 117, 101], [114, 105, 110, 103], [100, 101, 113, 117, 101], [112, 113], [108, 97, 110, 101, 115], [108, 105, 115, 116], [115, 107, 105, 112], [116, 114, 101, 101], [116, 114, 105, 101], [104, 97, 115, 104], [110, 101, 116], [119, 105, 100, 101], [115, 110, 97, 112], [117, 110, 105, 111, 110], [112, 97, 105, 114], [117, 110, 105], [116, 119, 105, 110], [116, 97, 108, 108, 121], [98, 97, 114, 101]]
def nm (k : Nat) : List UInt8 := nm21.getD k []
theorem nm_get {k : Nat} (hk : k < 21) : nm21[k]? = some (nm k) := by
  unfold nm
  rw [List.getD_eq_getElem?_getD]
  have : k < nm21.length := hk
  rw [List.getElem?_eq_getElem this]
  rfl

/-- The table of the reference: 21 rows of seven cells; a row begins with its name. -/
noncomputable def chkT (v : AV) (n : Nat) (r : List AObj) : Bool := match v with
  | .slice b o m => match ratF n r b with
    | some (.arr c es ro) => Nat.beq o 0 && Nat.beq m 21 && strsAt 7 nm21 c
    | _ => false
  | _ => false
theorem table_run : (match evF E4 100000 (.call 27 []) 0 0 [] with
    | some (.val v n r) => chkT v n r
    | _ => false) = true := by kernel_rfl

theorem table_ok {h : Heap} {P : AV → Heap → Prop} (hP : ∀ (s : Slc) t, s.nil = false → s.len = 21 → (∀ k, k < 21 → rdVar (h ++ t) none s.b (s.o + k * 7) = some (.str (nm k))) → P s.av t) : CallE K4 27 [] h P := by
  refine callE_ev (f := 27) (args := []) (chk := chkT) eok4 100000 (by kernel_rfl) table_run fun v n r hc hn => ?_
  unfold chkT at hc
  split at hc
  · rename_i b o m
    rw [ratF_eq] at hc
    split at hc
    · rename_i c es ro hx
      simp only [Bool.and_eq_true] at hc
      obtain ⟨⟨h1, h2⟩, h3⟩ := hc
      have h1 := Nat.eq_of_beq_eq_true h1
      have h2 := Nat.eq_of_beq_eq_true h2
      subst h1 h2
      refine hP ⟨b + h.length, 0, 21, false⟩ _ rfl rfl fun k hk => ?_
      refine rdVar_at (rowEv_at hn hx) ?_
      rw [List.getElem?_map, Nat.zero_add, strsAt_get h3 k _ (nm_get hk)]
      rfl
    · cases hc
  · cases hc

theorem awake4 {h : Heap} {P : AV → Heap → Prop} (hP : P (.bool true) []) : CallE K4 24 [] h P := callE_flat (by kernel_rfl) hP
end Go.Proofs.YtifkphfhadimaaaGreatDoor.Mini

