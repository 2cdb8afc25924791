/- locklessref16.Table, Find and Takes, on the abstract machine. -/
import Derived.Test.YthedodaghjpdoaaFind
set_option linter.unusedVariables false
set_option linter.unusedSimpArgs false
set_option maxRecDepth 100000
namespace Go.Proofs.Ythedodaghjpdoaa.Kinds
open Go.Abs Mini

structure RRow where
  nm : List UInt8
  rule : Int
  at_ : Nat
  lo : Int
  hi : Int
  strict : Bool
  point : Bool
  deriving Inhabited

def robjs : List (List (List UInt8 × Int × Int)) := [
  [([97, 100, 100], 1, 4), ([114, 101, 109], 1, 4), ([104, 97, 115], 1, 4)],
  [([112, 117, 115, 104], 1, 4), ([112, 111, 112], 0, 4)],
  [([112, 117, 115, 104], 1, 4), ([112, 111, 112], 0, 4)],
  [([101, 110, 113], 1, 4), ([100, 101, 113], 0, 4)],
  [([101, 110, 113], 1, 4), ([100, 101, 113], 0, 4)],
  [([112, 117, 115, 104], 1, 1), ([112, 111, 112], 0, 1), ([115, 116, 101, 97, 108], 0, 4)],
  [([112, 117, 116], 1, 4), ([116, 97, 107, 101], 0, 4)],
  [([112, 117, 116], 1, 4), ([103, 101, 116], 0, 4)],
  [([97, 100, 100], 1, 4), ([114, 101, 109], 1, 4), ([104, 97, 115], 1, 4), ([97, 108, 108], 0, 4)],
  [([110, 101, 120, 116], 1, 4)],
  [([119, 114, 105, 116, 101], 1, 4), ([114, 101, 97, 100], 0, 4)],
  [([117, 112, 100, 97, 116, 101], 1, 2), ([115, 99, 97, 110], 0, 4)],
  [([117, 110, 105, 116, 101], 2, 4), ([115, 97, 109, 101], 2, 4)],
  [([112, 117, 116], 1, 4), ([109, 111, 118, 101], 1, 4), ([98, 111, 116, 104], 0, 4)],
  [([97, 100, 100], 1, 3), ([103, 101, 116], 0, 4)],
  [([112, 117, 116, 97], 1, 4), ([112, 117, 116, 98], 1, 4), ([103, 101, 116, 97], 0, 4), ([103, 101, 116, 98], 0, 4), ([109, 111, 118, 101], 0, 4)],
  [([97, 100, 100], 1, 4), ([103, 101, 116], 0, 4)],
  [([112, 117, 115, 104], 1, 4), ([112, 111, 112], 0, 4)]]
def rtab : List RRow := [
  ⟨[115, 116, 97, 99, 107], 1, 1, 0, 900, true, true⟩,
  ⟨[101, 108, 105, 109], 1, 2, 0, 900, true, false⟩,
  ⟨[113, 117, 101, 117, 101], 2, 3, 0, 900, true, true⟩,
  ⟨[114, 105, 110, 103], 3, 4, 0, 900, true, true⟩,
  ⟨[100, 101, 113, 117, 101], 4, 5, 0, 900, true, false⟩,
  ⟨[112, 113], 5, 6, 0, 900, true, true⟩,
  ⟨[108, 97, 110, 101, 115], 6, 7, 0, 900, true, true⟩,
  ⟨[108, 105, 115, 116], 7, 0, 0, 900, true, true⟩,
  ⟨[115, 107, 105, 112], 7, 0, 0, 900, false, true⟩,
  ⟨[116, 114, 101, 101], 7, 0, 0, 900, false, true⟩,
  ⟨[116, 114, 105, 101], 8, 8, 0, 15, true, true⟩,
  ⟨[104, 97, 115, 104], 7, 0, 0, 15, false, true⟩,
  ⟨[110, 101, 116], 9, 9, 0, 900, true, false⟩,
  ⟨[119, 105, 100, 101], 10, 10, 0, 900, true, true⟩,
  ⟨[115, 110, 97, 112], 11, 11, 0, 900, true, true⟩,
  ⟨[117, 110, 105, 111, 110], 12, 12, 0, 7, true, true⟩,
  ⟨[112, 97, 105, 114], 13, 13, 0, 99, true, false⟩,
  ⟨[117, 110, 105], 14, 14, 1, 99, true, false⟩,
  ⟨[116, 119, 105, 110], 15, 15, 0, 900, true, true⟩,
  ⟨[116, 97, 108, 108, 121], 16, 16, -900, 900, true, true⟩,
  ⟨[98, 97, 114, 101], 1, 17, 0, 900, false, false⟩]
def rrow (i : Nat) : RRow := rtab.getD i default
def rcalls (i : Nat) : List (List UInt8 × Int × Int) := robjs.getD (rrow i).at_ []

def rcCells (l : List (List UInt8 × Int × Int)) : List AV := l.flatMap fun p => [.str p.1, .int .i64 p.2.1, .int .i64 p.2.2]
def rObj (k : Nat) : AObj := .arr (rcCells (robjs.getD k [])) 3 false
def hr (h : Heap) : Nat → Heap
  | 0 => h
  | k + 1 => hr h k ++ [rObj k]
def R7 (i c : Nat) : List AV := [.str (rrow i).nm, .int .i64 (rrow i).rule, .slice c 0 (rcalls i).length, .int .i64 (rrow i).lo, .int .i64 (rrow i).hi, .bool (rrow i).strict, .bool (rrow i).point]
def rC (h : Heap) (i : Nat) : List AV := R7 i (hr h (rrow i).at_).length
def rtObj (h : Heap) : AObj := .arr ((List.range 21).flatMap (rC h)) 7 false

theorem rtable_does (h : Heap) : Does K 16 [] h (.slice (hr h 18).length 0 21) (hr h 18 ++ [rtObj h]) := does_of_exec (n := 400) [] [] (by kernel_rfl) (by simp)

theorem hr_eq (h : Heap) : ∀ k, hr h k = h ++ (List.range k).map rObj
  | 0 => by simp [hr]
  | k + 1 => by rw [hr, hr_eq h k, List.range_succ]; simp

theorem hr_ext (h : Heap) (k : Nat) (o : AObj) : Ext h (hr h k ++ [o]) := ⟨(List.range k).map rObj ++ [o], by rw [hr_eq]; simp⟩

theorem hr_get {h : Heap} {i : Nat} (hi : i < 18) (o : AObj) : (hr h 18 ++ [o])[(hr h i).length]? = some (rObj i) := by
  rw [hr_eq, hr_eq, List.append_assoc, List.length_append, List.getElem?_append_right (by omega)]
  have : h.length + (List.map rObj (List.range i)).length - h.length = i := by simp
  rw [this, List.getElem?_append_left (by simpa using hi)]
  simp [hi]

theorem rat_lt : ∀ i, i < 21 → (rrow i).at_ < 18 := by decide

theorem rtab_get {h : Heap} {i : Nat} (hi : i < 21) : Abs.rdVar (hr h 18 ++ [rtObj h]) (some 7) (hr h 18).length (0 + i * 7) = some (.agg (rC h i)) := by
  have hl : ((List.range 21).flatMap (rC h)).length = 147 := rfl
  simp only [Abs.rdVar, rdCells, Option.map_eq_some_iff]
  refine ⟨rC h i, ?_, rfl⟩
  rw [List.getElem?_append_right (Nat.le_refl _)]
  simp only [Nat.sub_self, List.getElem?_cons_zero, rtObj, hl]
  rw [if_pos (by omega), Nat.zero_add]
  have := flat_take (rC h) (m := 7) (fun _ => rfl) i 0 21 hi
  rw [← List.range_eq_range'] at this
  rw [this, Nat.zero_add]

theorem rd_first {H : Heap} {b o m : Nat} {v : AV} {E : List AV} (hm : E.length + 1 = m) (hr : Abs.rdVar H (some m) b o = some (.agg (v :: E))) : Abs.rdVar H none b (o + 0) = some v := by
  simp only [Abs.rdVar, rdCells, Option.map_eq_some_iff, AV.agg.injEq, Option.bind_eq_some_iff, Nat.add_zero] at hr ⊢
  obtain ⟨l, h1, h2⟩ := hr
  split at h1
  · rename_i c es ro hc
    split at h1
    · rename_i hle
      simp only [Option.some.injEq] at h1
      rw [← h1] at h2
      refine ⟨[v], ?_, rfl⟩
      rw [if_pos (by omega)]
      have e1 : (c.drop o).take 1 = ((c.drop o).take m).take 1 := by rw [List.take_take]; congr 1; omega
      rw [e1, h2]
      rfl
    · cases h1
  · cases h1
end Go.Proofs.Ythedodaghjpdoaa.Kinds
