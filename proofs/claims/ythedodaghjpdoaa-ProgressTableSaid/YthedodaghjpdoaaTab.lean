/- The tables of lib and of locklessref16, and lib.find, on the abstract machine. -/
import Derived.Test.YthedodaghjpdoaaIdx
set_option linter.unusedVariables false
set_option linter.unusedSimpArgs false
set_option maxRecDepth 100000
namespace Go.Proofs.Ythedodaghjpdoaa.Kinds
open Go.Abs Mini

structure Row where
  nm : List UInt8
  rule : Int
  calls : List (List UInt8 × Int)
  lo : Int
  hi : Int
  safe : Bool
  strict : Bool
  point : Bool
  deriving Inhabited

def tab : List Row := [
  ⟨[115, 116, 97, 99, 107], 1, [([112, 117, 115, 104], 1), ([112, 111, 112], 0)], 0, 900, true, true, true⟩,
  ⟨[101, 108, 105, 109], 1, [([112, 117, 115, 104], 1), ([112, 111, 112], 0)], 0, 900, true, true, false⟩,
  ⟨[113, 117, 101, 117, 101], 2, [([101, 110, 113], 1), ([100, 101, 113], 0)], 0, 900, true, true, true⟩,
  ⟨[114, 105, 110, 103], 3, [([101, 110, 113], 1), ([100, 101, 113], 0)], 0, 900, true, true, true⟩,
  ⟨[100, 101, 113, 117, 101], 4, [([112, 117, 115, 104], 1), ([112, 111, 112], 0), ([115, 116, 101, 97, 108], 0)], 0, 900, true, true, false⟩,
  ⟨[112, 113], 5, [([112, 117, 116], 1), ([116, 97, 107, 101], 0)], 0, 900, true, true, true⟩,
  ⟨[108, 97, 110, 101, 115], 6, [([112, 117, 116], 1), ([103, 101, 116], 0)], 0, 900, true, true, true⟩,
  ⟨[108, 105, 115, 116], 7, [([97, 100, 100], 1), ([114, 101, 109], 1), ([104, 97, 115], 1)], 0, 900, true, true, true⟩,
  ⟨[115, 107, 105, 112], 7, [([97, 100, 100], 1), ([114, 101, 109], 1), ([104, 97, 115], 1)], 0, 900, true, false, true⟩,
  ⟨[116, 114, 101, 101], 7, [([97, 100, 100], 1), ([114, 101, 109], 1), ([104, 97, 115], 1)], 0, 900, true, false, true⟩,
  ⟨[116, 114, 105, 101], 8, [([97, 100, 100], 1), ([114, 101, 109], 1), ([104, 97, 115], 1), ([97, 108, 108], 0)], 0, 15, true, true, true⟩,
  ⟨[104, 97, 115, 104], 7, [([97, 100, 100], 1), ([114, 101, 109], 1), ([104, 97, 115], 1)], 0, 15, true, false, true⟩,
  ⟨[110, 101, 116], 9, [([110, 101, 120, 116], 1)], 0, 900, true, true, false⟩,
  ⟨[119, 105, 100, 101], 10, [([119, 114, 105, 116, 101], 1), ([114, 101, 97, 100], 0)], 0, 900, true, true, true⟩,
  ⟨[115, 110, 97, 112], 11, [([117, 112, 100, 97, 116, 101], 1), ([115, 99, 97, 110], 0)], 0, 900, true, true, true⟩,
  ⟨[117, 110, 105, 111, 110], 12, [([117, 110, 105, 116, 101], 2), ([115, 97, 109, 101], 2)], 0, 7, true, true, true⟩,
  ⟨[112, 97, 105, 114], 13, [([112, 117, 116], 1), ([109, 111, 118, 101], 1), ([98, 111, 116, 104], 0)], 0, 99, true, true, false⟩,
  ⟨[117, 110, 105], 14, [([97, 100, 100], 1), ([103, 101, 116], 0)], 1, 99, true, true, false⟩,
  ⟨[116, 119, 105, 110], 15, [([112, 117, 116, 97], 1), ([112, 117, 116, 98], 1), ([103, 101, 116, 97], 0), ([103, 101, 116, 98], 0), ([109, 111, 118, 101], 0)], 0, 900, true, true, true⟩,
  ⟨[116, 97, 108, 108, 121], 16, [([97, 100, 100], 1), ([103, 101, 116], 0)], -900, 900, true, true, true⟩,
  ⟨[98, 97, 114, 101], 1, [([112, 117, 115, 104], 1), ([112, 111, 112], 0)], 0, 900, false, false, false⟩
]
def row (i : Nat) : Row := tab.getD i default

def callCells (l : List (List UInt8 × Int)) : List AV := l.flatMap fun p => [.str p.1, .int .i64 p.2]
def cObj (i : Nat) : AObj := .arr (callCells (row i).calls) 2 false
def hs (h : Heap) : Nat → Heap
  | 0 => h
  | k + 1 => hs h k ++ [cObj k]
noncomputable def eC (h : Heap) (i : Nat) : List AV := [.str (row i).nm, .str (src22 i), .int .i64 (row i).rule, .slice (hs h i).length 0 (row i).calls.length, .int .i64 (row i).lo, .int .i64 (row i).hi, .bool (row i).safe, .bool (row i).strict, .bool (row i).point]
noncomputable def tObj (h : Heap) : AObj := .arr ((List.range 21).flatMap (eC h)) 9 false

theorem table_does (h : Heap) : Does K 22 [] h (.slice (hs h 21).length 0 21) (hs h 21 ++ [tObj h]) := does_of_exec (n := 400) [] [] (by kernel_rfl) (by simp)

theorem hs_eq (h : Heap) : ∀ k, hs h k = h ++ (List.range k).map cObj
  | 0 => by simp [hs]
  | k + 1 => by rw [hs, hs_eq h k, List.range_succ]; simp

theorem hs_ext (h : Heap) (k : Nat) (o : AObj) : Ext h (hs h k ++ [o]) := ⟨(List.range k).map cObj ++ [o], by rw [hs_eq]; simp⟩

theorem hs_get {h : Heap} {i : Nat} (hi : i < 21) (o : AObj) : (hs h 21 ++ [o])[(hs h i).length]? = some (cObj i) := by
  rw [hs_eq, hs_eq, List.append_assoc, List.length_append, List.getElem?_append_right (by omega)]
  have : h.length + (List.map cObj (List.range i)).length - h.length = i := by simp
  rw [this, List.getElem?_append_left (by simpa using hi)]
  simp [hi]

theorem flat_take {α : Type} {m : Nat} (f : Nat → List α) (hf : ∀ i, (f i).length = m) : ∀ (i s n : Nat), i < n → (((List.range' s n).flatMap f).drop (i * m)).take m = f (s + i)
  | i, s, 0, h => by omega
  | 0, s, n + 1, h => by
    rw [List.range'_succ]
    simp [← hf s]
  | i + 1, s, n + 1, h => by
    rw [List.range'_succ, List.flatMap_cons]
    have e : (i + 1) * m = (f s).length + i * m := by rw [hf s, Nat.add_mul]; omega
    rw [e, List.drop_append]
    simp only [Nat.le_add_right, List.drop_eq_nil_of_le, Nat.add_sub_cancel_left, List.nil_append]
    rw [flat_take f hf i (s + 1) n (by omega)]
    congr 1
    omega

theorem tab_get {h : Heap} {i : Nat} (hi : i < 21) : Abs.rdVar (hs h 21 ++ [tObj h]) (some 9) (hs h 21).length (0 + i * 9) = some (.agg (eC h i)) := by
  have hl : ((List.range 21).flatMap (eC h)).length = 189 := rfl
  simp only [Abs.rdVar, rdCells, Option.map_eq_some_iff]
  refine ⟨eC h i, ?_, rfl⟩
  rw [List.getElem?_append_right (Nat.le_refl _)]
  simp only [Nat.sub_self, List.getElem?_cons_zero, tObj, hl]
  rw [if_pos (by omega), Nat.zero_add]
  have := flat_take (eC h) (m := 9) (fun _ => rfl) i 0 21 hi
  rw [← List.range_eq_range'] at this
  rw [this, Nat.zero_add]

theorem cb24 {h : Heap} {p : Nat} {e name : List UInt8} {c1 c2 c3 c4 c5 c6 c7 c8 : AV} (hp : h[p]? = some (.arr [.str name] 1 false)) :
    Does K 24 [.agg [.str e, c1, c2, c3, c4, c5, c6, c7, c8], .ptr p 0] h (.bool (e == name)) (h ++ [.arr [.str e, c1, c2, c3, c4, c5, c6, c7, c8] 9 false]) := by
  have hx := Ext.push h (.arr [.str e, c1, c2, c3, c4, c5, c6, c7, c8] 9 false)
  refine does_of_exec (n := 60) [(5, .full (.str e) (h ++ [.arr [.str e, c1, c2, c3, c4, c5, c6, c7, c8] 9 false])), (6, .full (.str name) (h ++ [.arr [.str e, c1, c2, c3, c4, c5, c6, c7, c8] 9 false]))]
    [LD (h ++ [.arr [.str e, c1, c2, c3, c4, c5, c6, c7, c8] 9 false]) none p 0 (.str name), LD (h ++ [.arr [.str e, c1, c2, c3, c4, c5, c6, c7, c8] 9 false]) none h.length 0 (.str e)] (by kernel_rfl) ?_
  simp only [List.mem_cons, List.not_mem_nil, or_false, forall_eq_or_imp, forall_eq]
  exact ⟨LD.of (hx.rdVar (by simp [Abs.rdVar, rdCells, hp])), LD.of (by simp [Abs.rdVar, rdCells])⟩

theorem cb21 {h : Heap} {p : Nat} {e name : List UInt8} {c1 : AV} (hp : h[p]? = some (.arr [.str name] 1 false)) :
    Does K 21 [.agg [.str e, c1], .ptr p 0] h (.bool (e == name)) (h ++ [.arr [.str e, c1] 2 false]) := by
  have hx := Ext.push h (.arr [.str e, c1] 2 false)
  refine does_of_exec (n := 60) [(5, .full (.str e) (h ++ [.arr [.str e, c1] 2 false])), (6, .full (.str name) (h ++ [.arr [.str e, c1] 2 false]))]
    [LD (h ++ [.arr [.str e, c1] 2 false]) none p 0 (.str name), LD (h ++ [.arr [.str e, c1] 2 false]) none h.length 0 (.str e)] (by kernel_rfl) ?_
  simp only [List.mem_cons, List.not_mem_nil, or_false, forall_eq_or_imp, forall_eq]
  exact ⟨LD.of (hx.rdVar (by simp [Abs.rdVar, rdCells, hp])), LD.of (by simp [Abs.rdVar, rdCells])⟩
end Go.Proofs.Ythedodaghjpdoaa.Kinds
