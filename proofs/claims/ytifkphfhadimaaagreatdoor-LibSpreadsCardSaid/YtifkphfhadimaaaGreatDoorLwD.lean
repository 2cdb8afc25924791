/- Layer 16: which scripts fit, by the program: a plain function. -/
import Derived.Test.YtifkphfhadimaaaGreatDoorLwC
import Derived.Test.YtifkphfhadimaaaGreatDoorDecU
import Derived.Test.YtifkphfhadimaaaGreatDoorAbsG7
set_option linter.unusedVariables false
set_option linter.unusedSimpArgs false
set_option maxRecDepth 100000
namespace Go.Proofs.YtifkphfhadimaaaGreatDoor.Mini
open Go.Abs

noncomputable def newC : List (Nat × MFunc) := [(9, F9), (13, F13), (39, F39), (40, F40), (95, F95), (96, F96), (97, F97), (98, F98), (101, F101), (135, F135), (136, F136), (137, F137)]
noncomputable def tblC : List (Nat × MFunc) := tblB ++ newC
theorem tblC_ok : ∀ p ∈ tblC, (modelOf Tryz.prog noPrim).fn p.1 = some p.2 := by
  intro p hp
  rcases List.mem_append.1 hp with hp | hp
  · exact tblB_ok p hp
  · have : ∀ p ∈ newC, (modelOf Tryz.prog noPrim).fn p.1 = some p.2 := by
      simp only [newC, List.mem_cons, List.not_mem_nil, or_false, forall_eq_or_imp, forall_eq]
      exact ⟨fn9, fn13, fn39, fn40, fn95, fn96, fn97, fn98, fn101, fn135, fn136, fn137⟩
    exact this p hp
noncomputable def K5 : Model := ⟨fnOf tblC, primV prims4⟩
theorem le45 : Model.le K4 K5 := show Model.le ⟨fnOf tblB, primV prims4⟩ ⟨fnOf (tblB ++ newC), primV prims4⟩ from le_app

theorem at_add {a b : Heap} {k : Nat} : (a ++ b)[a.length + k]? = b[k]? := by simp [List.getElem?_append_right]
theorem at_addc {x : AObj} {b : Heap} {k : Nat} : (x :: b)[1 + k]? = b[k]? := by rw [Nat.add_comm]; rfl
theorem at_len {a b : Heap} : (a ++ b)[a.length]? = b[0]? := by simp [List.getElem?_append_right]
theorem put_b {P : AV → Heap → Prop} {b b' : Bool} {t : Heap} (e : b = b') (h : P (.bool b) t) : P (.bool b') t := e ▸ h

def byV (name : List UInt8) (thread : Int) (op : List UInt8) : Bool :=
  if (((name ++ [32]) ++ op) == [100, 101, 113, 117, 101, 32, 112, 117, 115, 104] || ((name ++ [32]) ++ op) == [100, 101, 113, 117, 101, 32, 112, 111, 112]) then thread == 0
  else if (((name ++ [32]) ++ op) == [115, 110, 97, 112, 32, 117, 112, 100, 97, 116, 101]) then decide (thread < 2)
  else if (((name ++ [32]) ++ op) == [117, 110, 105, 32, 97, 100, 100]) then decide (thread < 3) else true

theorem nm_short {k : Nat} (hk : k < 21) : (nm k).length ≤ 5 := by
  have : ∀ k, k < 21 → (nm k).length ≤ 5 := by decide
  exact this k hk

theorem by_ok {k : Nat} (hk : k < 21) {c : Slc} {thread : Int} {op : List UInt8} (hop : op.length ≤ 140737488355328) {h : Heap} {P : AV → Heap → Prop} (hP : ∀ t, P (.bool (byV (nm k) thread op)) t) : CallE K5 101 [rowE k c, .int .i64 thread, .str op] h P := by
  refine d101 (by kernel_rfl) ?_
  unfold D101
  have hs := nm_short hk
  refine ⟨by simp; omega, by simp; omega, fun x t => x = ((((nm k ++ [32]) ++ op) == [100, 101, 113, 117, 101, 32, 112, 117, 115, 104]) || (((nm k ++ [32]) ++ op) == [100, 101, 113, 117, 101, 32, 112, 111, 112])), ⟨fun hb => ?_, fun hb => ?_⟩, ?_⟩
  · rw [hb]; rfl
  · rw [hb]; rfl
  · rintro x t hx
    refine ⟨fun hb => put_b ?_ (hP _), fun hb => ⟨fun h3 => put_b ?_ (hP _), fun h3 => ⟨fun h4 => put_b ?_ (hP _), fun h4 => put_b ?_ (hP _)⟩⟩⟩
    · rw [hb] at hx; unfold byV; rw [← hx]; rfl
    · rw [hb] at hx; unfold byV; rw [← hx, h3]; rfl
    · rw [hb] at hx; unfold byV; rw [← hx, h3, h4]; rfl
    · rw [hb] at hx; unfold byV; rw [← hx, h3, h4]; rfl

def inR (lo hi n : Int) (is : Bool) : Bool := if is then decide (n ≥ lo) && decide (n ≤ hi) else n == 0
def takesOf (k i : Nat) : Int := ((lrow k).calls.getD i ([], 0, 0)).2.1
def fitsV (k : Nat) (thread : Int) (c : Form) : Bool := match at16 c.1 (lrow k).calls with
  | none => false
  | some i => byV (nm k) thread c.1 && (inR (lrow k).lo (lrow k).hi c.2.1 (decide (takesOf k i > 0)) && inR (lrow k).lo (lrow k).hi c.2.2 (decide (takesOf k i > 1)))

/-! ### Scripts -/
/-- A script that lies on the heap. -/
structure Script (h : Heap) (s : Slc) (ls : List (List Form)) : Prop where
  rows : ∃ qs : List Slc, Sl h s 1 (fun q : Slc => [q.av]) qs ∧ qs.length = ls.length ∧ ∀ (i : Nat) (q : Slc) (l : List Form), qs[i]? = some q → ls[i]? = some l → Sl h q 3 encF l
theorem Script.ext {h H : Heap} {s : Slc} {ls : List (List Form)} (k : Script h s ls) [e : ExtC h H] : Script H s ls := by
  obtain ⟨qs, h1, h2, h3⟩ := k.rows
  exact ⟨qs, h1.ext, h2, fun i q l hq hl => (h3 i q l hq hl).ext⟩
structure Small (ls : List (List Form)) : Prop where
  len : ls.length ≤ 140737488355327
  row : ∀ l ∈ ls, l.length ≤ 140737488355327
  op : ∀ l ∈ ls, ∀ c ∈ l, c.1.length ≤ 140737488355328
def total (ls : List (List Form)) : Nat := (ls.map List.length).sum
end Go.Proofs.YtifkphfhadimaaaGreatDoor.Mini

