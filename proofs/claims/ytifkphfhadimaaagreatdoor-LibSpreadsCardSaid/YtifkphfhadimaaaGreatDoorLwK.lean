/- Layer 16: what Spread makes fits (plain). -/
import Derived.Test.YtifkphfhadimaaaGreatDoorLwJ
set_option linter.unusedVariables false
set_option linter.unusedSimpArgs false
set_option maxRecDepth 100000
namespace Go.Proofs.YtifkphfhadimaaaGreatDoor.Mini
open Go.Abs

theorem lo_hi {k : Nat} (hk : k < 21) : (lrow k).lo ≤ (lrow k).hi := by
  have : ∀ k, k < 21 → (lrow k).lo ≤ (lrow k).hi := by decide
  exact this k hk
theorem argV_in {lo hi x b : Int} (h : lo ≤ hi) : lo ≤ argV lo hi x b ∧ argV lo hi x b ≤ hi := by
  unfold argV
  have m1 := Int.emod_nonneg (x / b) (show (4 : Int) ≠ 0 by decide)
  split <;> omega
theorem call_fits {k : Nat} (hk : k < 21) {x : Int} (hb : byV (nm k) (x % 3) (callV k x).1 = true) : fitsV k (x % 3) (callV k x) = true := by
  obtain ⟨_, _, l3, _⟩ := row_lo hk
  have w1 := Int.emod_nonneg (x / 3) (show ((lrow k).calls.length : Int) ≠ 0 by omega)
  have w2 := Int.emod_lt_of_pos (x / 3) (show (0 : Int) < (lrow k).calls.length by omega)
  have hw : whichV k x < (lrow k).calls.length := by unfold whichV; omega
  have hat : at16 (callV k x).1 (lrow k).calls = some (whichV k x) := by
    have := List.all_eq_true.1 (names_once hk) (whichV k x) (List.mem_range.2 hw)
    exact (beq_iff_eq.1 this)
  have hl := lo_hi hk
  unfold fitsV
  rw [hat]
  simp only [hb, Bool.true_and]
  have a1 := argV_in (x := x) (b := 60) hl
  have a2 := argV_in (x := x) (b := 240) hl
  have e1 : inR (lrow k).lo (lrow k).hi (callV k x).2.1 (decide (takesOf k (whichV k x) > 0)) = true := by
    unfold inR callV
    by_cases h : takesOf k (whichV k x) > 0
    · rw [if_pos h, decide_eq_true h]
      simp only [if_true, Bool.and_eq_true, decide_eq_true_eq]
      exact ⟨a1.1, a1.2⟩
    · rw [if_neg h, decide_eq_false h]
      rfl
  have e2 : inR (lrow k).lo (lrow k).hi (callV k x).2.2 (decide (takesOf k (whichV k x) > 1)) = true := by
    unfold inR callV
    by_cases h : takesOf k (whichV k x) > 1
    · rw [if_pos h, decide_eq_true h]
      simp only [if_true, Bool.and_eq_true, decide_eq_true_eq]
      exact ⟨a2.1, a2.2⟩
    · rw [if_neg h, decide_eq_false h]
      rfl
  rw [e1, e2]
  rfl

structure GoodS (k : Nat) (s : SprS) : Prop where
  len : s.rows.length = 3
  tot : total s.rows = s.n
  few : s.n ≤ 12
  fit : ∀ (t : Nat) (l : List Form), s.rows[t]? = some l → l.all (fitsV k (t : Int)) = true
theorem total_set {ls : List (List Form)} {i : Nat} {l : List Form} {c : Form} (h : ls[i]? = some l) : total (ls.set i (l ++ [c])) = total ls + 1 := by
  unfold total
  induction ls generalizing i with
  | nil => simp at h
  | cons x r ih =>
    cases i with
    | zero =>
      simp at h
      subst h
      simp
      omega
    | succ i =>
      have := ih (by simpa using h)
      simp only [List.set_cons_succ, List.map_cons, List.sum_cons] at this ⊢
      omega
theorem good_step {k : Nat} (hk : k < 21) {s : SprS} (g : GoodS k s) (x : Int) : GoodS k (sprStep k s x) := by
  unfold sprStep
  split
  · rename_i hc
    simp only [Bool.and_eq_true, decide_eq_true_eq] at hc
    have m1 := Int.emod_nonneg x (show (3 : Int) ≠ 0 by decide)
    have m2 := Int.emod_lt_of_pos x (show (0 : Int) < 3 by decide)
    obtain ⟨l, hl⟩ := lt_len g.len.symm (show (x % 3).toNat < 3 by omega)
    have hd : s.rows.getD (x % 3).toNat [] = l := by rw [List.getD_eq_getElem?_getD, hl]; rfl
    rw [hd]
    refine ⟨by simp [g.len], by rw [total_set hl, g.tot], by simp only; omega, fun t m hm => ?_⟩
    by_cases ht : t = (x % 3).toNat
    · subst ht
      rw [List.getElem?_set_self (by rw [g.len]; omega)] at hm
      cases hm
      rw [List.all_append, g.fit _ l hl]
      have : (((x % 3).toNat : Nat) : Int) = x % 3 := by omega
      rw [this]
      simp [call_fits hk hc.1]
    · rw [List.getElem?_set_ne (by omega)] at hm
      exact g.fit t m hm
  · exact g
theorem good_all {k : Nat} (hk : k < 21) (ns : List Int) : GoodS k (sprV k ns) := by
  unfold sprV
  have : ∀ (ns : List Int) (s : SprS), GoodS k s → GoodS k (ns.foldl (sprStep k) s) := by
    intro ns
    induction ns with
    | nil => exact fun s g => g
    | cons x r ih => exact fun s g => ih _ (good_step hk g x)
  refine this ns _ ⟨rfl, rfl, by decide, fun t l hl => ?_⟩
  have ht : t < 3 := (List.getElem?_eq_some_iff.1 hl).1
  rcases (by omega : t = 0 ∨ t = 1 ∨ t = 2) with rfl | rfl | rfl <;> · simp at hl; subst hl; rfl
theorem fits_short {k : Nat} (hk : k < 21) {t : Int} {c : Form} (h : fitsV k t c = true) : c.1.length ≤ 10 := by
  obtain ⟨_, _, _, l4⟩ := row_lo hk
  unfold fitsV at h
  cases ha : at16 c.1 (lrow k).calls with
  | none => rw [ha] at h; cases h
  | some i =>
    unfold at16 at ha
    rw [List.findIdx?_eq_some_iff_getElem] at ha
    obtain ⟨h1, h2, _⟩ := ha
    have := List.all_eq_true.1 l4 _ (List.getElem_mem h1)
    rw [beq_iff_eq] at h2
    rw [h2] at this
    simpa using this
theorem small_rows {k : Nat} (hk : k < 21) (ns : List Int) : Small (sprV k ns).rows := by
  have g := good_all hk ns
  have hf := g.few
  refine ⟨by rw [g.len]; decide, fun l hl => ?_, fun l hl c hc => ?_⟩
  · obtain ⟨i, hi⟩ := List.mem_iff_getElem?.1 hl
    have := row_total hi
    rw [g.tot] at this
    omega
  · obtain ⟨i, hi⟩ := List.mem_iff_getElem?.1 hl
    have := fits_short hk (List.all_eq_true.1 (g.fit i l hi) c hc)
    omega
end Go.Proofs.YtifkphfhadimaaaGreatDoor.Mini

