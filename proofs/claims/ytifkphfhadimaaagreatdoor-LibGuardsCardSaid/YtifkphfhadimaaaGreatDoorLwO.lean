/- Laws of one number that hand it to the structure's name only: reckoned at the 21 numbers. -/
import Derived.Test.YtifkphfhadimaaaGreatDoorLwN
import Derived.Test.YtifkphfhadimaaaGreatDoorAbsG10
set_option linter.unusedVariables false
set_option maxRecDepth 100000
namespace Go.Proofs.YtifkphfhadimaaaGreatDoor.Mini
open Go.Abs
theorem callE_evE {M : Model} {E : EMod} (hE : EOK M E) {k f : Nat} {args : List AV} (ha : AV.flats args = true) {u : AV} (h : givesT (evE E k f args 0 0 .leaf) (.flat u) = true) {g : Heap} {P : AV → Heap → Prop} (hP : ∀ t, P u t) : CallE M f args g P := by
  unfold givesT at h
  split at h
  · rename_i v n H hev
    obtain ⟨k', r, h1, h2⟩ := evE_evF hev
    obtain ⟨rfl, hf⟩ := same_eq _ _ h
    intro Q hQ
    have run := evF_does hE h1 g Q (by rw [flat_sh _ _ hf]; exact hQ _ _ (hP (r.reverse.map (AObj.sh g.length))))
    rwa [flats_shs ha] at run
  · cases h
theorem primsN_name (i : Int) : primsN 26 [.int .i64 i] = some (.flat (.str (nm (ix i)))) := by kernel_rfl
theorem noname : KN.fn 26 = none := by kernel_rfl
theorem ix_self {k : Nat} (hk : k < 21) : ix (k : Int) = k := by
  unfold ix
  rw [Int.emod_eq_of_lt (by omega) (by omega), Int.emod_eq_of_lt (by omega) (by omega)]
  simp
theorem name_swap {k : Nat} (hk : k < 21) {w : Int} (hw : ix w = k) (Q : AV → Heap → Prop) (h : Heap) (hr : Runs KN (.call 26 [.int .i64 (k : Int)] Q) h) : Runs KN (.call 26 [.int .i64 w] Q) h := by
  cases hr with
  | call hF _ => rw [noname] at hF; cases hF
  | prim hp =>
    obtain ⟨v, h1, h2⟩ := hp
    rw [primsN_name, ix_self hk] at h1
    injection h1 with h1
    subst h1
    exact .prim ⟨_, primsN_name w, by rw [hw]; exact h2⟩
/-- A law of one number. -/
theorem law_ok {f : Nat} {F : MFunc} (hF : KN.fn f = some F) (hp : ∀ i, primsN f [.int .i64 i] = none) (I : List Nat) (h0 : I.contains 0 = true) (hb : F.body.skips I 26 = true) (hrs : F.results.all (resSkips I) = true)
    (hall : ∀ k : Nat, k < 21 → givesT (evE EN 100000 f [.int .i64 (k : Int)] 0 0 .leaf) (.flat (.bool true)) = true) {w : Int} {h : Heap} {P : AV → Heap → Prop} (hP : ∀ t, P (.bool true) t) : CallE KN f [.int .i64 w] h P := by
  have hk := ix_lt w
  intro Q hQ
  have run := callE_evE eokN (by simp [AV.flats, AV.flat]) (hall (ix w) hk) (g := h) hP Q hQ
  exact swap_call hF (fun Q h hp' => by
    obtain ⟨v, h1, _⟩ := hp'
    rw [hp] at h1
    cases h1) h0 hb hrs (name_swap hk rfl) run
end Go.Proofs.YtifkphfhadimaaaGreatDoor.Mini

