import Derived.Test.YtifkphfhadimaaaGreatDoorCdC
set_option linter.unusedVariables false
set_option linter.unusedSimpArgs false
set_option maxRecDepth 100000
namespace Go.Proofs.YtifkphfhadimaaaGreatDoor.Mini
open Go.Abs

def codeS : List (List Int) := [[13, 1, 0, -1, 0, 0, 0, 0, 0, 0, 0], [7, 0, 0, 0, 0, -1, 0, 0, 0, 0, 0], [25, 0, 0, 0, 0, 0, 0, 0, 0, 0, 0]]
def routS : List Rout := [([103, 101, 116], codeS)]
def cutB (r : List AObj) (b o n : Nat) : List AV := match r.reverse[b]? with
  | some (.arr c _ _) => (c.drop o).take n
  | _ => []
def blkB (r : List AObj) (b o n : Nat) : Bool := match r.reverse[b]? with
  | some (.arr c _ _) => Nat.ble (o + n) c.length
  | _ => false
noncomputable def chkSane (v : AV) (n : Nat) (r : List AObj) : Bool := match v with
  | .tuple [.agg [.str w, .int k c, .slice b o m], .int k2 l, .int k3 e] => (AV.sames [.str [115], .int .i64 1, .int .i64 0, .int .i64 0] [.str w, .int k c, .int k2 l, .int k3 e] && (Nat.beq m 1 && blkB r b o 2)) && ((match cutB r b o 2 with
    | [.str x, .slice b2 o2 m2] => (AV.sames [.str [103, 101, 116]] [.str x] && (Nat.beq m2 3 && blkB r b2 o2 33)) && AV.sames (codeS.flatMap insW) (cutB r b2 o2 33)
    | _ => false) && (match evF E1 100000 (.call 38 [.agg [.str w, .int k c, .slice b o m]]) (n + 2) (n + 2) (.arr [.str w, .int k c, .slice b o m] 3 false :: .arr [.str w, .int k c, .slice b o m] 3 false :: r) with
    | some (.val v' _ _) => AV.sames [.int .i64 0] [v']
    | _ => false))
  | _ => false
theorem sane_ev : (match evF E1 100000 (.call 36 [.str srcS]) 0 0 [] with
    | some (.val v n r) => chkSane v n r
    | _ => false) = true := by kernel_rfl

theorem cut_rd {r : List AObj} {b o n : Nat} {h : Heap} (hb : blkB r b o n = true) : rdCells (h ++ r.reverse.map (AObj.sh h.length)) (b + h.length) o n = some ((cutB r b o n).map (AV.sh h.length)) := by
  unfold blkB at hb
  unfold cutB
  cases hr : r.reverse[b]? with
  | none => rw [hr] at hb; cases hb
  | some x =>
    rw [hr] at hb
    cases x with
    | arr c es ro =>
      have hl := Nat.le_of_ble_eq_true hb
      have e : (h ++ r.reverse.map (AObj.sh h.length))[b + h.length]? = some (.arr (c.map (AV.sh h.length)) es ro) := by
        rw [List.getElem?_append_right (by omega), Nat.add_sub_cancel, List.getElem?_map, hr]
        rfl
      simp only [rdCells, e]
      rw [if_pos (by rw [List.length_map]; exact hl)]
      simp only [List.map_take, List.map_drop]
    | _ => cases hb
theorem rd_part {H : Heap} {b o n : Nat} {L : List AV} (h : rdCells H b o n = some L) {i m : Nat} (hi : i + m ≤ n) : rdCells H b (o + i) m = some ((L.drop i).take m) := by
  unfold rdCells at h ⊢
  split at h
  · split at h
    · cases h
      rw [if_pos (by omega)]
      congr 1
      rw [List.drop_take, List.take_take, List.drop_drop, Nat.min_eq_left (by omega)]
    · cases h
  · cases h
def cellZ (z : Slc) : AObj := .arr [.str [115], .int .i64 1, z.av] 3 false

theorem parse_ok {h : Heap} {P : AV → Heap → Prop} (hP : ∀ (z : Slc) (t : Heap), z.nil = false → z.n = 1 → ProgOn (h ++ t) z routS → (∀ P' : AV → Heap → Prop, (∀ t', P' (.int .i64 0) t') → CallE KC 38 [.agg [.str [115], .int .i64 1, z.av]] (h ++ (t ++ [cellZ z, cellZ z])) P') → P (.tuple [.agg [.str [115], .int .i64 1, z.av], .int .i64 0, .int .i64 0]) t) : CallE KC 36 [.str srcS] h P := by
  refine CallE.lift le_q (callE_ev eok1 100000 (f := 36) (args := [.str srcS]) rfl sane_ev fun v n r hc hn => ?_)
  unfold chkSane at hc
  split at hc
  · rename_i w k c b o m k2 l k3 e
    simp only [Bool.and_eq_true] at hc
    obtain ⟨⟨h1, h2, h3⟩, h4, h5⟩ := hc
    obtain ⟨e1, _⟩ := sames_eq _ _ h1
    simp only [List.cons.injEq, AV.str.injEq, AV.int.injEq, and_true] at e1
    obtain ⟨rfl, ⟨rfl, rfl⟩, ⟨rfl, rfl⟩, rfl, rfl⟩ := e1
    have h2 := Nat.eq_of_beq_eq_true h2
    subst h2
    split at h4
    · rename_i x b2 o2 m2 hcut
      simp only [Bool.and_eq_true] at h4
      obtain ⟨⟨a1, a2, a3⟩, a4⟩ := h4
      obtain ⟨e2, _⟩ := sames_eq _ _ a1
      simp only [List.cons.injEq, AV.str.injEq, and_true] at e2
      subst e2
      have a2 := Nat.eq_of_beq_eq_true a2
      subst a2
      obtain ⟨e3, fl⟩ := sames_eq _ _ a4
      have r1 := cut_rd (h := h) h3
      have r2 := cut_rd (h := h) a3
      rw [hcut] at r1
      rw [← e3, ← shs_map, flats_sh _ _ fl] at r2
      have ev : (AV.tuple [.agg [.str [115], .int .i64 1, .slice b o 1], .int .i64 0, .int .i64 0]).sh h.length = .tuple [.agg [.str [115], .int .i64 1, (⟨b + h.length, o, 1, false⟩ : Slc).av], .int .i64 0, .int .i64 0] := by
        simp [AV.sh, AV.shs, Slc.av]
      rw [ev]
      refine hP ⟨b + h.length, o, 1, false⟩ _ rfl rfl ⟨[([103, 101, 116], ⟨b2 + h.length, o2, 3, false⟩)], ⟨rfl, fun i q hq => ?_⟩, rfl, fun i q r hq hr => ?_⟩ fun P' hP' => ?_
      · cases i with
        | succ i => simp at hq
        | zero =>
          simp at hq
          subst hq
          rw [Nat.zero_mul, Nat.add_zero, r1]
          simp [AV.sh, encR, Slc.av]
      · cases i with
        | succ i => simp at hq
        | zero =>
          simp [routS] at hq hr
          subst hq hr
          refine ⟨rfl, rfl, fun i l hl => ?_⟩
          have hi := (List.getElem?_eq_some_iff.1 hl).1
          have hi : i < 3 := hi
          rw [rd_part r2 (i := i * 11) (m := 11) (by omega)]
          rcases (by omega : i = 0 ∨ i = 1 ∨ i = 2) with rfl | rfl | rfl <;> · cases hl; rfl
      · split at h5
        · rename_i v' n' r' hev
          obtain ⟨e4, _⟩ := sames_eq _ _ h5
          simp only [List.cons.injEq, and_true] at e4
          subst e4
          have := callE_at (g := h) (n := n + 2) eok1 (by simp [hn]) hev (P := P') (fun t => by simpa [AV.sh] using hP' t)
          have e5 : ([.agg [.str [115], .int .i64 1, .slice b o 1]] : List AV).map (AV.sh h.length) = [.agg [.str [115], .int .i64 1, (⟨b + h.length, o, 1, false⟩ : Slc).av]] := by simp [AV.sh, AV.shs, Slc.av]
          have e6 : rel h (.arr [.str [115], .int .i64 1, .slice b o 1] 3 false :: .arr [.str [115], .int .i64 1, .slice b o 1] 3 false :: r) = h ++ (r.reverse.map (AObj.sh h.length) ++ [cellZ ⟨b + h.length, o, 1, false⟩, cellZ ⟨b + h.length, o, 1, false⟩]) := by
            simp [rel, cellZ, AObj.sh, AV.sh, Slc.av]
          rw [e5, e6] at this
          exact CallE.lift le_q this
        · cases h5
    · cases h4
  · cases hc

theorem okS : OkT [115] 1 routS where
  small := by decide
  ins := by decide
  len := by decide
theorem textS : textV [115] 1 routS = txtS := by decide

theorem sane_ok {h : Heap} {P : AV → Heap → Prop} (hP : ∀ t, P (.bool true) t) : CallE KC 51 [] h P := by
  refine d51 (s := src51) (by kernel_rfl) ?_
  unfold D51
  rw [srcS_eq, txtS_eq]
  refine parse_ok fun z t hz1 hz2 hon hck => ⟨_, _, z, _, _, rfl, fun _ => ⟨fun _ => ⟨fun _ => ?_, fun hb => by simp [Slc.len, hz1, hz2] at hb⟩, fun hb => by simp at hb⟩, fun hb => by simp at hb⟩
  obtain ⟨qs, h1, h2, h3⟩ := hon.rows
  obtain ⟨q, hq⟩ := lt_len h2.symm (show 0 < routS.length by decide)
  obtain ⟨k1, k2⟩ := h3 0 q _ hq rfl
  have hl : q.2.len = 3 := k2.len
  refine ⟨⟨by decide, by simp [Slc.len, hz1, hz2]⟩, q.2, ?_, fun hb => by rw [hl] at hb; simp at hb, fun _ => ?_⟩
  · have := (h1.ext : Sl (h ++ (t ++ [AObj.arr [.str [115], .int .i64 1, z.av] 3 false])) z 2 encR qs).cell (i := 0) hq (c := 1) (v := q.2.av) rfl
    simpa using this
  · refine text_ok (p := routS) hon.ext okS (fun P' hP' => ?_) fun t => ⟨_, _, rfl, fun _ => ?_, fun hb => by simp at hb⟩
    · have := hck P' hP'
      rw [show h ++ (t ++ [cellZ z, cellZ z]) = (h ++ (t ++ [cellZ z])) ++ [cellZ z] by simp [List.append_assoc]] at this
      exact this
    · rw [textS]
      have e : (txtS == txtS) = true := by simp
      rw [e]
      exact hP _
end Go.Proofs.YtifkphfhadimaaaGreatDoor.Mini

