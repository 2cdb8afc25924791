import Derived.Test.YtifkphfhadimaaaGreatDoorCdC
set_option linter.unusedVariables false
set_option linter.unusedSimpArgs false
set_option maxRecDepth 100000
namespace Go.Proofs.YtifkphfhadimaaaGreatDoor.Mini
open Go.Abs

def codeS : List (List Int) := [[13, 1, 0, -1, 0, 0, 0, 0, 0, 0, 0], [7, 0, 0, 0, 0, -1, 0, 0, 0, 0, 0], [25, 0, 0, 0, 0, 0, 0, 0, 0, 0, 0]]
def routS : List Rout := [([103, 101, 116], codeS)]
def rowsS (k : Nat) : Heap := [.arr [.str [103, 101, 116], .slice (k + 1) 0 3] 2 false, .arr (codeS.flatMap insV) 11 false]
theorem primsX_36 : primsX 36 [.str srcS] = some (.objs (progV pS) (progL pS)) := by kernel_rfl
theorem parse_ok {h : Heap} {P : AV → Heap → Prop} (hP : P (.tuple [.agg [.str [115], .int .i64 1, .slice h.length 0 1], .int .i64 0, .int .i64 0]) (rowsS h.length)) : CallE KC 36 [.str srcS] h P := by
  intro Q hQ
  refine .prim (.inl ⟨_, primsX_36, ?_⟩)
  have e1 : (progV pS).sh h.length = .tuple [.agg [.str [115], .int .i64 1, .slice h.length 0 1], .int .i64 0, .int .i64 0] := by
    simp [progV, pS, AV.sh, AV.shs]
  have e2 : (progL pS).map (objOf h.length) = rowsS h.length := by
    simp [progL, pS, routsV, objOf, rowsS, codeS, codeV, insV, AV.sh, AV.shs, Nat.add_comm]
  show Q ((progV pS).sh h.length) (h ++ (progL pS).map (objOf h.length))
  rw [e1, e2]
  exact hQ _ _ hP

def cellS (k : Nat) : AObj := .arr [.str [115], .int .i64 1, .slice k 0 1] 3 false
def revS : List AObj := [cellS 0, cellS 0, .arr (codeS.flatMap insV) 11 false, .arr [.str [103, 101, 116], .slice 1 0 3] 2 false]
theorem check_ev : (match evF E1q 100000 (.call 38 [.agg [.str [115], .int .i64 1, .slice 0 0 1]]) 4 4 revS with
    | some (.val (.int .i64 z) _ _) => Int.beq' z 0
    | _ => false) = true := by kernel_rfl
theorem check_ok {g : Heap} {P : AV → Heap → Prop} (hP : ∀ t, P (.int .i64 0) t) : CallE KC 38 [.agg [.str [115], .int .i64 1, .slice g.length 0 1]] (g ++ (rowsS g.length ++ [cellS g.length, cellS g.length])) P := by
  have h := check_ev
  split at h
  · rename_i z n' r' hev
    have hz : z = 0 := by
      have := Int.beq'_eq z 0
      rw [this] at h
      simpa using h
    subst hz
    have := callE_at (g := g) (n := 4) eok1q rfl hev (P := P) (fun t => by simpa [AV.sh] using hP t)
    have e1 : ([.agg [.str [115], .int .i64 1, .slice 0 0 1]] : List AV).map (AV.sh g.length) = [.agg [.str [115], .int .i64 1, .slice g.length 0 1]] := by simp [AV.sh, AV.shs]
    have e2 : rel g revS = g ++ (rowsS g.length ++ [cellS g.length, cellS g.length]) := by
      simp [rel, revS, rowsS, cellS, AObj.sh, AV.sh, codeS, insV, Nat.add_comm]
    rw [e1, e2] at this
    exact CallE.lift le_q this
  · cases h

theorem progS_on {h : Heap} : ProgOn (h ++ rowsS h.length) ⟨h.length, 0, 1, false⟩ routS := by
  refine ⟨[([103, 101, 116], ⟨h.length + 1, 0, 3, false⟩)], ?_, rfl, ?_⟩
  · have : Ow h.length (rowsS h.length) ⟨h.length, 0, 1, false⟩ 2 ([(([103, 101, 116] : List UInt8), (⟨h.length + 1, 0, 3, false⟩ : Slc))].flatMap encR) := Ow.mk 0 rfl rfl rfl
    refine this.sl (by decide) (fun _ => rfl) fun j o hj => ?_
    rw [List.getElem?_append_right (by omega), Nat.add_sub_cancel_left]
    exact hj
  · intro i q r hq hr
    cases i with
    | succ i => simp at hq
    | zero =>
      simp [routS] at hq hr
      subst hq hr
      refine ⟨rfl, ?_⟩
      have : Ow h.length (rowsS h.length) ⟨h.length + 1, 0, 3, false⟩ 11 (codeS.flatMap insW) := Ow.mk 1 rfl rfl rfl
      refine this.sl (by decide) (fun _ => rfl) fun j o hj => ?_
      rw [List.getElem?_append_right (by omega), Nat.add_sub_cancel_left]
      exact hj
theorem okS : OkT [115] 1 routS where
  small := by decide
  ins := by decide
  len := by decide
theorem textS : textV [115] 1 routS = txtS := by decide

theorem sane_ok {h : Heap} {P : AV → Heap → Prop} (hP : ∀ t, P (.bool true) t) : CallE KC 51 [] h P := by
  refine d51 (s := src51) (by kernel_rfl) ?_
  unfold D51
  rw [srcS_eq, txtS_eq]
  refine parse_ok ⟨_, _, ⟨h.length, 0, 1, false⟩, _, _, rfl, fun _ => ⟨fun _ => ⟨fun _ => ?_, fun hb => by simp [Slc.len] at hb⟩, fun hb => by simp at hb⟩, fun hb => by simp at hb⟩
  have hon := progS_on (h := h)
  refine ⟨⟨by decide, by simp only [Slc.len, cond_false]; decide⟩, ⟨h.length + 1, 0, 3, false⟩, ?_, fun hb => by simp [Slc.len] at hb, fun _ => ?_⟩
  · refine rdVar_at (c := [.str [103, 101, 116], .slice (h.length + 1) 0 3]) (es := 2) (ro := false) ?_ rfl
    simp [rowsS]
  · refine text_ok (p := routS) hon.ext okS (fun P' hP' => ?_) fun t => ⟨_, _, rfl, fun _ => ?_, fun hb => by simp at hb⟩
    · have e : (h ++ (rowsS h.length ++ [cellS h.length])) ++ [cellS h.length] = h ++ (rowsS h.length ++ [cellS h.length, cellS h.length]) := by simp [List.append_assoc]
      show CallE KC 38 [.agg [.str [115], .int .i64 1, .slice h.length 0 1]] ((h ++ (rowsS h.length ++ [cellS h.length])) ++ [cellS h.length]) P'
      rw [e]
      exact check_ok hP'
    · rw [textS]
      have e : (txtS == txtS) = true := by simp
      rw [e]
      exact hP _
end Go.Proofs.YtifkphfhadimaaaGreatDoor.Mini

