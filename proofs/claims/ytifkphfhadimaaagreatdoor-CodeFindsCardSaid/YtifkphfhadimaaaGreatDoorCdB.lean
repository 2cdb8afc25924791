import Derived.Test.YtifkphfhadimaaaGreatDoorCdA
set_option linter.unusedVariables false
set_option linter.unusedSimpArgs false
set_option maxRecDepth 100000
namespace Go.Proofs.YtifkphfhadimaaaGreatDoor.Mini
open Go.Abs

theorem grow81 : GrowOps KC (isG 81) := grow_ops (F := F81) (by kernel_rfl) (by kernel_rfl) (fun h Q hp => by
  rcases hp with ⟨v, h1, _⟩ | hp
  · have : primsX 81 [] = none := by kernel_rfl
    rw [this] at h1
    cases h1
  · rcases hp with ⟨hf, _⟩ | ⟨hf, _⟩ <;> cases hf) fun h => shapes_ok fun l t _ => trivial

theorem take_flat {α β : Type} {l : List α} {i : Nat} {x : α} (f : α → List β) (h : l[i]? = some x) : (l.take (i + 1)).flatMap f = (l.take i).flatMap f ++ f x := by
  rw [List.take_add_one, h, List.flatMap_append]
  simp
theorem flat_len {α β : Type} {f : α → List β} {k : Nat} (hf : ∀ x, (f x).length ≤ k) : ∀ l : List α, (l.flatMap f).length ≤ k * l.length
  | [] => by simp
  | x :: l => by
    rw [List.flatMap_cons, List.length_append, List.length_cons, Nat.mul_succ]
    have := hf x
    have := flat_len hf l
    omega
theorem headV_len {op : Int} (h0 : 0 ≤ op) (h1 : op < 26) (b : Bool) : (headV op b).length ≤ 9 := by
  have := (shps_facts h0 h1).1
  unfold headV
  split
  · rw [List.length_append]
    simp only [List.length_cons, List.length_nil]
    omega
  · omega
theorem line_ok {op r sr sn vr vn wr wn n to : Int} {star : Bool} (hok : okIns op r sr sn vr vn wr wn n to = true) {h : Heap} {P : AV → Heap → Prop} (hP : ∀ t, P (.str (lineV op star r sr sn vr vn wr wn n to)) t) : CallE KC 106 [.agg [.int .i64 op, .bool star, .int .i64 r, .int .i64 sr, .int .i64 sn, .int .i64 vr, .int .i64 vn, .int .i64 wr, .int .i64 wn, .int .i64 n, .int .i64 to]] h P := by
  simp only [okIns, Bool.and_eq_true, decide_eq_true_eq] at hok
  obtain ⟨⟨h0, h1⟩, hr, hs, hv, hw, hn, ht⟩ := hok
  obtain ⟨f1, f2, f3⟩ := shps_facts h0 h1
  have hat := shps_at h0 h1
  have l26 : shps.length = 26 := rfl
  have hwl := wordV_len
  refine d106 grow81 (by kernel_rfl) ?_ ?_
  · unfold D106a
    refine shapes_ok fun l t1 hl => ⟨l, rfl, ?_⟩
    rw [hl.len, l26]
    refine ⟨⟨h0, by omega⟩, opN op, opP op, by simpa [encS] using hl.agg hat, fun s t => s = headV op star, ⟨fun hb => ?_, fun hb => ?_⟩, ?_⟩
    · subst hb
      exact ⟨by simp only [List.length_cons, List.length_nil]; omega, rfl⟩
    · subst hb
      rfl
    rintro _ t2 rfl
    refine ⟨fun m s c p t => c = opP op ∧ m + p = (opP op).length ∧ s = headV op star ++ ((opP op).take p).flatMap (partV r sr sn vr vn wr wn n to), ⟨(opP op).length, rfl, rfl, by simp⟩, ?_⟩
    rintro m _ _ p t3 ⟨rfl, hm, rfl⟩
    refine ⟨fun hlt => ?_, fun hge => ?_⟩
    · obtain ⟨c, hc⟩ := lt_len rfl hlt
      rw [Go.Abs.decode_ascii hc (f3 c (List.mem_of_getElem? hc))]
      have hsl : (headV op star ++ ((opP op).take p).flatMap (partV r sr sn vr vn wr wn n to)).length ≤ 40 := by
        have a1 := headV_len h0 h1 star
        have a2 := flat_len (partV_len r sr sn vr vn wr wn n to) ((opP op).take p)
        rw [List.length_append, List.length_take] at *
        omega
      have step : ∀ w : List UInt8, partV r sr sn vr vn wr wn n to c = w → (∃ m', m' < m ∧ (True ∧ m' + (p + 1) = (opP op).length ∧ (headV op star ++ ((opP op).take p).flatMap (partV r sr sn vr vn wr wn n to)) ++ w = headV op star ++ ((opP op).take (p + 1)).flatMap (partV r sr sn vr vn wr wn n to))) := by
        intro w hw
        refine ⟨m - 1, by omega, trivial, by omega, ?_⟩
        rw [take_flat _ hc, hw, List.append_assoc]
      have rl := rgV_len r
      have dn := dd_len n.toNat
      have dt := dd_len to.toNat
      have w1 := hwl sr sn
      have w2 := hwl vr vn
      have w3 := hwl wr wn
      generalize (headV op star ++ ((opP op).take p).flatMap (partV r sr sn vr vn wr wn n to)) = s at hsl step
      have rt := reg_take hr
      have rb := reg_bounds hr
      unfold regsX at rt rb
      simp only
      refine ⟨fun q1 => ?_, fun q1 => ⟨fun q2 => ?_, fun q2 => ⟨fun q3 => ?_, fun q3 => ⟨fun q4 => ?_, fun q4 => ⟨fun q5 => ?_, fun q5 => ?_⟩⟩⟩⟩⟩
      · refine ⟨rb, ?_, ?_, ?_⟩
        · rw [rt]
          simp only [List.length_cons, List.length_nil]
          omega
        · rw [rt]
          simp only [List.length_append, List.length_cons, List.length_nil]
          omega
        · rw [rt]
          exact step _ (by unfold partV; rw [if_pos q1])
      · refine written_ok hs fun t4 => ⟨_, rfl, ?_, ?_, step _ (by unfold partV; rw [if_neg (by simp [q1]), if_pos q2])⟩
        · simp only [List.length_cons, List.length_nil]
          omega
        · simp only [List.length_append, List.length_cons, List.length_nil]
          omega
      · refine written_ok hv fun t4 => ⟨_, rfl, ?_, ?_, step _ (by unfold partV; rw [if_neg (by simp [q1]), if_neg (by simp [q2]), if_pos q3])⟩
        · simp only [List.length_cons, List.length_nil]
          omega
        · simp only [List.length_append, List.length_cons, List.length_nil]
          omega
      · refine written_ok hw fun t4 => ⟨_, rfl, ?_, ?_, step _ (by unfold partV; rw [if_neg (by simp [q1]), if_neg (by simp [q2]), if_neg (by simp [q3]), if_pos q4])⟩
        · simp only [List.length_cons, List.length_nil]
          omega
        · simp only [List.length_append, List.length_cons, List.length_nil]
          omega
      · refine itoa_ok hn fun t4 => ⟨_, rfl, ?_, ?_, step _ (by unfold partV; rw [if_neg (by simp [q1]), if_neg (by simp [q2]), if_neg (by simp [q3]), if_neg (by simp [q4]), if_pos q5])⟩
        · simp only [List.length_cons, List.length_nil]
          omega
        · simp only [List.length_append, List.length_cons, List.length_nil]
          omega
      · refine itoa_ok ht fun t4 => ⟨_, rfl, ?_, ?_, step _ (by unfold partV; rw [if_neg (by simp [q1]), if_neg (by simp [q2]), if_neg (by simp [q3]), if_neg (by simp [q4]), if_neg (by simp [q5])])⟩
        · simp only [List.length_cons, List.length_nil]
          omega
        · simp only [List.length_append, List.length_cons, List.length_nil]
          omega
    · have : p = (opP op).length := by omega
      subst this
      rw [List.take_length]
      exact hP _
  · unfold D106b
    refine shapes_ok fun l t1 hl => ⟨l, rfl, ?_⟩
    rw [hl.len, l26]
    refine ⟨⟨h0, by omega⟩, opN op, opP op, by simpa [encS] using hl.agg hat, fun s t => s = headV op star, ⟨fun hb => ?_, fun hb => ?_⟩, ?_⟩
    · subst hb
      exact ⟨by simp only [List.length_cons, List.length_nil]; omega, rfl⟩
    · subst hb
      rfl
    rintro _ t2 rfl
    refine ⟨fun m s c p t => c = opP op ∧ m + p = (opP op).length ∧ s = headV op star ++ ((opP op).take p).flatMap (partV r sr sn vr vn wr wn n to), ⟨(opP op).length, rfl, rfl, by simp⟩, ?_⟩
    rintro m _ _ p t3 ⟨rfl, hm, rfl⟩
    refine ⟨fun hlt => ?_, fun hge => ?_⟩
    · obtain ⟨c, hc⟩ := lt_len rfl hlt
      rw [Go.Abs.decode_ascii hc (f3 c (List.mem_of_getElem? hc))]
      have hsl : (headV op star ++ ((opP op).take p).flatMap (partV r sr sn vr vn wr wn n to)).length ≤ 40 := by
        have a1 := headV_len h0 h1 star
        have a2 := flat_len (partV_len r sr sn vr vn wr wn n to) ((opP op).take p)
        rw [List.length_append, List.length_take] at *
        omega
      have step : ∀ w : List UInt8, partV r sr sn vr vn wr wn n to c = w → (∃ m', m' < m ∧ (True ∧ m' + (p + 1) = (opP op).length ∧ (headV op star ++ ((opP op).take p).flatMap (partV r sr sn vr vn wr wn n to)) ++ w = headV op star ++ ((opP op).take (p + 1)).flatMap (partV r sr sn vr vn wr wn n to))) := by
        intro w hw
        refine ⟨m - 1, by omega, trivial, by omega, ?_⟩
        rw [take_flat _ hc, hw, List.append_assoc]
      have rl := rgV_len r
      have dn := dd_len n.toNat
      have dt := dd_len to.toNat
      have w1 := hwl sr sn
      have w2 := hwl vr vn
      have w3 := hwl wr wn
      generalize (headV op star ++ ((opP op).take p).flatMap (partV r sr sn vr vn wr wn n to)) = s at hsl step
      have rt := reg_take hr
      have rb := reg_bounds hr
      unfold regsX at rt rb
      simp only
      refine ⟨fun q1 => ?_, fun q1 => ⟨fun q2 => ?_, fun q2 => ⟨fun q3 => ?_, fun q3 => ⟨fun q4 => ?_, fun q4 => ⟨fun q5 => ?_, fun q5 => ?_⟩⟩⟩⟩⟩
      · refine ⟨rb, ?_, ?_, ?_⟩
        · rw [rt]
          simp only [List.length_cons, List.length_nil]
          omega
        · rw [rt]
          simp only [List.length_append, List.length_cons, List.length_nil]
          omega
        · rw [rt]
          exact step _ (by unfold partV; rw [if_pos q1])
      · refine written_ok hs fun t4 => ⟨_, rfl, ?_, ?_, step _ (by unfold partV; rw [if_neg (by simp [q1]), if_pos q2])⟩
        · simp only [List.length_cons, List.length_nil]
          omega
        · simp only [List.length_append, List.length_cons, List.length_nil]
          omega
      · refine written_ok hv fun t4 => ⟨_, rfl, ?_, ?_, step _ (by unfold partV; rw [if_neg (by simp [q1]), if_neg (by simp [q2]), if_pos q3])⟩
        · simp only [List.length_cons, List.length_nil]
          omega
        · simp only [List.length_append, List.length_cons, List.length_nil]
          omega
      · refine written_ok hw fun t4 => ⟨_, rfl, ?_, ?_, step _ (by unfold partV; rw [if_neg (by simp [q1]), if_neg (by simp [q2]), if_neg (by simp [q3]), if_pos q4])⟩
        · simp only [List.length_cons, List.length_nil]
          omega
        · simp only [List.length_append, List.length_cons, List.length_nil]
          omega
      · refine itoa_ok hn fun t4 => ⟨_, rfl, ?_, ?_, step _ (by unfold partV; rw [if_neg (by simp [q1]), if_neg (by simp [q2]), if_neg (by simp [q3]), if_neg (by simp [q4]), if_pos q5])⟩
        · simp only [List.length_cons, List.length_nil]
          omega
        · simp only [List.length_append, List.length_cons, List.length_nil]
          omega
      · refine itoa_ok ht fun t4 => ⟨_, rfl, ?_, ?_, step _ (by unfold partV; rw [if_neg (by simp [q1]), if_neg (by simp [q2]), if_neg (by simp [q3]), if_neg (by simp [q4]), if_neg (by simp [q5])])⟩
        · simp only [List.length_cons, List.length_nil]
          omega
        · simp only [List.length_append, List.length_cons, List.length_nil]
          omega
    · have : p = (opP op).length := by omega
      subst this
      rw [List.take_length]
      exact hP _
end Go.Proofs.YtifkphfhadimaaaGreatDoor.Mini

