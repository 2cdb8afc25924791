import Derived.Test.YtifkphfhadimaaaGreatDoorCeF
set_option linter.unusedVariables false
set_option linter.unusedSimpArgs false
set_option maxRecDepth 100000
namespace Go.Proofs.YtifkphfhadimaaaGreatDoor.Mini
open Go.Abs

theorem bool_at {H : Heap} {z : Slc} {B : List Bool} {i : Nat} {b : Bool} (k : Sl H z 1 encB B) (hb : B[i]? = some b) : rdVar H none z.b (z.o + i * 1) = some (.bool b) := k.cell0 hb rfl

theorem codeReaches_ok {p : ProgT} {routine : Int} {s : Slc} {h : Heap} (hs : ProgF h s p.2.2) (hk : SmallP p) {P : AV → Heap → Prop} (hP : ∀ t, P (.bool true) t) : CallE KE 21 [pAV p s, .int .i64 routine] h P := by
  refine d21 (by kernel_rfl) ?_
  unfold D21
  have sane : ∀ {H : Heap} {P : AV → Heap → Prop}, (∀ t, P (.bool true) t) → CallE KE 51 [] H P := fun hP => CallE.lift le_de (sane_d hP)
  refine CallE.lift le_de (large_ok hs.ext.on hk fun b t1 hb => ⟨b, rfl, fun b1 => sane fun t2 => ⟨_, rfl, hP _⟩, fun b1 => ?_⟩)
  have hf : Few p.2.2 := ⟨(hb b1).1, (hb b1).2⟩
  obtain ⟨qs, h1, h2, h3⟩ := hs.on.rows
  rw [h1.len, h2]
  refine reached_ok hs.ext.on hf (fun c0 t3 => ?_) (fun c0 c1 t3 => ?_) (fun i r c0 c1 c2 z B t3 hC hz => ?_)
  · refine ⟨⟨0, 0, 0, true⟩, _, rfl, CallE.lift le_de (rcheck_d (p := p) hs.ext.on hf.bnd fun t4 => ⟨_, rfl, fun q => absurd (by simpa using q) c0, fun _ => ⟨fun _ => sane fun t5 => ⟨_, rfl, hP _⟩, fun q => absurd (by simpa using q) c0⟩⟩)⟩
  · refine ⟨⟨0, 0, 0, true⟩, _, rfl, CallE.lift le_de (rcheck_d (p := p) hs.ext.on hf.bnd fun t4 => ⟨_, rfl, fun _ => ⟨fun q => ⟨fun _ => ⟨fun _ => sane fun t5 => ⟨_, rfl, hP _⟩, fun e => by simp at e⟩, fun e => ?_⟩, fun _ => ⟨fun _ => sane fun t5 => ⟨_, rfl, hP _⟩, fun e => by simp at e⟩⟩, fun e => by rw [c0] at e; simp at e⟩)⟩
    simp only [decide_eq_false_iff_not] at q e
    omega
  · subst c1
    refine ⟨z, _, rfl, CallE.lift le_de (rcheck_d (p := p) hs.ext.on hf.bnd fun t4 => ⟨_, rfl, fun _ => ⟨fun q => ⟨fun e => ?_, fun e => ?_⟩, fun e => ?_⟩, fun e => by rw [c0] at e; simp at e⟩)⟩
    · simp only [decide_eq_true_eq] at e
      have := (List.getElem?_eq_some_iff.1 c2).1
      omega
    · have hi := (List.getElem?_eq_some_iff.1 c2).1
      obtain ⟨w, hw⟩ := lt_len h2.symm hi
      obtain ⟨k1, k2⟩ := h3 i w r hw c2
      have hcl := hf.code r (List.mem_of_getElem? c2)
      have hg : GoodC r.2 := goodC_of (by have := List.any_eq_false.1 (check_zero c0) r (List.mem_of_getElem? c2); simpa using this)
      have hpos := hg.pos
      have hBl := hC.len
      refine ⟨⟨by omega, by omega⟩, w.2, h1.cell hw rfl, ?_⟩
      rw [hz.len, k2.len, hBl]
      refine ⟨fun _ => ?_, fun e => by simp at e⟩
      have h0 : B[0]? = some true := by
        rcases hC.start with h | h
        · exact h
        · cases h
      refine ⟨⟨by omega, by omega⟩, true, bool_at (i := 0) hz.ext h0, fun e => by simp at e, fun _ => ?_⟩
      refine ⟨fun (m : Nat) (x : Int) (t : Heap) => ∃ j : Nat, x = (j : Int) ∧ m + j = r.2.length, ⟨r.2.length, 0, rfl, rfl⟩, ?_⟩
      rintro m _ t6 ⟨j, rfl, hm⟩
      refine ⟨fun hc => ?_, fun hc => sane fun t8 => ⟨_, rfl, hP _⟩⟩
      simp only [decide_eq_true_eq] at hc
      have hj : j < r.2.length := by omega
      obtain ⟨l, hl⟩ := lt_len rfl hj
      obtain ⟨b, hb'⟩ := lt_len (show B.length = B.length from rfl) (show j < B.length by omega)
      have next : ∀ t : Heap, ∃ n4, n4 < m ∧ ∃ j' : Nat, IntKind.wrap .i64 ((j : Int) + 1) = (j' : Int) ∧ n4 + j' = r.2.length := fun _ => ⟨m - 1, by omega, j + 1, wrap_succ (by omega), by omega⟩
      refine ⟨⟨by omega, by omega⟩, b, bool_at hz.ext hb', fun _ => next [], fun hbt => ?_⟩
      have hbt : b = true := by simpa using hbt
      subst hbt
      refine ⟨⟨by omega, by omega⟩, l.getD 0 0, k2.cell0 hl rfl, fun _ => True, ⟨fun g1 => ⟨fun g2 => ?_, fun _ => trivial⟩, fun _ => trivial⟩, fun t7 _ => ⟨fun g1 => ⟨fun g2 => ⟨fun g3 => ?_, fun _ => next []⟩, fun _ => next []⟩, fun _ => next []⟩⟩
      · simp only [decide_eq_true_eq] at g1 g2
        have hto := hg.jump j l hl g1 g2
        have hBt : B[(l.getD 10 0).toNat]? = some true := by
          rcases hC.jump j l hb' hl g1 g2 with h | h
          · exact h
          · cases h
        refine ⟨⟨by omega, by omega⟩, l.getD 10 0, k2.cell (c := 10) hl rfl, ⟨by omega, by omega⟩, true, bool_at hz.ext hBt, fun e => by simp at e, fun _ => trivial⟩
      · have hBn : B[j + 1]? = some true := by
          rcases hC.next j l hb' hl (by simpa using g1) (by simpa using g2) (by simpa using g3) with h | h
          · exact h
          · cases h
        have hlt := (List.getElem?_eq_some_iff.1 hBn).1
        rw [wrap_succ (by omega)]
        exact ⟨⟨by omega, by omega⟩, true, bool_at hz.ext hBn, fun e => by simp at e, fun _ => ⟨m - 1, by omega, j + 1, rfl, by omega⟩⟩
    · simp only [decide_eq_true_eq] at e
      omega
end Go.Proofs.YtifkphfhadimaaaGreatDoor.Mini

