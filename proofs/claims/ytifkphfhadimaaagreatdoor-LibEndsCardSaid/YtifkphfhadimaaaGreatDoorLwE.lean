/- Layer 16: the law LibEnds. -/
import Derived.Test.YtifkphfhadimaaaGreatDoorLwD
set_option linter.unusedVariables false
set_option linter.unusedSimpArgs false
set_option maxRecDepth 100000
namespace Go.Proofs.YtifkphfhadimaaaGreatDoor.Mini
open Go.Abs

theorem range_all : ((List.range 21).all fun k => gives (evF E4 100000 (.call 42 [.str (nm k)]) 0 0 []) (.flat (.tuple [.int .i64 (lrow k).lo, .int .i64 (lrow k).hi, .int .i64 0]))) = true := by kernel_rfl
theorem range_yes {k : Nat} (hk : k < 21) {h : Heap} {P : AV → Heap → Prop} (hP : ∀ t, P (.tuple [.int .i64 (lrow k).lo, .int .i64 (lrow k).hi, .int .i64 0]) t) : CallE K4 42 [.str (nm k)] h P :=
  callE_gives eok4 100000 rfl (List.all_eq_true.1 range_all k (List.mem_range.2 hk)) hP
def encN (c : Form) : List AV := [.str c.1]
noncomputable def chkN (k : Nat) (v : AV) (n : Nat) (r : List AObj) : Bool := match v with
  | .tuple [.slice b o m, e] => AV.sames [.int .i64 0] [e] && holds encN 1 (lrow k).calls n r b o m
  | _ => false
theorem calls_all : ((List.range 21).all fun k => evChk E4 34 [.str (nm k)] (chkN k)) = true := by kernel_rfl
theorem calls_yes {k : Nat} (hk : k < 21) {h : Heap} {P : AV → Heap → Prop} (hP : ∀ (c : Slc) t, c.nil = false → Sl (h ++ t) c 1 encN (lrow k).calls → P (.tuple [c.av, .int .i64 0]) t) : CallE K4 34 [.str (nm k)] h P := by
  refine callE_chk (f := 34) (args := [.str (nm k)]) (chk := chkN k) eok4 (flat_str _) (List.all_eq_true.1 calls_all k (List.mem_range.2 hk)) fun v n r hc hn => ?_
  unfold chkN at hc
  split at hc
  · rename_i b o m e
    simp only [Bool.and_eq_true] at hc
    obtain ⟨h1, h2⟩ := hc
    obtain ⟨h3, _⟩ := sames_eq _ _ h1
    simp only [List.cons.injEq, and_true] at h3
    subst h3
    have := hP ⟨b + h.length, o, m, false⟩ _ rfl (sl_of_holds (f := encN) (es := 1) (g := h) (fun _ => rfl) (by decide) hn h2)
    simp only [AV.sh, AV.shs]
    exact this
  · cases hc

theorem sl_one {h : Heap} {b : Nat} {c : Form} {ro : Bool} (hb : h[b]? = some (.arr [.str c.1, .int .i64 c.2.1, .int .i64 c.2.2] 3 ro)) : Sl h ⟨b, 0, 1, false⟩ 3 encF [c] := by
  refine ⟨rfl, fun i x hi => ?_⟩
  cases i with
  | zero =>
    simp at hi
    subst hi
    simp [rdCells, hb, encF]
  | succ i => simp at hi
theorem script1 {h : Heap} {b : Nat} {q : Slc} {l : List Form} {ro : Bool} (hb : h[b]? = some (.arr [q.av] 1 ro)) (hq : Sl h q 3 encF l) : Script h ⟨b, 0, 1, false⟩ [l] := by
  refine ⟨[q], ⟨rfl, fun i x hi => ?_⟩, rfl, fun i q' l' h1 h2 => ?_⟩
  · cases i with
    | zero =>
      simp at hi
      subst hi
      simp [rdCells, hb]
    | succ i => simp at hi
  · cases i with
    | zero =>
      simp at h1 h2
      subst h1 h2
      exact hq
    | succ i => simp at h1
theorem sl_nil {h : Heap} : Sl h nilS 3 encF [] := ⟨rfl, fun i x hi => by simp at hi⟩
theorem script5 {h : Heap} {b : Nat} {ro : Bool} (hb : h[b]? = some (.arr [.nilslice, .nilslice, .nilslice, .nilslice, .nilslice] 1 ro)) : Script h ⟨b, 0, 5, false⟩ [[], [], [], [], []] := by
  refine ⟨[nilS, nilS, nilS, nilS, nilS], ⟨rfl, fun i x hi => ?_⟩, rfl, fun i q' l' h1 h2 => ?_⟩
  · have hi5 : i < 5 := (List.getElem?_eq_some_iff.1 hi).1
    rcases (by omega : i = 0 ∨ i = 1 ∨ i = 2 ∨ i = 3 ∨ i = 4) with rfl | rfl | rfl | rfl | rfl <;> · simp at hi; subst hi; simp [rdCells, hb, Slc.av]
  · have hi5 : i < 5 := (List.getElem?_eq_some_iff.1 h1).1
    rcases (by omega : i = 0 ∨ i = 1 ∨ i = 2 ∨ i = 3 ∨ i = 4) with rfl | rfl | rfl | rfl | rfl <;> · simp at h1 h2; subst h1 h2; exact sl_nil
theorem script0 {h : Heap} : Script h nilS [] := ⟨[], ⟨rfl, fun i x hi => by simp at hi⟩, rfl, fun i q l h1 => by simp at h1⟩

def xAt (k i j : Nat) : Int := if takesOf k i > 0 then [(lrow k).lo, (lrow k).hi, (lrow k).lo - 1, (lrow k).hi + 1].getD j 0 else if j > 1 then j else 0
def yAt (k i : Nat) : Int := if takesOf k i > 1 then (lrow k).lo else 0
def opAt (k i : Nat) : List UInt8 := ((lrow k).calls.getD i ([], 0, 0)).1
def firstC (k : Nat) : Form := (opAt k 0, if takesOf k 0 > 0 then (lrow k).lo else 0, yAt k 0)
theorem ends_all : ((List.range 21).all fun k => (List.range (lrow k).calls.length).all fun i => (List.range 4).all fun j => libFitsV k [[(opAt k i, xAt k i j, yAt k i)]] == decide (j < 2)) = true := by kernel_rfl
theorem ends_fit {k i j : Nat} (hk : k < 21) (hi : i < (lrow k).calls.length) (hj : j < 4) : libFitsV k [[(opAt k i, xAt k i j, yAt k i)]] = decide (j < 2) := by
  simpa using List.all_eq_true.1 (List.all_eq_true.1 (List.all_eq_true.1 ends_all k (List.mem_range.2 hk)) i (List.mem_range.2 hi)) j (List.mem_range.2 hj)
theorem many_all : ((List.range 21).all fun k => (List.range 16).all fun m => libFitsV k [List.replicate m (firstC k)] == decide (m ≤ 12)) = true := by kernel_rfl
theorem many_fit {k m : Nat} (hk : k < 21) (hm : m ≤ 15) : libFitsV k [List.replicate m (firstC k)] = decide (m ≤ 12) := by
  simpa using List.all_eq_true.1 (List.all_eq_true.1 many_all k (List.mem_range.2 hk)) m (List.mem_range.2 (by omega))
theorem five_fit (k : Nat) : libFitsV k [[], [], [], [], []] = false := by simp [libFitsV]
theorem none_fit (k : Nat) : libFitsV k [] = false := by simp [libFitsV]
theorem row_facts {k : Nat} (hk : k < 21) : (lrow k).lo < (lrow k).hi ∧ -1000 ≤ (lrow k).lo ∧ (lrow k).hi ≤ 1000 ∧ 0 < (lrow k).calls.length ∧ (lrow k).calls.all (fun c => decide (c.1.length ≤ 10)) = true := by
  have : ∀ k, k < 21 → (lrow k).lo < (lrow k).hi ∧ -1000 ≤ (lrow k).lo ∧ (lrow k).hi ≤ 1000 ∧ 0 < (lrow k).calls.length ∧ (lrow k).calls.all (fun c => decide (c.1.length ≤ 10)) = true := by decide
  exact this k hk
theorem low4 (m : Int) : ∃ n : Nat, n ≤ 15 ∧ IntKind.wrap .i64 ((BitVec.ofInt (IntKind.bits .i64) m &&& BitVec.ofInt (IntKind.bits .i64) 15).toNat : Int) = n := by
  refine ⟨(BitVec.ofInt (IntKind.bits .i64) m &&& BitVec.ofInt (IntKind.bits .i64) 15).toNat, ?_, ?_⟩
  · rw [BitVec.toNat_and]
    exact Nat.and_le_right
  · have h : (BitVec.ofInt (IntKind.bits .i64) m &&& BitVec.ofInt (IntKind.bits .i64) 15).toNat ≤ 15 := by
      rw [BitVec.toNat_and]
      exact Nat.and_le_right
    generalize (BitVec.ofInt (IntKind.bits .i64) m &&& BitVec.ofInt (IntKind.bits .i64) 15).toNat = n at h
    have e3 : (2 : Int) ^ 64 = 18446744073709551616 := by decide
    have e4 : (2 : Int) ^ (64 - 1) = 9223372036854775808 := by decide
    simp only [IntKind.wrap, IntKind.signed, IntKind.bits, Bool.true_and, decide_eq_true_eq, e3, e4]
    rw [if_neg (by omega)]
    omega
theorem wrap_small {x : Int} (h1 : -2000 ≤ x) (h2 : x ≤ 2000) : IntKind.wrap .i64 x = x := by
  have e3 : (2 : Int) ^ 64 = 18446744073709551616 := by decide
  have e4 : (2 : Int) ^ (64 - 1) = 9223372036854775808 := by decide
  simp only [IntKind.wrap, IntKind.signed, IntKind.bits, Bool.true_and, decide_eq_true_eq, e3, e4]
  split <;> omega
theorem small1 {l : List Form} (hl : l.length ≤ 1000) (ho : ∀ c ∈ l, c.1.length ≤ 1000) : Small [l] := by
  refine ⟨by simp, fun x hx => ?_, fun x hx c hc => ?_⟩
  · simp at hx
    subst hx
    omega
  · simp at hx
    subst hx
    have := ho c hc
    omega

theorem libEnds_ok {w m : Int} {h : Heap} {P : AV → Heap → Prop} (hP : ∀ t, P (.bool true) t) : CallE K5 13 [.int .i64 w, .int .i64 m] h P := by
  refine d13 (by kernel_rfl) ?_
  unfold D13
  refine CallE.lift le45 (awake4 ⟨true, rfl, fun hb => by simp at hb, fun _ => ?_⟩)
  refine CallE.lift le45 (nameIx_ok fun t2 => ⟨_, rfl, ?_⟩)
  have hk := ix_lt w
  generalize ix w = k at hk
  obtain ⟨f1, f2, f3, f4, f5⟩ := row_facts hk
  have hfew := few hk
  have f6 : ∀ (i : Nat) (z : Form), (lrow k).calls[i]? = some z → z.1.length ≤ 10 := fun i z hz => by simpa using List.all_eq_true.1 f5 z (List.mem_of_getElem? hz)
  refine CallE.lift le45 (range_yes hk fun t3 => ⟨_, _, _, rfl, ?_⟩)
  refine CallE.lift le45 (calls_yes hk fun s t4 hc hs => ⟨s, 0, rfl, ?_⟩)
  have hlen := hs.len
  refine ⟨fun _ => ⟨fun _ => ⟨fun _ => ⟨fun hb => by simp only [decide_eq_true_eq] at hb; omega, fun _ => ?_⟩, fun hb => by rw [hlen] at hb; simp only [beq_iff_eq] at hb; omega⟩, fun hb => by simp at hb⟩, fun hb => by simp at hb⟩
  refine ⟨fun n x t => ∃ i : Nat, x = i ∧ n + i = (lrow k).calls.length, ⟨_, 0, rfl, rfl⟩, ?_⟩
  rintro n _ t5 ⟨i, rfl, hi⟩
  rw [hlen]
  refine ⟨fun hc1 => ?_, fun _ => ?_⟩
  · simp only [decide_eq_true_eq] at hc1
    have hi' : i < (lrow k).calls.length := by omega
    obtain ⟨z, hz⟩ := lt_len rfl hi'
    have hat : at16 z.1 (lrow k).calls = some i := by
      have := List.all_eq_true.1 (names_once hk) i (List.mem_range.2 hi')
      rw [List.getD_eq_getElem?_getD, hz] at this
      simpa using this
    have htz : takesV (lrow k).calls z.1 = .tuple [.int .i64 z.2.1, .int .i64 0] := by
      unfold takesV
      rw [hat]
      simp [List.getD_eq_getElem?_getD, hz]
    have hto : takesOf k i = z.2.1 := by unfold takesOf; rw [List.getD_eq_getElem?_getD, hz]; rfl
    have hop : opAt k i = z.1 := by unfold opAt; rw [List.getD_eq_getElem?_getD, hz]; rfl
    refine ⟨by omega, z.1, by have hA := hs.ext (H' := h ++ ([] ++ (t2 ++ (t3 ++ (t4 ++ t5))))); simpa using hA.cell0 hz (v := .str z.1) rfl, ?_⟩
    refine CallE.lift le45 (takes_yes hk fun t6 => ⟨z.2.1, 0, htz, fun hb => by simp at hb, fun _ => ?_⟩)
    refine ⟨fun n x t => ∃ j : Nat, x = j ∧ n + j = 4, ⟨4, 0, rfl, rfl⟩, ?_⟩
    rintro n5 _ t7 ⟨j, rfl, hj⟩
    refine ⟨fun hc2 => ?_, fun _ => ⟨n - 1, by omega, i + 1, wrap_succ (by omega), by omega⟩⟩
    simp only [decide_eq_true_eq] at hc2
    have hj4 : j < 4 := by omega
    refine ⟨by omega, z.1, by have hA := hs.ext (H' := h ++ ([] ++ (t2 ++ (t3 ++ (t4 ++ (t5 ++ (t6 ++ t7))))))); simpa using hA.cell0 hz (v := .str z.1) rfl, ?_⟩
    refine ⟨fun want c1 c2 c3 t => want = decide (j < 2) ∧ c1 = z.1 ∧ c2 = xAt k i j ∧ c3 = 0, ⟨fun hp => ?_, fun hp => ⟨fun hx => ?_, fun hx => ?_⟩⟩, ?_⟩
    · simp only [decide_eq_true_eq] at hp
      refine ⟨by omega, xAt k i j, ?_, by simp; omega, rfl, rfl, rfl⟩
      unfold xAt
      rw [hto, if_pos hp, wrap_small (by omega) (by omega), wrap_small (by omega) (by omega)]
      rcases (by omega : j = 0 ∨ j = 1 ∨ j = 2 ∨ j = 3) with rfl | rfl | rfl | rfl <;> rfl
    · simp only [decide_eq_false_iff_not] at hp
      simp only [decide_eq_true_eq] at hx
      refine ⟨by simp; omega, rfl, ?_, rfl⟩
      unfold xAt
      rw [hto, if_neg hp, if_pos (by omega)]
    · simp only [decide_eq_false_iff_not] at hp hx
      refine ⟨by simp; omega, rfl, ?_, rfl⟩
      unfold xAt
      rw [hto, if_neg hp, if_neg (by omega)]
    · rintro want c1 c2 c3 t8 ⟨rfl, rfl, rfl, rfl⟩
      refine ⟨fun c1 c2 c3 t => c1 = z.1 ∧ c2 = xAt k i j ∧ c3 = yAt k i, ⟨fun hp => ⟨rfl, rfl, ?_⟩, fun hp => ⟨rfl, rfl, ?_⟩⟩, ?_⟩
      · unfold yAt
        rw [hto, if_pos (by simpa using hp)]
      · unfold yAt
        rw [hto, if_neg (by simpa using hp)]
      · rintro c4 c5 c6 t9 ⟨rfl, rfl, rfl⟩
        have hfit := ends_fit hk hi' hj4
        rw [hop] at hfit
        refine libFits_yes hk (s := ⟨_, 0, 1, false⟩) (ls := [[(z.1, xAt k i j, yAt k i)]]) (script1 (q := ⟨h.length + (([] : Heap).length + (t2.length + (t3.length + (t4.length + (t5.length + (t6.length + (t7.length + (1 + (t8.length + t9.length))))))))), 0, 1, false⟩) (ro := false) ?_ (sl_one (ro := false) ?_)) (small1 (by simp) fun c hc => ?_) fun t10 => ⟨_, _, rfl, fun _ => ⟨fun hb => by simp at hb, fun _ => ⟨n5 - 1, by omega, j + 1, wrap_succ (by omega), by omega⟩⟩, fun hb => ?_⟩
        · simp only [at_add, at_addc, at_len, Slc.av]
          rfl
        · simp only [at_add, at_addc, at_len]
          rfl
        · simp at hc
          subst hc
          have := f6 i z hz
          simp only
          omega
        · rw [hfit] at hb
          simp at hb
  · obtain ⟨z, hz⟩ := lt_len rfl f4
    have hat : at16 z.1 (lrow k).calls = some 0 := by
      have := List.all_eq_true.1 (names_once hk) 0 (List.mem_range.2 f4)
      rw [List.getD_eq_getElem?_getD, hz] at this
      simpa using this
    have htz : takesV (lrow k).calls z.1 = .tuple [.int .i64 z.2.1, .int .i64 0] := by
      unfold takesV
      rw [hat]
      simp [List.getD_eq_getElem?_getD, hz]
    have hto : takesOf k 0 = z.2.1 := by unfold takesOf; rw [List.getD_eq_getElem?_getD, hz]; rfl
    have hop : opAt k 0 = z.1 := by unfold opAt; rw [List.getD_eq_getElem?_getD, hz]; rfl
    refine ⟨by omega, z.1, by have hA := hs.ext (H' := h ++ ([] ++ (t2 ++ (t3 ++ (t4 ++ t5))))); simpa using hA.cell0 hz (v := .str z.1) rfl, by omega, z.1, by have hA := hs.ext (H' := h ++ ([] ++ (t2 ++ (t3 ++ (t4 ++ (t5 ++ [AObj.arr [(.str z.1), (.int .i64 0), (.int .i64 0)] 3 false])))))); simpa using hA.cell0 hz (v := .str z.1) rfl, ?_⟩
    refine CallE.lift le45 (takes_yes hk fun t11 => ⟨z.2.1, 0, htz, ?_⟩)
    refine ⟨fun c7 c8 c9 t => c7 = z.1 ∧ c8 = (if takesOf k 0 > 0 then (lrow k).lo else 0) ∧ c9 = 0, ⟨fun hp => ⟨rfl, ?_, rfl⟩, fun hp => ⟨rfl, ?_, rfl⟩⟩, ?_⟩
    · rw [hto, if_pos (by simpa using hp)]
    · rw [hto, if_neg (by simpa using hp)]
    rintro c7 c8 c9 t12 ⟨rfl, rfl, rfl⟩
    refine ⟨fun c7 c8 c9 t => c7 = z.1 ∧ c8 = (if takesOf k 0 > 0 then (lrow k).lo else 0) ∧ c9 = yAt k 0, ⟨fun hp => ⟨rfl, rfl, ?_⟩, fun hp => ⟨rfl, rfl, ?_⟩⟩, ?_⟩
    · unfold yAt
      rw [hto, if_pos (by simpa using hp)]
    · unfold yAt
      rw [hto, if_neg (by simpa using hp)]
    rintro c10 c11 c12 t13 ⟨rfl, rfl, rfl⟩
    have hfc : firstC k = (z.1, (if takesOf k 0 > 0 then (lrow k).lo else 0), yAt k 0) := by unfold firstC; rw [hop]
    obtain ⟨mm, hm15, hmm⟩ := low4 m
    rw [hmm]
    generalize hfx : (if takesOf k 0 > 0 then (lrow k).lo else 0) = fx at hfc
    generalize hfy : yAt k 0 = fy at hfc
    refine ⟨fun n l x t => ∃ i : Nat, x = i ∧ n + i = mm ∧ Ow (h.length + (([] : Heap).length + (t2.length + (t3.length + (t4.length + (t5.length + (1 + (t11.length + (t12.length + t13.length))))))))) t l 3 ((List.replicate i (firstC k)).flatMap encF), ⟨mm, 0, rfl, rfl, Ow.none⟩, ?_⟩
    rintro n9 l _ t14 ⟨i2, rfl, hi2, how⟩
    have hll : l.len = i2 := by
      have := how.len
      rw [flatMap_len (es := 3) (fun _ => rfl), List.length_replicate] at this
      omega
    refine ⟨fun hc3 => ?_, fun hc3 => ?_⟩
    · simp only [decide_eq_true_eq] at hc3
      obtain ⟨g, hg, hgl, _⟩ := how.take
      refine ⟨_, g, hg, by rw [hll]; omega, n9 - 1, by omega, i2 + 1, wrap_succ (by omega), by omega, ?_⟩
      rw [List.replicate_succ', List.flatMap_append]
      refine Ow.mk (g.length + 1) (by omega) ?_ ?_
      · rw [List.getElem?_append_right (by omega)]
        simp [hfc, encF]
      · rw [hll, List.length_append, flatMap_len (es := 3) (fun _ => rfl), List.length_replicate]
        simp [encF]
        omega
    · simp only [decide_eq_false_iff_not] at hc3
      have hi3 : i2 = mm := by omega
      subst hi3
      have hmf := many_fit hk hm15
      refine libFits_yes hk (s := ⟨_, 0, 1, false⟩) (ls := [List.replicate i2 (firstC k)]) (script1 (q := l) (ro := false) ?_ ?_) (small1 (by simp; omega) fun c hc => ?_) fun t15 => ⟨_, _, rfl, ?_⟩
      · simp only [at_add, at_addc, at_len]
        rfl
      · refine how.sl (by decide) (fun _ => rfl) fun j o hj => ?_
        simp only [Nat.add_assoc, at_add, at_addc]
        rw [List.getElem?_append_left (List.getElem?_eq_some_iff.1 hj).1]
        exact hj
      · have := List.eq_of_mem_replicate hc
        subst this
        have := f6 0 z hz
        rw [hfc]
        simp only
        omega
      refine libFits_yes hk (s := ⟨_, 0, 5, false⟩) (ls := [[], [], [], [], []]) (script5 (ro := false) ?_) ⟨by simp, by simp, by simp⟩ fun t16 => ⟨_, _, rfl, ?_⟩
      · simp only [at_add, at_addc, at_len]
        rfl
      refine libFits_yes hk (s := nilS) (ls := []) script0 ⟨by simp, by simp, by simp⟩ fun t17 => ⟨_, _, rfl, ?_⟩
      rw [hmf, five_fit, none_fit, hll]
      refine ⟨fun _ => ⟨fun _ => ⟨fun _ => ⟨fun _ => ⟨fun _ => ⟨fun _ => put_b (b := true) (by decide) (hP _), fun hb => by simp at hb⟩, fun hb => by simp at hb⟩, fun hb => by simp at hb⟩, fun hb => by simp at hb⟩, fun hb => ?_⟩, fun hb => by simp at hb⟩
      simp at hb
      exact absurd (by omega) hb
end Go.Proofs.YtifkphfhadimaaaGreatDoor.Mini
