/- The operations, compiled; and that each does on the machine what it does here. -/
import Derived.Test.YthedodaghjpdoaaAbsD
import Derived.Laws.Build
set_option linter.unusedVariables false
set_option linter.unusedSimpArgs false
namespace Go.Abs
open Go.RowKit

def structPlaces (P : Program) (fs : List Field) : Option (List (Nat × Nat)) := allM (fun (f : Field) => (sizeT P f.type).map fun s => (f.offset, s)) fs

def compParts (place : Nat → Option (Nat × Nat)) (ps : List (Nat × Operand)) : Option (List (Nat × Nat × MO)) :=
  allM (fun (p : Nat × Operand) => match place p.1, compO p.2 with
    | some (off, sz), some x => some (off, sz, x)
    | _, _ => none) ps

/-- Of '==' the types that are told here; isNil: one side is the literal nil of an interface. -/
def isNilConst : Operand → Bool
  | .const .nilIface => true
  | _ => false

def eqKind (P : Program) (t : TypeId) : Option EqK :=
  match P.underlying t with
  | some .bool => some .bool
  | some (.pointer _) => some .ptr
  | some (.slice _) => some .slice
  | some (.map _ _) => some .map
  | some (.func _ _ _) => some .fn
  | _ => none

def isIfaceT (P : Program) (t : TypeId) : Bool :=
  match P.underlying t with
  | some (.interface _) => true
  | _ => false

def ckFs (f0 : TypeId → Option (List CK)) : Nat → List Field → Option (List CK)
  | _, [] => some []
  | off, f :: fs => if f.name != "_" && f.offset == off then (match f0 f.type with
    | some ks => (ckFs f0 (off + ks.length) fs).map (ks ++ ·)
    | none => none) else none

/-- The cells of a type whose values are compared cell by cell. -/
def ckT (P : Program) : Nat → TypeId → Option (List CK)
  | 0, _ => none
  | d + 1, t => match P.underlying t with
    | some .bool => some [.bool]
    | some (.int _) => some [.int]
    | some .string => some [.str]
    | some (.struct fs) => if P.stoodInHeld t then none else (ckFs (ckT P d) 0 fs.toList).filter fun ks => sizeT P t == some ks.length
    | _ => none

def isNegOp : BinOp → Option Bool
  | .eql => some false
  | .neq => some true
  | _ => none

def numKind (P : Program) (t : TypeId) : Bool :=
  match P.underlying t with
  | some (.int _) | some .string => true
  | _ => false

def isStrT (P : Program) (t : TypeId) : Bool :=
  match P.underlying t with
  | some .string => true
  | _ => false

def compOp (P : Program) : Op → Option MOp
  | .move x => (compO x).map .mov
  | .assign x => (compO x).map .mov
  | .pick c a b => match compO c, compO a, compO b with
    | some c, some a, some b => some (.pick c a b)
    | _, _, _ => none
  | .alloc t => match P.info? t with
    | some i => match i.zero with
      | some z => (toCells z.cells.toList).map fun l => .alloc l (match P.underlying t with
        | some (.array _ e) => (sizeT P e).getD 0
        | _ => i.size)
      | none => none
    | none => none
  | .box t x => match sizeT P t, compO x with
    | some n, some x => some (.box n x)
    | _, _ => none
  | .build t ps => match P.underlying t, P.info? t with
    | some (.struct fs), some i => match i.zero, structPlaces P fs.toList with
      | some z, some pl => match toCells z.cells.toList, compParts (pl[·]?) ps.toList with
        | some z, some ps => some (.build z ps)
        | _, _ => none
      | _, _ => none
    | some (.array _ e), some i => match i.zero, sizeT P e with
      | some z, some s => match toCells z.cells.toList, compParts (fun j => some (j * s, s)) ps.toList with
        | some z, some ps => some (.build z ps)
        | _, _ => none
      | _, _ => none
    | _, _ => none
  | .buildSlice t n ps => match P.underlying t with
    | some (.slice e) => match P.info? e with
      | some i => if n * i.size > 2 ^ 24 then none else match i.zero with
        | some z => match toCells ((Array.range (n * i.size)).map (fun j => ((if n * i.size = 0 then #[] else z.cells : Array Value))[j % (if n * i.size = 0 then #[] else z.cells : Array Value).size]!)).toList, compParts (fun j => some (j * i.size, i.size)) ps.toList with
          | some l, some ps => some (.buildSlice n i.size l ps)
          | _, _ => none
        | none => none
      | none => none
    | _ => none
  | .load t a => match aggT P t, compO a with
    | some agg, some a => some (.load agg a)
    | _, _ => none
  | .store t a x => match sizeT P t, compO a, compO x with
    | some n, some a, some x => some (.store n a x)
    | _, _, _ => none
  | .nilCheck x => (compO x).map .nilCheck
  | .binOp op t x y _ =>
    if isIfaceT P t then (match isNegOp op with
      | some neg => if isNilConst y then (compO x).map (.isNil neg) else if isNilConst x then (compO y).map (.isNil neg) else none
      | none => none)
    else match compO x, compO y with
    | some x, some y => if numKind P t then some (.bin op x y) else match isNegOp op with
      | some neg => match eqKind P t with
        | some k => some (.eqv k neg x y)
        | none => match ckT P 5 t, aggT P t with
          | some ks, some (some _) => if Nat.ble 5 P.depth then some (.eqAgg ks neg x y) else none
          | _, _ => none
      | none => none
    | _, _ => none
  | .unOp op _ x => (compO x).map (.un op)
  | .convert src dst x => match P.underlying src, P.underlying dst, compO x with
    | some _, some (.int k), some x => some (.convInt k x)
    | some .string, some .string, some x => some (.convStr x)
    | _, _, _ => none
  | .makeInterface t x => if P.concrete t then (compO x).map (.mkIface t) else none
  | .makeFunc (.func f) first cap => if first.size = 0 then (compOs cap.toList).map (.mkFn f) else none
  | .makeMap t none => some .mkMap
  | .slice t x lo hi none => match P.underlying t, compO x, compOpt lo, compOpt hi with
    | some .string, some x, some lo, some hi => some (.sliceStr x lo hi)
    | some (.slice e), some x, some lo, some hi => (sizeT P e).map fun s => .sliceSlc s x lo hi
    | _, _, _, _ => none
  | .fieldAddr s x f => match P.underlying s, compO x with
    | some (.struct fs), some x => match fs[f]? with
      | some fd => match sizeT P fd.type with
        | some n => if n = 0 then none else some (.fieldAddr fd.offset x)
        | none => none
      | none => none
    | _, _ => none
  | .field s x f => match P.underlying s, compO x with
    | some (.struct fs), some x => match fs[f]? with
      | some fd => (aggT P fd.type).map fun agg => .field fd.offset agg x
      | none => none
    | _, _ => none
  | .indexAddr t x i => match P.underlying t, compO x, compO i with
    | some (.slice e), some x, some i => (sizeT P e).map fun s => .indexAddr s x i
    | some (.array n e), some x, some i => (sizeT P e).map fun s => .indexArr s n x i
    | _, _, _ => none
  | .index t x i => match P.underlying t, compO x, compO i with
    | some .string, some x, some i => some (.indexStr x i)
    | some (.array n e), some x, some i => match sizeT P e, aggT P e with
      | some s, some agg => some (.indexAgg s agg n x i)
      | _, _ => none
    | _, _, _ => none
  | .extract x i => (compO x).map (.extract i)
  | .range t x => if isStrT P t then (compO x).map .rangeStr else none
  | .next x true => (compO x).map .nextStr
  | .call { callee := .value f, args, .. } => match compO f, compOs args.toList with
    | some f, some args => some (.call f args)
    | _, _ => none
  | .call { callee := .builtin .len, args, argTypes } => match argTypes[0]?, args[0]?.bind compO with
    | some t, some x => match P.underlying t with
      | some .string => some (.lenStr x)
      | some (.slice _) => some (.lenSlc x)
      | some (.array n _) => some (.lenConst n)
      | some (.map _ _) => some (.lenMap x)
      | _ => none
    | _, _ => none
  | .call { callee := .builtin .append, args, argTypes } => match argTypes[0]?, argTypes[1]?, args[0]?.bind compO, args[1]?.bind compO with
    | some t, some u, some s, some x => match P.underlying t, P.underlying u with
      | some (.slice e), some (.slice _) => (P.info? e).bind fun i => if i.size = 0 ∨ i.bytes = 0 then none else i.zero.bind fun z => if z.cells.size = i.size then some (.append i.size i.bytes s x) else none
      | _, _ => none
    | _, _, _, _ => none
  | .call { callee := .builtin .min, args, .. } => match args.toList.map compO with
    | [some x, some y] => some (.mini x y)
    | _ => none
  | .call { callee := .builtin .max, args, .. } => match args.toList.map compO with
    | [some x, some y] => some (.maxi x y)
    | _ => none
  | _ => none

/-- What is asked of an operation that is no call. -/
def OpOK (P : Program) (o : Oper) (a : Act) (m : Emb) (h' : Heap) (base : Nat) (w0 w : World) (v : AV) : Prop :=
  ∃ m' w', m.le m' ∧ HR m' h' base w0 w' ∧ ((∃ cv, (execOp a.eval o).run P w = .ok (.value cv) w' ∧ VR m' v cv) ∨ ((execOp a.eval o).run P w = .ok .skip w' ∧ v = .undef))

section
variable {P : Program} {o : Oper} {a : Act} {m : Emb} {h : Heap} {base : Nat} {w0 w : World} {t : Tmps} {v : AV} {h' : Heap}

theorem OpOK.same (k : HR m h base w0 w) {cv : Value} (hr : (execOp a.eval o).run P w = .ok (.value cv) w) (hv : VR m v cv) : OpOK P o a m h base w0 w v :=
  ⟨m, w, Emb.le.refl m, k, .inl ⟨cv, hr, hv⟩⟩

theorem sound_move {x : Operand} {mx : MO} (ho : o.op = .move x ∨ o.op = .assign x) (hx : compO x = some mx) (ht : TR m t a.tmps) (k : HR m h base w0 w) (he : evalOp t h (.mov mx) = some (v, h')) :
    OpOK P o a m h' base w0 w v := by
  simp only [evalOp, Option.some.injEq, Prod.mk.injEq] at he
  obtain ⟨rfl, rfl⟩ := he
  refine OpOK.same k (cv := a.eval x) ?_ (compO_sound hx ht)
  rcases ho with ho | ho <;> simp [execOp, ho]

theorem sound_pick {c x y : Operand} {mc mx my : MO} (ho : o.op = .pick c x y) (hc : compO c = some mc) (hx : compO x = some mx) (hy : compO y = some my) (ht : TR m t a.tmps) (k : HR m h base w0 w) (he : evalOp t h (.pick mc mx my) = some (v, h')) :
    OpOK P o a m h' base w0 w v := by
  have vc := compO_sound hc ht
  simp only [evalOp] at he
  split at he
  · rename_i hb
    cases he
    rw [hb] at vc
    simp only [VR] at vc
    exact OpOK.same k (cv := a.eval x) (by simp [execOp, ho, vc, asBool]) (compO_sound hx ht)
  · rename_i hb
    cases he
    rw [hb] at vc
    simp only [VR] at vc
    exact OpOK.same k (cv := a.eval y) (by simp [execOp, ho, vc, asBool]) (compO_sound hy ht)
  · cases he

/-- A new row of cells. -/
theorem push_arr (k : HR m h base w0 w) {c : List AV} {cs : Array Value} {ty : TypeId} {es : Nat} (hv : VRs m c cs.toList) (hc : ∀ x ∈ cs.toList, isCell x = true) :
    ∃ m', m.le m' ∧ HR m' (h ++ [.arr c es false]) base w0 (w.alloc (.cells cs ty)) ∧ m' h.length = some ⟨w.heap.size, 0, cs.size, es⟩ := by
  have hl := hv.length
  have hle : m.le (m.upd h.length ⟨w.heap.size, 0, cs.size, es⟩) := Emb.le_upd k.none_of_len
  refine ⟨m.upd h.length ⟨w.heap.size, 0, cs.size, es⟩, hle, k.push _ _ _ _ _ ?_, Emb.upd_same _ _ _⟩
  refine ⟨_, Emb.upd_same _ _ _, rfl, cs, ty, (0, 0), ?_, rfl, ?_, fun i v hi => ?_, fun _ => ⟨rfl, k.size⟩, fun hf => by cases hf⟩
  · show (w.heap.push _)[w.heap.size]? = _
    simp
  · show 0 + c.length ≤ cs.size
    have : cs.toList.length = cs.size := by simp
    omega
  · obtain ⟨cv, h1, h2⟩ := hv.get i v hi
    refine ⟨cv, ?_, VR.mono hle _ _ h2, hc cv (List.mem_of_getElem? h1)⟩
    show cs[0 + i]? = _
    rw [Nat.zero_add, ← Array.getElem?_toList]
    exact h1

theorem toCells_sound {l : List AV} : ∀ {vs : List Value}, toCells vs = some l → VRs m l vs ∧ ∀ c ∈ vs, isCell c = true := by
  intro vs hh
  unfold toCells at hh
  obtain ⟨h1, h2⟩ := allM_spec hh
  refine ⟨VRs.of_get h1.symm fun i x hx => ?_, fun c hc => ?_⟩
  · obtain ⟨v, hv, ha⟩ := h2 i x hx
    exact ⟨v, hv, (VR_toAV m 4 v x ha).1⟩
  · obtain ⟨i, hi⟩ := List.mem_iff_getElem?.1 hc
    have hil : i < l.length := by
      have := (List.getElem?_eq_some_iff.1 hi).1
      omega
    obtain ⟨v, hv, ha⟩ := h2 i _ (List.getElem?_eq_getElem hil)
    rw [hi] at hv
    cases hv
    exact (VR_toAV m 4 c _ ha).2

theorem zeroValue_run {ty : TypeId} {i : TypeInfo} {z : Value} (hi : P.info? ty = some i) (hz : i.zero = some z) : (zeroValue ty).run P w = .ok z w := by
  simp [zeroValue, typeInfo_run hi, hz]

theorem sound_alloc {ty : TypeId} {i : TypeInfo} {z : Value} {l : List AV} {es : Nat} (ho : o.op = .alloc ty) (hi : P.info? ty = some i) (hz : i.zero = some z) (hl : toCells z.cells.toList = some l)
    (k : HR m h base w0 w) (he : evalOp t h (.alloc l es) = some (v, h')) : OpOK P o a m h' base w0 w v := by
  simp only [evalOp, Option.some.injEq, Prod.mk.injEq] at he
  obtain ⟨rfl, rfl⟩ := he
  obtain ⟨hv, hc⟩ := toCells_sound (m := m) hl
  obtain ⟨m', hle, hk, hm⟩ := push_arr k (ty := ty) (es := es) hv hc
  refine ⟨m', _, hle, hk, .inl ⟨.pointer (some ⟨w.heap.size, 0, none⟩), ?_, ?_⟩⟩
  · simp [execOp, ho, Instr.alloc, zeroValue_run hi hz, newVar, newRow]
  · simp only [VR]
    exact ⟨_, hm, rfl⟩

theorem sound_box {ty : TypeId} {x : Operand} {mx : MO} {n : Nat} (ho : o.op = .box ty x) (hx : compO x = some mx) (ht : TR m t a.tmps)
    (k : HR m h base w0 w) (he : evalOp t h (.box n mx) = some (v, h')) : OpOK P o a m h' base w0 w v := by
  simp only [evalOp] at he
  split at he
  · rename_i cs hcs
    split at he
    · cases he
      obtain ⟨hv, hc⟩ := cells_sound hcs (compO_sound hx ht)
      obtain ⟨m', hle, hk, hm⟩ := push_arr k (ty := ty) (es := n) hv hc
      refine ⟨m', _, hle, hk, .inl ⟨.pointer (some ⟨w.heap.size, 0, none⟩), ?_, ?_⟩⟩
      · simp [execOp, ho, Instr.box, newVar, newRow]
      · simp only [VR]
        exact ⟨_, hm, rfl⟩
    · cases he
  · cases he

theorem sound_load {ty : TypeId} {x : Operand} {mx : MO} {agg : Option Nat} (ho : o.op = .load ty x) (hagg : aggT P ty = some agg) (hx : compO x = some mx) (ht : TR m t a.tmps)
    (k : HR m h base w0 w) (he : evalOp t h (.load agg mx) = some (v, h')) : OpOK P o a m h' base w0 w v := by
  have vx := compO_sound hx ht
  simp only [evalOp] at he
  split at he
  · rename_i b off hb
    simp only [Option.map_eq_some_iff, Prod.mk.injEq] at he
    obtain ⟨v1, hr, rfl, rfl⟩ := he
    rw [hb] at vx
    obtain ⟨ad, cv, hp, hrun, hv⟩ := loadVar_sound k hagg hr vx
    refine OpOK.same k (cv := cv) ?_ hv
    simp [execOp, ho, Instr.loadAt, hp, Instr.sureAddr, hrun]
  · cases he

theorem sound_store {ty : TypeId} {x y : Operand} {mx my : MO} {n : Nat} (ho : o.op = .store ty x y) (hn : sizeT P ty = some n) (hx : compO x = some mx) (hy : compO y = some my) (ht : TR m t a.tmps)
    (k : HR m h base w0 w) (he : evalOp t h (.store n mx my) = some (v, h')) : OpOK P o a m h' base w0 w v := by
  have vx := compO_sound hx ht
  have vy := compO_sound hy ht
  simp only [evalOp] at he
  split at he
  · rename_i b off hb
    split at he
    · rename_i cs hcs
      split at he
      · rename_i hlen
        simp only [Option.map_eq_some_iff, Prod.mk.injEq] at he
        obtain ⟨h1, hw, rfl, rfl⟩ := he
        rw [hb] at vx
        simp only [VR] at vx
        obtain ⟨e, hm, hp⟩ := vx
        obtain ⟨hv, hc⟩ := cells_sound hcs vy
        obtain ⟨w', hrun, hk⟩ := wrCells_sound (P := P) k hw hv hc hm
        simp only [sizeT, Option.map_eq_some_iff] at hn
        obtain ⟨i, hi, hn⟩ := hn
        have hsz : (a.eval y).cells.size = i.size := by
          have := hv.length
          simp at this
          omega
        refine ⟨m, w', Emb.le.refl m, hk, .inr ⟨?_, rfl⟩⟩
        simp [execOp, ho, Instr.storeAt, hp, Instr.sureAddr, storeVar, sizeOf_run hi, hsz, hrun]
      · cases he
    · cases he
  · cases he

theorem sound_nilCheck {x : Operand} {mx : MO} (ho : o.op = .nilCheck x) (hx : compO x = some mx) (ht : TR m t a.tmps)
    (k : HR m h base w0 w) (he : evalOp t h (.nilCheck mx) = some (v, h')) : OpOK P o a m h' base w0 w v := by
  have vx := compO_sound hx ht
  simp only [evalOp] at he
  split at he
  · rename_i b off hb
    cases he
    rw [hb] at vx
    have vx' := vx
    simp only [VR] at vx
    obtain ⟨e, hm, hp⟩ := vx
    refine OpOK.same k (cv := a.eval x) ?_ vx'
    simp [execOp, ho, hp]
  · cases he

theorem sound_fieldAddr {s : TypeId} {x : Operand} {mx : MO} {f : Nat} {fs : Array Field} {fd : Field} {n : Nat} (ho : o.op = .fieldAddr s x f) (hu : P.underlying s = some (.struct fs)) (hf : fs[f]? = some fd) (hn : sizeT P fd.type = some n) (hn0 : n ≠ 0)
    (hx : compO x = some mx) (ht : TR m t a.tmps) (k : HR m h base w0 w) (he : evalOp t h (.fieldAddr fd.offset mx) = some (v, h')) : OpOK P o a m h' base w0 w v := by
  have vx := compO_sound hx ht
  simp only [evalOp] at he
  split at he
  · rename_i b off hb
    cases he
    rw [hb] at vx
    simp only [VR] at vx
    obtain ⟨e, hm, hp⟩ := vx
    simp only [sizeT, Option.map_eq_some_iff] at hn
    obtain ⟨i, hi, rfl⟩ := hn
    refine OpOK.same k (cv := .pointer (some ⟨e.g, e.off + off + fd.offset, none⟩)) ?_ ?_
    · simp [execOp, ho, Instr.fieldAt, run_underlying hu, hf, hp, Instr.sureAddr, fieldPlace, sizeOf_run hi, hn0, add_at]
    · simp only [VR]
      exact ⟨e, hm, by rw [Nat.add_assoc]⟩
  · cases he

theorem partOf_sound {ty : TypeId} {agg : Option Nat} (hagg : aggT P ty = some agg) {l : List AV} {cs : Array Value} (hl : VRs m l cs.toList) (hc : ∀ c ∈ cs.toList, isCell c = true) {off : Nat} (hp : partOf agg l off = some v) :
    ∃ cv, (part ty cs off).run P w = .ok cv w ∧ VR m v cv := by
  unfold aggT at hagg
  split at hagg
  · rename_i d i hu hi
    simp only [Option.some.injEq] at hagg
    cases hd : isAggD d with
    | true =>
      simp only [hd, if_true] at hagg
      subst hagg
      simp only [partOf] at hp
      split at hp
      · rename_i hlen
        cases hp
        refine ⟨.agg (cs.extract off (off + i.size)), ?_, ?_⟩
        · simp [part, isAgg_run hu, hd, sizeOf_run hi]
        · simp only [VR]
          have hx : (cs.extract off (off + i.size)).toList = (cs.toList.drop off).take i.size := by
            simp [Array.toList_extract, List.extract_eq_take_drop]
          refine ⟨_, rfl, ?_, fun c hcm => hc c ?_⟩
          · rw [hx]; exact (hl.drop off).take i.size
          · rw [hx] at hcm
            exact List.mem_of_mem_drop (List.mem_of_mem_take hcm)
      · cases hp
    | false =>
      simp only [hd, Bool.false_eq_true, if_false] at hagg
      subst hagg
      simp only [partOf] at hp
      obtain ⟨cv, h1, h2⟩ := hl.get off v hp
      refine ⟨cv, ?_, h2⟩
      have h1' : cs[off]? = some cv := by simpa using h1
      simp [part, isAgg_run hu, hd, h1']
  · cases hagg

theorem sound_field {s : TypeId} {x : Operand} {mx : MO} {f : Nat} {fs : Array Field} {fd : Field} {agg : Option Nat} (ho : o.op = .field s x f) (hu : P.underlying s = some (.struct fs)) (hf : fs[f]? = some fd) (hagg : aggT P fd.type = some agg)
    (hx : compO x = some mx) (ht : TR m t a.tmps) (k : HR m h base w0 w) (he : evalOp t h (.field fd.offset agg mx) = some (v, h')) : OpOK P o a m h' base w0 w v := by
  have vx := compO_sound hx ht
  simp only [evalOp] at he
  split at he
  · rename_i l hb
    simp only [Option.map_eq_some_iff, Prod.mk.injEq] at he
    obtain ⟨v1, hp, rfl, rfl⟩ := he
    rw [hb] at vx
    simp only [VR] at vx
    obtain ⟨cs, hcv, hl, hc⟩ := vx
    obtain ⟨cv, hrun, hv⟩ := partOf_sound (w := w) hagg hl hc hp
    refine OpOK.same k (cv := cv) ?_ hv
    simp [execOp, ho, Instr.field, run_underlying hu, hf, hcv, asAgg, hrun]
  · cases he

theorem sound_indexAddr {ty e : TypeId} {x i : Operand} {mx mi : MO} {s : Nat} (ho : o.op = .indexAddr ty x i) (hu : P.underlying ty = some (.slice e)) (hs : sizeT P e = some s)
    (hx : compO x = some mx) (hi : compO i = some mi) (ht : TR m t a.tmps) (k : HR m h base w0 w) (he : evalOp t h (.indexAddr s mx mi) = some (v, h')) : OpOK P o a m h' base w0 w v := by
  have vx := compO_sound hx ht
  have vi := compO_sound hi ht
  simp only [evalOp] at he
  split at he
  · rename_i b off n kk j hb hj
    split at he
    · rename_i hj2
      cases he
      rw [hb] at vx
      rw [hj] at vi
      simp only [VR] at vx vi
      obtain ⟨ent, hm, hp⟩ := vx
      simp only [sizeT, Option.map_eq_some_iff] at hs
      obtain ⟨ti, hti, rfl⟩ := hs
      rcases hp with ⟨c, hp, _, _⟩ | ⟨hn0, _⟩
      · refine OpOK.same k (cv := .pointer (some ⟨ent.g, ent.off + off + j.toNat * ti.size, none⟩)) ?_ ?_
        · simp [execOp, ho, Instr.indexAt, vi, asIntOf, run_underlying hu, hp, hj2, sizeOf_run hti, add_at]
        · simp only [VR]
          exact ⟨ent, hm, by rw [Nat.add_assoc]⟩
      · omega
    · cases he
  · cases he

theorem sound_indexArr {ty e : TypeId} {x i : Operand} {mx mi : MO} {s n : Nat} (ho : o.op = .indexAddr ty x i) (hu : P.underlying ty = some (.array n e)) (hs : sizeT P e = some s)
    (hx : compO x = some mx) (hi : compO i = some mi) (ht : TR m t a.tmps) (k : HR m h base w0 w) (he : evalOp t h (.indexArr s n mx mi) = some (v, h')) : OpOK P o a m h' base w0 w v := by
  have vx := compO_sound hx ht
  have vi := compO_sound hi ht
  simp only [evalOp] at he
  split at he
  · rename_i b off kk j hb hj
    split at he
    · rename_i hj2
      cases he
      rw [hb] at vx
      rw [hj] at vi
      simp only [VR] at vx vi
      obtain ⟨ent, hm, hp⟩ := vx
      simp only [sizeT, Option.map_eq_some_iff] at hs
      obtain ⟨ti, hti, rfl⟩ := hs
      refine OpOK.same k (cv := .pointer (some ⟨ent.g, ent.off + off + j.toNat * ti.size, none⟩)) ?_ ?_
      · simp [execOp, ho, Instr.indexAt, vi, asIntOf, run_underlying hu, hp, Instr.sureAddr, hj2, sizeOf_run hti, add_at]
      · simp only [VR]
        exact ⟨ent, hm, by rw [Nat.add_assoc]⟩
    · cases he
  · cases he

theorem sound_indexStr {ty : TypeId} {x i : Operand} {mx mi : MO} (ho : o.op = .index ty x i) (hu : P.underlying ty = some .string)
    (hx : compO x = some mx) (hi : compO i = some mi) (ht : TR m t a.tmps) (k : HR m h base w0 w) (he : evalOp t h (.indexStr mx mi) = some (v, h')) : OpOK P o a m h' base w0 w v := by
  have vx := compO_sound hx ht
  have vi := compO_sound hi ht
  simp only [evalOp] at he
  split at he
  · rename_i s kk j hb hj
    split at he
    · rename_i hj2
      simp only [Option.map_eq_some_iff, Prod.mk.injEq] at he
      obtain ⟨c, hc, rfl, rfl⟩ := he
      rw [hb] at vx
      rw [hj] at vi
      simp only [VR] at vx vi
      have hlt : j.toNat < s.length := (List.getElem?_eq_some_iff.1 hc).1
      have hg : (⟨s.toArray⟩ : ByteArray)[j.toNat]? = some c := by
        have : (⟨s.toArray⟩ : ByteArray).size = s.length := by simp [ByteArray.size]
        rw [getElem?_pos _ _ (by omega)]
        have h2 := (List.getElem?_eq_some_iff.1 hc).2
        rw [← h2]
        rfl
      refine OpOK.same k (cv := .int .u8 c.toNat) ?_ (by simp [VR])
      simp [execOp, ho, Instr.index, vi, asIntOf, run_underlying hu, vx, hj2, hg]
    · cases he
  · cases he

theorem sound_indexAgg {ty e : TypeId} {x i : Operand} {mx mi : MO} {s n : Nat} {agg : Option Nat} (ho : o.op = .index ty x i) (hu : P.underlying ty = some (.array n e)) (hs : sizeT P e = some s) (hagg : aggT P e = some agg)
    (hx : compO x = some mx) (hi : compO i = some mi) (ht : TR m t a.tmps) (k : HR m h base w0 w) (he : evalOp t h (.indexAgg s agg n mx mi) = some (v, h')) : OpOK P o a m h' base w0 w v := by
  have vx := compO_sound hx ht
  have vi := compO_sound hi ht
  simp only [evalOp] at he
  split at he
  · rename_i l kk j hb hj
    split at he
    · rename_i hj2
      simp only [Option.map_eq_some_iff, Prod.mk.injEq] at he
      obtain ⟨v1, hp, rfl, rfl⟩ := he
      rw [hb] at vx
      rw [hj] at vi
      simp only [VR] at vx vi
      obtain ⟨cs, hcv, hl, hc⟩ := vx
      simp only [sizeT, Option.map_eq_some_iff] at hs
      obtain ⟨ti, hti, rfl⟩ := hs
      obtain ⟨cv, hrun, hv⟩ := partOf_sound (w := w) hagg hl hc hp
      refine OpOK.same k (cv := cv) ?_ hv
      simp [execOp, ho, Instr.index, vi, asIntOf, run_underlying hu, hcv, hj2, sizeOf_run hti, hrun]
    · cases he
  · cases he

theorem sound_extract {x : Operand} {mx : MO} {i : Nat} (ho : o.op = .extract x i) (hx : compO x = some mx) (ht : TR m t a.tmps) (k : HR m h base w0 w) (he : evalOp t h (.extract i mx) = some (v, h')) : OpOK P o a m h' base w0 w v := by
  have vx := compO_sound hx ht
  simp only [evalOp] at he
  split at he
  · rename_i l hb
    simp only [Option.map_eq_some_iff, Prod.mk.injEq] at he
    obtain ⟨v1, hp, rfl, rfl⟩ := he
    rw [hb] at vx
    simp only [VR] at vx
    obtain ⟨cs, hcv, hl⟩ := vx
    obtain ⟨cv, h1, h2⟩ := hl.get i v1 hp
    have h1' : cs[i]? = some cv := by simpa using h1
    exact OpOK.same k (cv := cv) (by simp [execOp, ho, Instr.extract, hcv, h1']) h2
  · cases he
end
end Go.Abs
