/- The abstract machine of this session: values without addresses' accidents (no capacities, no block numbers of the real heap), objects, operations, and what they do. -/
import GoSem.Core.Code
import GoSem.Core.View
import GoSem.Core.Utf8
import GoSem.Op.String
set_option linter.unusedVariables false
namespace Go.Abs

/-- An abstract value. -/
inductive AV where
  | undef
  | bool (b : Bool)
  | int (k : IntKind) (n : Int)
  | str (s : List UInt8)
  | ptr (b o : Nat)
  | nilptr
  | slice (b o n : Nat)
  | nilslice
  | map (r : Nat)
  | nilmap
  | fn (f : Nat) (cap : List AV)
  | nilfn
  | iface (t : Nat) (v : AV)
  | niliface
  | agg (l : List AV)
  | tuple (l : List AV)
  deriving Inhabited

/-- An abstract object: a row of cells (ro: it came in and is never written), a map, an iterator over a string, or one that is gone. -/
inductive AObj where
  | arr (c : List AV) (es : Nat) (ro : Bool)
  | map (es : List (AV × AV))
  | iter (s : List UInt8) (pos : Nat)
  | dead
  deriving Inhabited

abbrev Heap := List AObj

inductive MO where
  | tmp (t : Nat)
  | const (v : AV)

abbrev Tmps := List AV

def MO.eval (t : Tmps) : MO → AV
  | .tmp i => t.getD i .undef
  | .const v => v

/-- A value's cells, where it is one that lies in memory. -/
def AV.cells : AV → Option (List AV)
  | .agg l => some l
  | .undef => none
  | .tuple _ => none
  | v => some [v]

/-- What is compared. -/
inductive EqK where
  | bool | ptr | slice | map | fn
  deriving DecidableEq

/-- What a cell of a comparable struct holds. -/
inductive CK where
  | bool | int | str
  deriving DecidableEq

/-- The operations, with what they need of the types laid out. agg: 'none' one cell; 'some n' a struct or an array of n cells. -/
inductive MOp where
  | mov (x : MO)
  | pick (c a b : MO)
  | alloc (z : List AV) (es : Nat)
  | box (n : Nat) (x : MO)
  | build (z : List AV) (parts : List (Nat × Nat × MO))
  | buildSlice (n es : Nat) (z : List AV) (parts : List (Nat × Nat × MO))
  | load (agg : Option Nat) (a : MO)
  | store (n : Nat) (a x : MO)
  | nilCheck (x : MO)
  | bin (op : BinOp) (x y : MO)
  | eqv (k : EqK) (neg : Bool) (x y : MO)
  | eqAgg (ks : List CK) (neg : Bool) (x y : MO)
  | isNil (neg : Bool) (x : MO)
  | un (op : UnOp) (x : MO)
  | convInt (k : IntKind) (x : MO)
  | convStr (x : MO)
  | mkIface (t : Nat) (x : MO)
  | mkFn (f : Nat) (cap : List MO)
  | mkMap
  | mkSlice (z : List AV) (bytes : Nat) (len cap : MO)
  | sliceStr (x : MO) (lo hi : Option MO)
  | sliceSlc (es : Nat) (x : MO) (lo hi : Option MO)
  | fieldAddr (off : Nat) (x : MO)
  | field (off : Nat) (agg : Option Nat) (x : MO)
  | indexAddr (es : Nat) (x i : MO)
  | indexArr (es n : Nat) (x i : MO)
  | indexStr (x i : MO)
  | indexAgg (es : Nat) (agg : Option Nat) (n : Nat) (x i : MO)
  | lookup (z : AV) (ok : Bool) (m k : MO)
  | mapUpdate (m k v : MO)
  | mapDelete (m k : MO)
  | lenStr (x : MO)
  | lenSlc (x : MO)
  | lenMap (x : MO)
  | lenConst (n : Nat)
  | append (es bytes : Nat) (s x : MO)
  | appendStr (s x : MO)
  | copy (es : Nat) (d s : MO)
  | mini (x y : MO)
  | maxi (x y : MO)
  | rangeStr (x : MO)
  | nextStr (x : MO)
  | extract (i : Nat) (x : MO)
  | call (f : MO) (args : List MO)

structure MOper where
  dst : Option Nat
  op : MOp
  guard : Option (Nat × Bool)

inductive MCode where
  | skip
  | region (ops : List MOper)
  | draw (ops : List MOper) (edges : List (List Nat))
  | seq (a b : MCode)
  | cond (c : MO) (a b : MCode)
  | block (id : Nat) (c : MCode)
  | loop (c : MCode)
  | exit (id : Nat)
  | ret

inductive MX where
  | normal
  | exit (id : Nat)
  | ret
  deriving DecidableEq

inductive MRes where
  | tmp (t : Nat)
  | cell (agg : Option Nat) (t : Nat)

structure MFunc where
  ntmps : Nat
  body : MCode
  results : List MRes

def put (t : Tmps) (d : Option Nat) (v : AV) : Tmps :=
  match d with
  | some d => t.set d v
  | none => t

/-! ### Reading and writing objects -/
def rdCells (h : Heap) (b o n : Nat) : Option (List AV) :=
  match h[b]? with
  | some (.arr c _ _) => if o + n ≤ c.length then some ((c.drop o).take n) else none
  | _ => none

def setCells {α : Type} : List α → Nat → List α → List α
  | c, _, [] => c
  | c, o, v :: vs => setCells (c.set o v) (o + 1) vs

def wrCells (h : Heap) (b o : Nat) (vs : List AV) : Option Heap :=
  match h[b]? with
  | some (.arr c es false) => if o + vs.length ≤ c.length then some (h.set b (.arr (setCells c o vs) es false)) else none
  | _ => none

def rdVar (h : Heap) (agg : Option Nat) (b o : Nat) : Option AV :=
  match agg with
  | none => (rdCells h b o 1).bind fun l => l.head?
  | some n => (rdCells h b o n).map .agg

def partOf (agg : Option Nat) (l : List AV) (off : Nat) : Option AV :=
  match agg with
  | none => l[off]?
  | some n => if off + n ≤ l.length then some (.agg ((l.drop off).take n)) else none

def fill (z : List AV) : List (Nat × Nat × AV) → Option (List AV)
  | [] => some z
  | (off, sz, v) :: r => match v.cells with
    | some cs => if cs.length = sz ∧ off + sz ≤ z.length then fill (setCells z off cs) r else none
    | none => none

/-! ### Numbers, strings, comparisons -/
def intBin (op : BinOp) (k : IntKind) (a b : Int) : Option AV :=
  match op with
  | .add => some (.int k (k.wrap (a + b)))
  | .sub => some (.int k (k.wrap (a - b)))
  | .mul => some (.int k (k.wrap (a * b)))
  | .quo => if b = 0 then none else some (.int k (k.wrap (a.tdiv b)))
  | .rem => if b = 0 then none else some (.int k (a.tmod b))
  | .and => some (.int k (k.wrap (BitVec.ofInt k.bits a &&& BitVec.ofInt k.bits b).toNat))
  | .or => some (.int k (k.wrap (BitVec.ofInt k.bits a ||| BitVec.ofInt k.bits b).toNat))
  | .xor => some (.int k (k.wrap (BitVec.ofInt k.bits a ^^^ BitVec.ofInt k.bits b).toNat))
  | .andNot => some (.int k (k.wrap (BitVec.ofInt k.bits a &&& ~~~ BitVec.ofInt k.bits b).toNat))
  | .eql => some (.bool (a == b))
  | .neq => some (.bool (a != b))
  | .lss => some (.bool (decide (a < b)))
  | .leq => some (.bool (decide (a ≤ b)))
  | .gtr => some (.bool (decide (a > b)))
  | .geq => some (.bool (decide (a ≥ b)))
  | _ => none

def strBin (op : BinOp) (a b : List UInt8) : Option AV :=
  match op with
  | .add => if ((a.length + b.length : Nat) : Int) > 9223372036854775807 then none else some (.str (a ++ b))
  | .eql => some (.bool (a == b))
  | .neq => some (.bool (!(a == b)))
  | .lss => some (.bool (Op.bytesLess a b))
  | .leq => some (.bool (Op.bytesLess a b || a == b))
  | .gtr => some (.bool (!(Op.bytesLess a b || a == b)))
  | .geq => some (.bool (!(Op.bytesLess a b)))
  | _ => none

/-- '==' of one cell: numbers, strings, bools. -/
def cellEq : AV → AV → Option Bool
  | .bool a, .bool b => some (a == b)
  | .int k a, .int k' b => if k = k' then some (a == b) else none
  | .str a, .str b => some (a == b)
  | _, _ => none

def ckEq : CK → AV → AV → Option Bool
  | .bool, .bool a, .bool b => some (a == b)
  | .int, .int k a, .int k' b => if k = k' then some (a == b) else none
  | .str, .str a, .str b => some (a == b)
  | _, _, _ => none

def cksEq : List CK → List AV → List AV → Option Bool
  | [], _, _ => some true
  | k :: ks, a :: as, b :: bs => match ckEq k a b, cksEq ks as bs with
    | some x, some y => some (x && y)
    | _, _ => none
  | _, _, _ => none

/-- '==' of what is no number and no string. -/
def valEq : EqK → AV → AV → Option Bool
  | .bool, .bool a, .bool b => some (a == b)
  | .ptr, .nilptr, .nilptr => some true
  | .ptr, .nilptr, .ptr _ _ => some false
  | .ptr, .ptr _ _, .nilptr => some false
  | .slice, .nilslice, .nilslice => some true
  | .slice, .nilslice, .slice _ _ _ => some false
  | .slice, .slice _ _ _, .nilslice => some false
  | .map, .nilmap, .nilmap => some true
  | .map, .nilmap, .map _ => some false
  | .map, .map _, .nilmap => some false
  | .fn, .nilfn, .nilfn => some true
  | .fn, .nilfn, .fn _ _ => some false
  | .fn, .fn _ _, .nilfn => some false
  | _, _, _ => none

def shiftOp (op : BinOp) (k : IntKind) (a b : Int) : Option AV :=
  if b < 0 then none else
  match op with
  | .shl => some (.int k (k.wrap (a * 2 ^ (min b.toNat k.bits))))
  | .shr => some (.int k (a.fdiv (2 ^ (min b.toNat k.bits))))
  | _ => none

def binAV (op : BinOp) (x y : AV) : Option AV :=
  match x, y with
  | .int k a, .int k' b =>
    match op with
    | .shl | .shr => shiftOp op k a b
    | _ => if k = k' then intBin op k a b else none
  | .str a, .str b => strBin op a b
  | _, _ => none

def unAV (op : UnOp) (x : AV) : Option AV :=
  match op, x with
  | .neg, .int k n => some (.int k (k.wrap (0 - n)))
  | .xor, .int k n => some (.int k (k.wrap (BitVec.ofInt k.bits (if k.signed then -1 else k.max) ^^^ BitVec.ofInt k.bits n).toNat))
  | .not, .bool b => some (.bool (!b))
  | _, _ => none

/-- A key of a map: a number, a string, a bool. -/
def keyOk : AV → Bool
  | .bool _ | .int _ _ | .str _ => true
  | _ => false

def findKey (k : AV) : List (AV × AV) → Option (Option AV)
  | [] => some none
  | (k', v) :: r => match cellEq k k' with
    | some true => some (some v)
    | some false => findKey k r
    | none => none

def setKey (k v : AV) : List (AV × AV) → Option (List (AV × AV))
  | [] => some [(k, v)]
  | (k', v') :: r => match cellEq k k' with
    | some true => some ((k, v) :: r)
    | some false => (setKey k v r).map ((k', v') :: ·)
    | none => none

def delKey (k : AV) : List (AV × AV) → Option (List (AV × AV))
  | [] => some []
  | (k', v') :: r => match cellEq k k' with
    | some true => some r
    | some false => (delKey k r).map ((k', v') :: ·)
    | none => none

/-- One bound of x[lo:hi]: d where there is none, else within 0 .. n. -/
def boundOf (d n : Nat) : Option AV → Option Nat
  | none => some d
  | some (.int _ i) => if 0 ≤ i ∧ i ≤ n then some i.toNat else none
  | some _ => none

/-- The bounds of x[lo:hi] where both lie within 0 .. n. -/
def bounds (n : Nat) (lo hi : Option AV) : Option (Nat × Nat) :=
  match boundOf n n hi with
  | none => none
  | some h => match boundOf 0 h lo with
    | none => none
    | some l => some (l, h)

/-- The row that is appended to, as far as it goes; and the heap without it. -/
def takeRow (h : Heap) (es : Nat) : AV → Option (List AV × Heap)
  | .nilslice => some ([], h)
  | .slice b o n => match h[b]? with
    | some (.arr c es' false) => if es' = es ∧ o + n * es ≤ c.length then some ((c.drop o).take (n * es), h.set b .dead) else none
    | _ => none
  | _ => none

def rowOf (h : Heap) (es : Nat) : AV → Option (List AV)
  | .nilslice => some []
  | .slice b o n => rdCells h b o (n * es)
  | _ => none

def lenOf : AV → Option Nat
  | .nilslice => some 0
  | .slice _ _ n => some n
  | _ => none

def appendAV (h : Heap) (es bytes : Nat) (s : AV) (n : Nat) (new : List AV) : Option (AV × Heap) :=
  match lenOf s, takeRow h es s with
  | some l, some (old, h1) =>
    if n = 0 then (match s with | .nilslice => some (.nilslice, h) | .slice b o k => some (.slice b o k, h) | _ => none)
    else if (l + n) * bytes ≤ 140737488355328 then some (.slice h1.length 0 (l + n), h1 ++ [.arr (old ++ new) es false]) else none
  | _, _ => none

/-! ### What an operation does that is no call -/
def evalOp (t : Tmps) (h : Heap) : MOp → Option (AV × Heap)
  | .mov x => some (x.eval t, h)
  | .pick c a b => match c.eval t with
    | .bool true => some (a.eval t, h)
    | .bool false => some (b.eval t, h)
    | _ => none
  | .alloc z es => some (.ptr h.length 0, h ++ [.arr z es false])
  | .box n x => match (x.eval t).cells with
    | some cs => if cs.length = n then some (.ptr h.length 0, h ++ [.arr cs n false]) else none
    | none => none
  | .build z ps => (fill z (ps.map fun p => (p.1, p.2.1, p.2.2.eval t))).map fun l => (.agg l, h)
  | .buildSlice n es z ps => (fill z (ps.map fun p => (p.1, p.2.1, p.2.2.eval t))).map fun l => (.slice h.length 0 n, h ++ [.arr l es false])
  | .load agg a => match a.eval t with
    | .ptr b o => (rdVar h agg b o).map fun v => (v, h)
    | _ => none
  | .store n a x => match a.eval t with
    | .ptr b o => match (x.eval t).cells with
      | some cs => if cs.length = n then (wrCells h b o cs).map fun h1 => (.undef, h1) else none
      | none => none
    | _ => none
  | .nilCheck x => match x.eval t with
    | .ptr b o => some (.ptr b o, h)
    | _ => none
  | .bin op x y => (binAV op (x.eval t) (y.eval t)).map fun v => (v, h)
  | .eqv k neg x y => (valEq k (x.eval t) (y.eval t)).map fun r => (.bool (r != neg), h)
  | .eqAgg ks neg x y => match x.eval t, y.eval t with
    | .agg a, .agg b => (cksEq ks a b).map fun r => (.bool (r != neg), h)
    | _, _ => none
  | .isNil neg x => match x.eval t with
    | .niliface => some (.bool (!neg), h)
    | .iface _ _ => some (.bool neg, h)
    | _ => none
  | .un op x => (unAV op (x.eval t)).map fun v => (v, h)
  | .convInt k x => match x.eval t with
    | .int _ n => some (.int k (k.wrap n), h)
    | _ => none
  | .convStr x => match x.eval t with
    | .str s => some (.str s, h)
    | _ => none
  | .mkIface ty x => some (.iface ty (x.eval t), h)
  | .mkFn f cap => some (.fn f (cap.map (·.eval t)), h)
  | .mkMap => some (.map h.length, h ++ [.map []])
  | .mkSlice z bytes len cap => match len.eval t, cap.eval t with
    | .int .i64 l, .int .i64 c =>
      if 0 ≤ l ∧ l = c ∧ l * bytes ≤ 140737488355328 then some (.slice h.length 0 l.toNat, h ++ [.arr (List.flatten (List.replicate l.toNat z)) z.length false]) else none
    | _, _ => none
  | .sliceStr x lo hi => match x.eval t with
    | .str s => (bounds s.length (lo.map (·.eval t)) (hi.map (·.eval t))).map fun p => (.str ((s.drop p.1).take (p.2 - p.1)), h)
    | _ => none
  | .sliceSlc es x lo hi => match x.eval t with
    | .slice b o n => match h[b]? with
      | some (.arr c es' ro) => if es' = es then (bounds n (lo.map (·.eval t)) (hi.map (·.eval t))).map fun p => (.slice b (o + p.1 * es) (p.2 - p.1), h) else none
      | _ => none
    | .nilslice => (bounds 0 (lo.map (·.eval t)) (hi.map (·.eval t))).map fun _ => (.nilslice, h)
    | _ => none
  | .fieldAddr off x => match x.eval t with
    | .ptr b o => some (.ptr b (o + off), h)
    | _ => none
  | .field off agg x => match x.eval t with
    | .agg l => (partOf agg l off).map fun v => (v, h)
    | _ => none
  | .indexAddr es x i => match x.eval t, i.eval t with
    | .slice b o n, .int _ j => if 0 ≤ j ∧ j < n then some (.ptr b (o + j.toNat * es), h) else none
    | _, _ => none
  | .indexArr es n x i => match x.eval t, i.eval t with
    | .ptr b o, .int _ j => if 0 ≤ j ∧ j < n then some (.ptr b (o + j.toNat * es), h) else none
    | _, _ => none
  | .indexStr x i => match x.eval t, i.eval t with
    | .str s, .int _ j => if 0 ≤ j then (s[j.toNat]?).map fun c => (.int .u8 c.toNat, h) else none
    | _, _ => none
  | .indexAgg es agg n x i => match x.eval t, i.eval t with
    | .agg l, .int _ j => if 0 ≤ j ∧ j < n then (partOf agg l (j.toNat * es)).map fun v => (v, h) else none
    | _, _ => none
  | .lookup z ok m k =>
    let es : Option (List (AV × AV)) := match m.eval t with
      | .nilmap => some []
      | .map r => match h[r]? with
        | some (.map es) => some es
        | _ => none
      | _ => none
    match es with
    | none => none
    | some es => if keyOk (k.eval t) then (match findKey (k.eval t) es with
      | some r => let v := r.getD z; some (if ok then .tuple [v, .bool r.isSome] else v, h)
      | none => none) else none
  | .mapUpdate m k v => match m.eval t with
    | .map r => match h[r]? with
      | some (.map es) => if keyOk (k.eval t) then (setKey (k.eval t) (v.eval t) es).map fun es1 => (.undef, h.set r (.map es1)) else none
      | _ => none
    | _ => none
  | .mapDelete m k => match m.eval t with
    | .map r => match h[r]? with
      | some (.map es) => if keyOk (k.eval t) then (delKey (k.eval t) es).map fun es1 => (.undef, h.set r (.map es1)) else none
      | _ => none
    | .nilmap => if keyOk (k.eval t) then some (.undef, h) else none
    | _ => none
  | .lenStr x => match x.eval t with
    | .str s => some (.int .i64 s.length, h)
    | _ => none
  | .lenSlc x => match x.eval t with
    | .slice _ _ n => some (.int .i64 n, h)
    | .nilslice => some (.int .i64 0, h)
    | _ => none
  | .lenMap x => match x.eval t with
    | .nilmap => some (.int .i64 0, h)
    | .map r => match h[r]? with
      | some (.map es) => some (.int .i64 es.length, h)
      | _ => none
    | _ => none
  | .lenConst n => some (.int .i64 n, h)
  | .append es bytes s x => match lenOf (x.eval t), rowOf h es (x.eval t) with
    | some n, some new => appendAV h es bytes (s.eval t) n new
    | _, _ => none
  | .appendStr s x => match x.eval t with
    | .str y => appendAV h 1 1 (s.eval t) y.length (y.map fun c => .int .u8 c.toNat)
    | _ => none
  | .copy es d s => match lenOf (d.eval t), lenOf (s.eval t), rowOf h es (s.eval t) with
    | some n, some m, some new => match d.eval t with
      | .slice b o _ => if n ≤ m ∨ m ≤ n then (wrCells h b o (new.take (Nat.min m n * es))).map fun h1 => (.int .i64 (Nat.min m n), h1) else none
      | .nilslice => some (.int .i64 0, h)
      | _ => none
    | _, _, _ => none
  | .mini x y => match x.eval t, y.eval t with
    | .int k a, .int _ b => some (.int k (if b < a then b else a), h)
    | _, _ => none
  | .maxi x y => match x.eval t, y.eval t with
    | .int k a, .int _ b => some (.int k (if b > a then b else a), h)
    | _, _ => none
  | .rangeStr x => match x.eval t with
    | .str s => some (.ptr h.length 0, h ++ [.iter s 0])
    | _ => none
  | .nextStr x => match x.eval t with
    | .ptr b 0 => match h[b]? with
      | some (.iter s pos) =>
        if pos < s.length then
          let d := Utf8.decode ⟨s.toArray⟩ pos
          some (.tuple [.bool true, .int .i64 pos, .int .i32 d.1], h.set b (.iter s (pos + d.2)))
        else some (.tuple [.bool false], h)
      | _ => none
    | _ => none
  | .extract i x => match x.eval t with
    | .tuple l => (l[i]?).map fun v => (v, h)
    | _ => none
  | .call _ _ => none

/-! ### Runs -/
def wantedM (t : Tmps) : Option (Nat × Bool) → Bool
  | none => true
  | some (g, want) => match t.getD g .undef with
    | .bool b => b == want
    | _ => false

def resOf (h : Heap) (t : Tmps) : MRes → Option AV
  | .tmp i => some (t.getD i .undef)
  | .cell agg i => match t.getD i .undef with
    | .ptr b o => rdVar h agg b o
    | _ => none

def resAll (h : Heap) (t : Tmps) : List MRes → Option (List AV)
  | [] => some []
  | r :: rs => match resOf h t r, resAll h t rs with
    | some v, some vs => some (v :: vs)
    | _, _ => none

def results (h : Heap) (t : Tmps) (rs : List MRes) : Option AV :=
  match resAll h t rs with
  | some [v] => some v
  | some vs => some (.tuple vs)
  | none => none

inductive Task where
  | code (c : MCode) (t : Tmps)
  | ops (l : List MOper) (t : Tmps)
  | op (o : MOp) (t : Tmps)
  | call (f : Nat) (args : List AV)

inductive Res where
  | code (x : MX) (t : Tmps) (h : Heap)
  | val (v : AV) (h : Heap)

structure Prog where
  fn : Nat → Option MFunc
  prim : Nat → List AV → Heap → AV → Heap → Prop

inductive Ev (M : Prog) : Task → Heap → Res → Prop
  | call {f : Nat} {args : List AV} {F : MFunc} {x : MX} {t : Tmps} {h h1 : Heap} {v : AV} :
      M.fn f = some F → args.length ≤ F.ntmps → Ev M (.code F.body (args ++ List.replicate (F.ntmps - args.length) .undef)) h (.code x t h1) → (x = .normal ∨ x = .ret) →
      results h1 t F.results = some v → Ev M (.call f args) h (.val v h1)
  | prim {f : Nat} {args : List AV} {h h1 : Heap} {v : AV} : M.prim f args h v h1 → Ev M (.call f args) h (.val v h1)
  | skip {t h} : Ev M (.code .skip t) h (.code .normal t h)
  | seq {a b t h t1 h1 r} : Ev M (.code a t) h (.code .normal t1 h1) → Ev M (.code b t1) h1 r → Ev M (.code (.seq a b) t) h r
  | seqX {a b t h x t1 h1} : Ev M (.code a t) h (.code x t1 h1) → x ≠ .normal → Ev M (.code (.seq a b) t) h (.code x t1 h1)
  | condT {c a b t h r} : c.eval t = .bool true → Ev M (.code a t) h r → Ev M (.code (.cond c a b) t) h r
  | condF {c a b t h r} : c.eval t = .bool false → Ev M (.code b t) h r → Ev M (.code (.cond c a b) t) h r
  | block {id c t h x t1 h1} : Ev M (.code c t) h (.code x t1 h1) → Ev M (.code (.block id c) t) h (.code (if x = .exit id then .normal else x) t1 h1)
  | loop {c t h t1 h1 r} : Ev M (.code c t) h (.code .normal t1 h1) → Ev M (.code (.loop c) t1) h1 r → Ev M (.code (.loop c) t) h r
  | loopX {c t h x t1 h1} : Ev M (.code c t) h (.code x t1 h1) → x ≠ .normal → Ev M (.code (.loop c) t) h (.code x t1 h1)
  | exit {id t h} : Ev M (.code (.exit id) t) h (.code (.exit id) t h)
  | ret {t h} : Ev M (.code .ret t) h (.code .ret t h)
  | region {l t h t1 h1} : Ev M (.ops l t) h (.code .normal t1 h1) → Ev M (.code (.region l) t) h (.code .normal t1 h1)
  | nil {t h} : Ev M (.ops [] t) h (.code .normal t h)
  | cons {o l t h v h1 r} : wantedM t o.guard = true → Ev M (.op o.op t) h (.val v h1) → Ev M (.ops l (put t o.dst v)) h1 r → Ev M (.ops (o :: l) t) h r
  | off {o l t h r} : wantedM t o.guard = false → Ev M (.ops l (put t o.dst .undef)) h r → Ev M (.ops (o :: l) t) h r
  | op {o t h v h1} : evalOp t h o = some (v, h1) → Ev M (.op o t) h (.val v h1)
  | callOp {f args t h g cap v h1} : MO.eval t f = .fn g cap → Ev M (.call g (args.map (·.eval t) ++ cap)) h (.val v h1) → Ev M (.op (.call f args) t) h (.val v h1)
end Go.Abs
