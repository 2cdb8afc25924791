import GoSem.Core.Code
import GoSem.Core.View
import GoSem.Core.Utf8
import GoSem.Op.String
import Derived.Calls
import Derived.Below
import Derived.Laws.World
import Derived.Laws.Sem
import Derived.Laws.Cells
import Derived.Laws.Entries
import Derived.Laws.Strings
import Derived.Laws.StructEq
import Derived.Laws.AppendOwn
import Derived.Laws.OwnMore
import Derived.ArgAppend
import Derived.Laws.CopyRow
import Derived.Laws.Build
import Derived.Laws.MakeOwn
import Derived.Laws.IdiomStrings
import Derived.MapKept
set_option linter.unusedVariables false
namespace Go.Abs

inductive AV where
  | undef
  | bool (b : Bool)
  | int (k : IntKind) (n : Int)
  | str (s : List UInt8)
  | ptr (b o : Nat)
  | nilptr
  | slice (b o n : Nat)
  | nilslice
  | map (r : Nat)
  | nilmap
  | fn (f : Nat) (cap : List AV)
  | nilfn
  | iface (t : Nat) (v : AV)
  | niliface
  | agg (l : List AV)
  | tuple (l : List AV)
  deriving Inhabited

inductive AObj where
  | arr (c : List AV) (es : Nat) (ro : Bool)
  | map (es : List (AV × AV))
  | iter (s : List UInt8) (pos : Nat)
  | dead
  | bld (k : Nat) (x : AV) (s : List UInt8)
  deriving Inhabited

abbrev Heap := List AObj

inductive MO where
  | tmp (t : Nat)
  | const (v : AV)

abbrev Tmps := List AV

def MO.eval (t : Tmps) : MO → AV
  | .tmp i => t.getD i .undef
  | .const v => v

def AV.cells : AV → Option (List AV)
  | .agg l => some l
  | .undef => none
  | .tuple _ => none
  | v => some [v]

inductive EqK where
  | bool | ptr | slice | map | fn
  deriving DecidableEq

inductive CK where
  | bool | int | str
  deriving DecidableEq

inductive MOp where
  | mov (x : MO)
  | pick (c a b : MO)
  | alloc (z : List AV) (es : Nat)
  | box (n : Nat) (x : MO)
  | build (z : List AV) (parts : List (Nat × Nat × MO))
  | buildSlice (n es : Nat) (z : List AV) (parts : List (Nat × Nat × MO))
  | load (agg : Option Nat) (a : MO)
  | store (n : Nat) (a x : MO)
  | nilCheck (x : MO)
  | bin (op : BinOp) (x y : MO)
  | eqv (k : EqK) (neg : Bool) (x y : MO)
  | eqAgg (ks : List CK) (neg : Bool) (x y : MO)
  | isNil (neg : Bool) (x : MO)
  | un (op : UnOp) (x : MO)
  | convInt (k : IntKind) (x : MO)
  | convStr (x : MO)
  | mkIface (t : Nat) (x : MO)
  | mkFn (f : Nat) (cap : List MO)
  | mkMap
  | mkSlice (z : List AV) (bytes : Nat) (len cap : MO)
  | sliceStr (x : MO) (lo hi : Option MO)
  | sliceSlc (es : Nat) (x : MO) (lo hi : Option MO)
  | fieldAddr (off : Nat) (x : MO)
  | field (off : Nat) (agg : Option Nat) (x : MO)
  | indexAddr (es : Nat) (x i : MO)
  | indexArr (es n : Nat) (x i : MO)
  | indexStr (x i : MO)
  | indexAgg (es : Nat) (agg : Option Nat) (n : Nat) (x i : MO)
  | lookup (z : AV) (ok : Bool) (m k : MO)
  | mapUpdate (m k v : MO)
  | mapDelete (m k : MO)
  | lenStr (x : MO)
  | lenSlc (x : MO)
  | lenMap (x : MO)
  | lenConst (n : Nat)
  | append (es bytes : Nat) (s x : MO)
  | appendStr (s x : MO)
  | copy (es : Nat) (d s : MO)
  | mini (x y : MO)
  | maxi (x y : MO)
  | rangeStr (x : MO)
  | runes (x : MO)
  | nextStr (x : MO)
  | extract (i : Nat) (x : MO)
  | call (f : MO) (args : List MO)

structure MOper where
  dst : Option Nat
  op : MOp
  guard : Option (Nat × Bool)

inductive MCode where
  | skip
  | region (ops : List MOper)
  | draw (ops : List MOper) (edges : List (List Nat))
  | seq (a b : MCode)
  | cond (c : MO) (a b : MCode)
  | block (id : Nat) (c : MCode)
  | loop (c : MCode)
  | exit (id : Nat)
  | ret

inductive MX where
  | normal
  | exit (id : Nat)
  | ret
  deriving DecidableEq

inductive MRes where
  | tmp (t : Nat)
  | cell (agg : Option Nat) (t : Nat)

structure MFunc where
  ntmps : Nat
  body : MCode
  results : List MRes

def put (t : Tmps) (d : Option Nat) (v : AV) : Tmps :=
  match d with
  | some d => t.set d v
  | none => t

def rdCells (h : Heap) (b o n : Nat) : Option (List AV) :=
  match h[b]? with
  | some (.arr c _ _) => if o + n ≤ c.length then some ((c.drop o).take n) else none
  | _ => none

def setCells {α : Type} : List α → Nat → List α → List α
  | c, _, [] => c
  | c, o, v :: vs => setCells (c.set o v) (o + 1) vs

def wrCells (h : Heap) (b o : Nat) (vs : List AV) : Option Heap :=
  match h[b]? with
  | some (.arr c es false) => if o + vs.length ≤ c.length then some (h.set b (.arr (setCells c o vs) es false)) else none
  | _ => none

def rdVar (h : Heap) (agg : Option Nat) (b o : Nat) : Option AV :=
  match agg with
  | none => (rdCells h b o 1).bind fun l => l.head?
  | some n => (rdCells h b o n).map .agg

def partOf (agg : Option Nat) (l : List AV) (off : Nat) : Option AV :=
  match agg with
  | none => l[off]?
  | some n => if off + n ≤ l.length then some (.agg ((l.drop off).take n)) else none

def fill (z : List AV) : List (Nat × Nat × AV) → Option (List AV)
  | [] => some z
  | (off, sz, v) :: r => match v.cells with
    | some cs => if cs.length = sz ∧ off + sz ≤ z.length then fill (setCells z off cs) r else none
    | none => none

def intBin (op : BinOp) (k : IntKind) (a b : Int) : Option AV :=
  match op with
  | .add => some (.int k (k.wrap (a + b)))
  | .sub => some (.int k (k.wrap (a - b)))
  | .mul => some (.int k (k.wrap (a * b)))
  | .quo => if b = 0 then none else some (.int k (k.wrap (a.tdiv b)))
  | .rem => if b = 0 then none else some (.int k (a.tmod b))
  | .and => some (.int k (k.wrap (BitVec.ofInt k.bits a &&& BitVec.ofInt k.bits b).toNat))
  | .or => some (.int k (k.wrap (BitVec.ofInt k.bits a ||| BitVec.ofInt k.bits b).toNat))
  | .xor => some (.int k (k.wrap (BitVec.ofInt k.bits a ^^^ BitVec.ofInt k.bits b).toNat))
  | .andNot => some (.int k (k.wrap (BitVec.ofInt k.bits a &&& ~~~ BitVec.ofInt k.bits b).toNat))
  | .eql => some (.bool (a == b))
  | .neq => some (.bool (a != b))
  | .lss => some (.bool (decide (a < b)))
  | .leq => some (.bool (decide (a ≤ b)))
  | .gtr => some (.bool (decide (a > b)))
  | .geq => some (.bool (decide (a ≥ b)))
  | _ => none

def strBin (op : BinOp) (a b : List UInt8) : Option AV :=
  match op with
  | .add => if ((a.length + b.length : Nat) : Int) > 9223372036854775807 then none else some (.str (a ++ b))
  | .eql => some (.bool (a == b))
  | .neq => some (.bool (!(a == b)))
  | .lss => some (.bool (Op.bytesLess a b))
  | .leq => some (.bool (Op.bytesLess a b || a == b))
  | .gtr => some (.bool (!(Op.bytesLess a b || a == b)))
  | .geq => some (.bool (!(Op.bytesLess a b)))
  | _ => none

def cellEq : AV → AV → Option Bool
  | .bool a, .bool b => some (a == b)
  | .int k a, .int k' b => if k = k' then some (a == b) else none
  | .str a, .str b => some (a == b)
  | _, _ => none

def ckEq : CK → AV → AV → Option Bool
  | .bool, .bool a, .bool b => some (a == b)
  | .int, .int k a, .int k' b => if k = k' then some (a == b) else none
  | .str, .str a, .str b => some (a == b)
  | _, _, _ => none

def cksEq : List CK → List AV → List AV → Option Bool
  | [], _, _ => some true
  | k :: ks, a :: as, b :: bs => match ckEq k a b, cksEq ks as bs with
    | some x, some y => some (x && y)
    | _, _ => none
  | _, _, _ => none

def valEq : EqK → AV → AV → Option Bool
  | .bool, .bool a, .bool b => some (a == b)
  | .ptr, .nilptr, .nilptr => some true
  | .ptr, .nilptr, .ptr _ _ => some false
  | .ptr, .ptr _ _, .nilptr => some false
  | .slice, .nilslice, .nilslice => some true
  | .slice, .nilslice, .slice _ _ _ => some false
  | .slice, .slice _ _ _, .nilslice => some false
  | .map, .nilmap, .nilmap => some true
  | .map, .nilmap, .map _ => some false
  | .map, .map _, .nilmap => some false
  | .fn, .nilfn, .nilfn => some true
  | .fn, .nilfn, .fn _ _ => some false
  | .fn, .fn _ _, .nilfn => some false
  | _, _, _ => none

def shiftOp (op : BinOp) (k : IntKind) (a b : Int) : Option AV :=
  if b < 0 then none else
  match op with
  | .shl => some (.int k (k.wrap (a * 2 ^ (min b.toNat k.bits))))
  | .shr => some (.int k (a.fdiv (2 ^ (min b.toNat k.bits))))
  | _ => none

def binAV (op : BinOp) (x y : AV) : Option AV :=
  match x, y with
  | .int k a, .int k' b =>
    match op with
    | .shl | .shr => shiftOp op k a b
    | _ => if k = k' then intBin op k a b else none
  | .str a, .str b => strBin op a b
  | _, _ => none

def unAV (op : UnOp) (x : AV) : Option AV :=
  match op, x with
  | .neg, .int k n => some (.int k (k.wrap (0 - n)))
  | .xor, .int k n => some (.int k (k.wrap (BitVec.ofInt k.bits (if k.signed then -1 else k.max) ^^^ BitVec.ofInt k.bits n).toNat))
  | .not, .bool b => some (.bool (!b))
  | _, _ => none

def keyOk : AV → Bool
  | .str _ => true
  | _ => false

def findKey (k : AV) : List (AV × AV) → Option (Option AV)
  | [] => some none
  | (k', v) :: r => match cellEq k k' with
    | some true => some (some v)
    | some false => findKey k r
    | none => none

def setKey (k v : AV) : List (AV × AV) → Option (List (AV × AV))
  | [] => some [(k, v)]
  | (k', v') :: r => match cellEq k k' with
    | some true => some ((k, v) :: r)
    | some false => (setKey k v r).map ((k', v') :: ·)
    | none => none

def delKey (k : AV) : List (AV × AV) → Option (List (AV × AV))
  | [] => some []
  | (k', v') :: r => match cellEq k k' with
    | some true => some r
    | some false => (delKey k r).map ((k', v') :: ·)
    | none => none

def boundOf (d n : Nat) : Option AV → Option Nat
  | none => some d
  | some (.int _ i) => if 0 ≤ i ∧ i ≤ n then some i.toNat else none
  | some _ => none

def bounds (n : Nat) (lo hi : Option AV) : Option (Nat × Nat) :=
  match boundOf n n hi with
  | none => none
  | some h => match boundOf 0 h lo with
    | none => none
    | some l => some (l, h)

def takeRow (h : Heap) (es : Nat) : AV → Option (List AV × Heap)
  | .nilslice => some ([], h)
  | .slice b o n => match h[b]? with
    | some (.arr c es' false) => if es' = es ∧ o + n * es ≤ c.length then some ((c.drop o).take (n * es), h.set b .dead) else none
    | _ => none
  | _ => none

def rowOf (h : Heap) (es : Nat) : AV → Option (List AV)
  | .nilslice => some []
  | .slice b o n => rdCells h b o (n * es)
  | _ => none

def lenOf : AV → Option Nat
  | .nilslice => some 0
  | .slice _ _ n => some n
  | _ => none

def appendAV (h : Heap) (es bytes : Nat) (s : AV) (n : Nat) (new : List AV) : Option (AV × Heap) :=
  match lenOf s, takeRow h es s with
  | some l, some (old, h1) =>
    if n = 0 then (match s with | .nilslice => some (.nilslice, h) | .slice b o k => some (.slice b o k, h) | _ => none)
    else if (l + n) * bytes ≤ 140737488355328 then some (.slice h1.length 0 (l + n), h1 ++ [.arr (old ++ new) es false]) else none
  | _, _ => none

def evalOp (t : Tmps) (h : Heap) : MOp → Option (AV × Heap)
  | .mov x => some (x.eval t, h)
  | .pick c a b => match c.eval t with
    | .bool true => some (a.eval t, h)
    | .bool false => some (b.eval t, h)
    | _ => none
  | .alloc z es => some (.ptr h.length 0, h ++ [.arr z es false])
  | .box n x => match (x.eval t).cells with
    | some cs => if cs.length = n then some (.ptr h.length 0, h ++ [.arr cs n false]) else none
    | none => none
  | .build z ps => (fill z (ps.map fun p => (p.1, p.2.1, p.2.2.eval t))).map fun l => (.agg l, h)
  | .buildSlice n es z ps => (fill z (ps.map fun p => (p.1, p.2.1, p.2.2.eval t))).map fun l => (.slice h.length 0 n, h ++ [.arr l es false])
  | .load agg a => match a.eval t with
    | .ptr b o => (rdVar h agg b o).map fun v => (v, h)
    | _ => none
  | .store n a x => match a.eval t with
    | .ptr b o => match (x.eval t).cells with
      | some cs => if cs.length = n then (wrCells h b o cs).map fun h1 => (.undef, h1) else none
      | none => none
    | _ => none
  | .nilCheck x => match x.eval t with
    | .ptr b o => some (.ptr b o, h)
    | _ => none
  | .bin op x y => (binAV op (x.eval t) (y.eval t)).map fun v => (v, h)
  | .eqv k neg x y => (valEq k (x.eval t) (y.eval t)).map fun r => (.bool (r != neg), h)
  | .eqAgg ks neg x y => match x.eval t, y.eval t with
    | .agg a, .agg b => (cksEq ks a b).map fun r => (.bool (r != neg), h)
    | _, _ => none
  | .isNil neg x => match x.eval t with
    | .niliface => some (.bool (!neg), h)
    | .iface _ _ => some (.bool neg, h)
    | _ => none
  | .un op x => (unAV op (x.eval t)).map fun v => (v, h)
  | .convInt k x => match x.eval t with
    | .int _ n => some (.int k (k.wrap n), h)
    | _ => none
  | .convStr x => match x.eval t with
    | .str s => some (.str s, h)
    | _ => none
  | .mkIface ty x => some (.iface ty (x.eval t), h)
  | .mkFn f cap => some (.fn f (cap.map (·.eval t)), h)
  | .mkMap => some (.map h.length, h ++ [.map []])
  | .mkSlice z bytes len cap => match len.eval t, cap.eval t with
    | .int .i64 l, .int .i64 c =>
      if 0 ≤ l ∧ l ≤ c ∧ c * bytes ≤ 140737488355328 then some (.slice h.length 0 l.toNat, h ++ [.arr (List.flatten (List.replicate l.toNat z)) z.length false]) else none
    | _, _ => none
  | .sliceStr x lo hi => match x.eval t with
    | .str s => (bounds s.length (lo.map (·.eval t)) (hi.map (·.eval t))).map fun p => (.str ((s.drop p.1).take (p.2 - p.1)), h)
    | _ => none
  | .sliceSlc es x lo hi => match x.eval t with
    | .slice b o n => match h[b]? with
      | some (.arr c es' ro) => if es' = es then (bounds n (lo.map (·.eval t)) (hi.map (·.eval t))).map fun p => (.slice b (o + p.1 * es) (p.2 - p.1), h) else none
      | _ => none
    | .nilslice => (bounds 0 (lo.map (·.eval t)) (hi.map (·.eval t))).map fun _ => (.nilslice, h)
    | _ => none
  | .fieldAddr off x => match x.eval t with
    | .ptr b o => some (.ptr b (o + off), h)
    | _ => none
  | .field off agg x => match x.eval t with
    | .agg l => (partOf agg l off).map fun v => (v, h)
    | _ => none
  | .indexAddr es x i => match x.eval t, i.eval t with
    | .slice b o n, .int _ j => if 0 ≤ j ∧ j < n then some (.ptr b (o + j.toNat * es), h) else none
    | _, _ => none
  | .indexArr es n x i => match x.eval t, i.eval t with
    | .ptr b o, .int _ j => if 0 ≤ j ∧ j < n then some (.ptr b (o + j.toNat * es), h) else none
    | _, _ => none
  | .indexStr x i => match x.eval t, i.eval t with
    | .str s, .int _ j => if 0 ≤ j then (s[j.toNat]?).map fun c => (.int .u8 c.toNat, h) else none
    | _, _ => none
  | .indexAgg es agg n x i => match x.eval t, i.eval t with
    | .agg l, .int _ j => if 0 ≤ j ∧ j < n then (partOf agg l (j.toNat * es)).map fun v => (v, h) else none
    | _, _ => none
  | .lookup z ok m k =>
    let es : Option (List (AV × AV)) := match m.eval t with
      | .nilmap => some []
      | .map r => match h[r]? with
        | some (.map es) => some es
        | _ => none
      | _ => none
    match es with
    | none => none
    | some es => if keyOk (k.eval t) then (match findKey (k.eval t) es with
      | some r => let v := r.getD z; some (if ok then .tuple [v, .bool r.isSome] else v, h)
      | none => none) else none
  | .mapUpdate m k v => match m.eval t with
    | .map r => match h[r]? with
      | some (.map es) => if keyOk (k.eval t) then (setKey (k.eval t) (v.eval t) es).map fun es1 => (.undef, h.set r (.map es1)) else none
      | _ => none
    | _ => none
  | .mapDelete m k => match m.eval t with
    | .map r => match h[r]? with
      | some (.map es) => if keyOk (k.eval t) then (delKey (k.eval t) es).map fun es1 => (.undef, h.set r (.map es1)) else none
      | _ => none
    | .nilmap => if keyOk (k.eval t) then some (.undef, h) else none
    | _ => none
  | .lenStr x => match x.eval t with
    | .str s => some (.int .i64 s.length, h)
    | _ => none
  | .lenSlc x => match x.eval t with
    | .slice _ _ n => some (.int .i64 n, h)
    | .nilslice => some (.int .i64 0, h)
    | _ => none
  | .lenMap x => match x.eval t with
    | .nilmap => some (.int .i64 0, h)
    | .map r => match h[r]? with
      | some (.map es) => some (.int .i64 es.length, h)
      | _ => none
    | _ => none
  | .lenConst n => some (.int .i64 n, h)
  | .append es bytes s x => match lenOf (x.eval t), rowOf h es (x.eval t) with
    | some n, some new => appendAV h es bytes (s.eval t) n new
    | _, _ => none
  | .appendStr s x => match x.eval t with
    | .str y => appendAV h 1 1 (s.eval t) y.length (y.map fun c => .int .u8 c.toNat)
    | _ => none
  | .copy k d s => match d.eval t with
    | .undef => cond (Nat.beq k 0) none (some (.ptr h.length 0, h ++ [.bld k .nilslice []]))
    | .slice b _ _ => match s.eval t with
      | .ptr e _ => if b = e then none else some (.undef, h)
      | _ => none
    | _ => none
  | .mini x y => match x.eval t, y.eval t with
    | .int k a, .int _ b => some (.int k (if b < a then b else a), h)
    | _, _ => none
  | .maxi x y => match x.eval t, y.eval t with
    | .int k a, .int _ b => some (.int k (if b > a then b else a), h)
    | _, _ => none
  | .runes x => match x.eval t with
    | .str s => if s.all (fun c => Nat.blt c.toNat 128) = true ∧ s.length ≤ 70368744177664 then some (.slice h.length 0 s.length, h ++ [.arr (s.map fun c => .int .i32 c.toNat) 1 false]) else none
    | _ => none
  | .rangeStr x => match x.eval t with
    | .str s => some (.ptr h.length 0, h ++ [.iter s 0])
    | _ => none
  | .nextStr x => match x.eval t with
    | .ptr b 0 => match h[b]? with
      | some (.iter s pos) =>
        if pos < s.length then
          let d := Utf8.decode ⟨s.toArray⟩ pos
          some (.tuple [.bool true, .int .i64 pos, .int .i32 d.1], h.set b (.iter s (pos + d.2)))
        else some (.tuple [.bool false], h)
      | _ => none
    | _ => none
  | .extract i x => match x.eval t with
    | .tuple l => (l[i]?).map fun v => (v, h)
    | _ => none
  | .call _ _ => none

def wantedM (t : Tmps) : Option (Nat × Bool) → Bool
  | none => true
  | some (g, want) => match t.getD g .undef with
    | .bool b => b == want
    | _ => false

def resOf (h : Heap) (t : Tmps) : MRes → Option AV
  | .tmp i => some (t.getD i .undef)
  | .cell agg i => match t.getD i .undef with
    | .ptr b o => rdVar h agg b o
    | _ => none

def resAll (h : Heap) (t : Tmps) : List MRes → Option (List AV)
  | [] => some []
  | r :: rs => match resOf h t r, resAll h t rs with
    | some v, some vs => some (v :: vs)
    | _, _ => none

def results (h : Heap) (t : Tmps) (rs : List MRes) : Option AV :=
  match resAll h t rs with
  | some [v] => some v
  | some vs => some (.tuple vs)
  | none => none

inductive Task where
  | code (c : MCode) (t : Tmps)
  | ops (l : List MOper) (t : Tmps)
  | op (o : MOp) (t : Tmps)
  | call (f : Nat) (args : List AV)

inductive Res where
  | code (x : MX) (t : Tmps) (h : Heap)
  | val (v : AV) (h : Heap)

structure Prog where
  fn : Nat → Option MFunc
  prim : Nat → List AV → Heap → AV → Heap → Prop

inductive Ev (M : Prog) : Task → Heap → Res → Prop
  | call {f : Nat} {args : List AV} {F : MFunc} {x : MX} {t : Tmps} {h h1 : Heap} {v : AV} :
      M.fn f = some F → args.length ≤ F.ntmps → Ev M (.code F.body (args ++ List.replicate (F.ntmps - args.length) .undef)) h (.code x t h1) → (x = .normal ∨ x = .ret) →
      results h1 t F.results = some v → Ev M (.call f args) h (.val v h1)
  | prim {f : Nat} {args : List AV} {h h1 : Heap} {v : AV} : M.prim f args h v h1 → Ev M (.call f args) h (.val v h1)
  | skip {t h} : Ev M (.code .skip t) h (.code .normal t h)
  | seq {a b t h t1 h1 r} : Ev M (.code a t) h (.code .normal t1 h1) → Ev M (.code b t1) h1 r → Ev M (.code (.seq a b) t) h r
  | seqX {a b t h x t1 h1} : Ev M (.code a t) h (.code x t1 h1) → x ≠ .normal → Ev M (.code (.seq a b) t) h (.code x t1 h1)
  | condT {c a b t h r} : c.eval t = .bool true → Ev M (.code a t) h r → Ev M (.code (.cond c a b) t) h r
  | condF {c a b t h r} : c.eval t = .bool false → Ev M (.code b t) h r → Ev M (.code (.cond c a b) t) h r
  | block {id c t h x t1 h1} : Ev M (.code c t) h (.code x t1 h1) → Ev M (.code (.block id c) t) h (.code (if x = .exit id then .normal else x) t1 h1)
  | loop {c t h t1 h1 r} : Ev M (.code c t) h (.code .normal t1 h1) → Ev M (.code (.loop c) t1) h1 r → Ev M (.code (.loop c) t) h r
  | loopX {c t h x t1 h1} : Ev M (.code c t) h (.code x t1 h1) → x ≠ .normal → Ev M (.code (.loop c) t) h (.code x t1 h1)
  | exit {id t h} : Ev M (.code (.exit id) t) h (.code (.exit id) t h)
  | ret {t h} : Ev M (.code .ret t) h (.code .ret t h)
  | region {l t h t1 h1} : Ev M (.ops l t) h (.code .normal t1 h1) → Ev M (.code (.region l) t) h (.code .normal t1 h1)
  | nil {t h} : Ev M (.ops [] t) h (.code .normal t h)
  | cons {o l t h v h1 r} : wantedM t o.guard = true → Ev M (.op o.op t) h (.val v h1) → Ev M (.ops l (put t o.dst v)) h1 r → Ev M (.ops (o :: l) t) h r
  | off {o l t h r} : wantedM t o.guard = false → Ev M (.ops l (put t o.dst .undef)) h r → Ev M (.ops (o :: l) t) h r
  | op {o t h v h1} : evalOp t h o = some (v, h1) → Ev M (.op o t) h (.val v h1)
  | callOp {f args t h g cap v h1} : MO.eval t f = .fn g cap → Ev M (.call g (args.map (·.eval t) ++ cap)) h (.val v h1) → Ev M (.op (.call f args) t) h (.val v h1)
end Go.Abs

set_option linter.unusedVariables false
namespace Go.Abs
open Go.RowKit

structure Ent where
  g : Nat
  off : Nat
  sz : Nat
  es : Nat

abbrev Emb := Nat → Option Ent

def Emb.le (m m' : Emb) : Prop := ∀ b e, m b = some e → m' b = some e
theorem Emb.le.refl (m : Emb) : m.le m := fun _ _ h => h
theorem Emb.le.trans {a b c : Emb} (h : a.le b) (k : b.le c) : a.le c := fun x e hx => k x e (h x e hx)
def Emb.upd (m : Emb) (b : Nat) (e : Ent) : Emb := fun x => if x = b then some e else m x
theorem Emb.upd_same (m : Emb) (b : Nat) (e : Ent) : (m.upd b e) b = some e := by simp [Emb.upd]
theorem Emb.upd_ne (m : Emb) {b x : Nat} (e : Ent) (h : x ≠ b) : (m.upd b e) x = m x := by simp [Emb.upd, h]
theorem Emb.le_upd {m : Emb} {b : Nat} {e : Ent} (h : m b = none) : m.le (m.upd b e) := fun x f hx => by
  by_cases hxb : x = b
  · subst hxb; rw [h] at hx; cases hx
  · rw [Emb.upd_ne _ _ hxb]; exact hx

def isCell : Value → Bool
  | .agg _ => false
  | .tuple _ => false
  | _ => true

mutual
def VR (m : Emb) : AV → Value → Prop
  | .undef, v => v = .tuple #[]
  | .bool b, v => v = .bool b
  | .int k n, v => v = .int k n
  | .str s, v => v = .string ⟨s.toArray⟩
  | .ptr b o, v => ∃ e, m b = some e ∧ v = .pointer (some ⟨e.g, e.off + o, none⟩)
  | .nilptr, v => v = .pointer none
  | .slice b o n, v => ∃ e, m b = some e ∧ ((∃ c, v = .slice (some ⟨e.g, e.off + o, none⟩) n c ∧ n ≤ c ∧ e.off + o + c * e.es ≤ e.sz) ∨ (n = 0 ∧ ∃ a, v = .slice (some a) 0 0))
  | .nilslice, v => v = .slice none 0 0
  | .map r, v => ∃ e, m r = some e ∧ v = .map (some e.g)
  | .nilmap, v => v = .map none
  | .fn f cap, v => ∃ cs, v = .func (.func f) #[] cs ∧ VRs m cap cs.toList
  | .nilfn, v => v = .nilFunc
  | .iface t x, v => ∃ y, v = .iface t y ∧ VR m x y
  | .niliface, v => v = .nilIface
  | .agg l, v => ∃ cs, v = .agg cs ∧ VRs m l cs.toList ∧ ∀ c ∈ cs.toList, isCell c = true
  | .tuple l, v => ∃ cs, v = .tuple cs ∧ VRs m l cs.toList
def VRs (m : Emb) : List AV → List Value → Prop
  | [], l => l = []
  | a :: as, l => ∃ c cs, l = c :: cs ∧ VR m a c ∧ VRs m as cs
end
mutual
theorem VR.mono {m m' : Emb} (h : m.le m') : ∀ (a : AV) (v : Value), VR m a v → VR m' a v
  | .undef, v, hv => hv
  | .bool b, v, hv => hv
  | .int k n, v, hv => hv
  | .str s, v, hv => hv
  | .ptr b o, v, hv => by
    simp only [VR] at hv ⊢
    obtain ⟨e, he, hv⟩ := hv
    exact ⟨e, h _ _ he, hv⟩
  | .nilptr, v, hv => hv
  | .slice b o n, v, hv => by
    simp only [VR] at hv ⊢
    obtain ⟨e, he, hv⟩ := hv
    exact ⟨e, h _ _ he, hv⟩
  | .nilslice, v, hv => hv
  | .map r, v, hv => by
    simp only [VR] at hv ⊢
    obtain ⟨e, he, hv⟩ := hv
    exact ⟨e, h _ _ he, hv⟩
  | .nilmap, v, hv => hv
  | .fn f cap, v, hv => by
    simp only [VR] at hv ⊢
    obtain ⟨cs, hv, hc⟩ := hv
    exact ⟨cs, hv, VRs.mono h _ _ hc⟩
  | .nilfn, v, hv => hv
  | .iface t x, v, hv => by
    simp only [VR] at hv ⊢
    obtain ⟨y, hv, hy⟩ := hv
    exact ⟨y, hv, VR.mono h _ _ hy⟩
  | .niliface, v, hv => hv
  | .agg l, v, hv => by
    simp only [VR] at hv ⊢
    obtain ⟨cs, hv, hc, hk⟩ := hv
    exact ⟨cs, hv, VRs.mono h _ _ hc, hk⟩
  | .tuple l, v, hv => by
    simp only [VR] at hv ⊢
    obtain ⟨cs, hv, hc⟩ := hv
    exact ⟨cs, hv, VRs.mono h _ _ hc⟩
theorem VRs.mono {m m' : Emb} (h : m.le m') : ∀ (as : List AV) (vs : List Value), VRs m as vs → VRs m' as vs
  | [], vs, hv => hv
  | a :: as, vs, hv => by
    simp only [VRs] at hv ⊢
    obtain ⟨c, cs, hl, hc, hcs⟩ := hv
    exact ⟨c, cs, hl, VR.mono h _ _ hc, VRs.mono h _ _ hcs⟩
end
theorem VRs.length {m : Emb} : ∀ {as : List AV} {vs : List Value}, VRs m as vs → vs.length = as.length
  | [], vs, h => by simp only [VRs] at h; subst h; rfl
  | a :: as, vs, h => by
    simp only [VRs] at h
    obtain ⟨c, cs, rfl, _, h⟩ := h
    simp [VRs.length h]
theorem VRs.get {m : Emb} : ∀ {as : List AV} {vs : List Value}, VRs m as vs → ∀ (i : Nat) (a : AV), as[i]? = some a → ∃ v, vs[i]? = some v ∧ VR m a v
  | [], vs, h, i, a, ha => by simp at ha
  | x :: as, vs, h, i, a, ha => by
    simp only [VRs] at h
    obtain ⟨c, cs, rfl, hc, h⟩ := h
    cases i with
    | zero => simp at ha; subst ha; exact ⟨c, by simp, hc⟩
    | succ i => simpa using VRs.get h i a (by simpa using ha)
theorem VRs.of_get {m : Emb} : ∀ {as : List AV} {vs : List Value}, vs.length = as.length → (∀ (i : Nat) (a : AV), as[i]? = some a → ∃ v, vs[i]? = some v ∧ VR m a v) → VRs m as vs
  | [], vs, hl, h => by simp only [VRs]; exact List.eq_nil_of_length_eq_zero (by simpa using hl)
  | x :: as, vs, hl, h => by
    cases vs with
    | nil => simp at hl
    | cons c cs =>
      simp only [VRs]
      obtain ⟨v, hv, hx⟩ := h 0 x (by simp)
      simp at hv; subst hv
      exact ⟨c, cs, rfl, hx, VRs.of_get (by simpa using hl) fun i a ha => by simpa using h (i + 1) a (by simpa using ha)⟩
theorem VRs.append {m : Emb} : ∀ {as bs : List AV} {vs ws : List Value}, VRs m as vs → VRs m bs ws → VRs m (as ++ bs) (vs ++ ws)
  | [], bs, vs, ws, h, k => by simp only [VRs] at h; subst h; exact k
  | a :: as, bs, vs, ws, h, k => by
    simp only [VRs] at h
    obtain ⟨c, cs, rfl, hc, h⟩ := h
    simp only [List.cons_append, VRs]
    exact ⟨c, cs ++ ws, rfl, hc, VRs.append h k⟩
theorem VRs.take {m : Emb} {as : List AV} {vs : List Value} (h : VRs m as vs) (n : Nat) : VRs m (as.take n) (vs.take n) := by
  refine VRs.of_get (by simp [h.length]) fun i a ha => ?_
  rw [List.getElem?_take] at ha ⊢
  split at ha
  · rename_i hi
    rw [if_pos hi]
    exact h.get i a ha
  · cases ha
theorem VRs.drop {m : Emb} {as : List AV} {vs : List Value} (h : VRs m as vs) (n : Nat) : VRs m (as.drop n) (vs.drop n) := by
  refine VRs.of_get (by simp [h.length]) fun i a ha => ?_
  rw [List.getElem?_drop] at ha ⊢
  exact h.get _ a ha

def AObj.rw : AObj → Bool
  | .arr _ _ ro => !ro
  | .map _ => true
  | .iter _ _ => true
  | .dead => false
  | .bld _ _ _ => true

def MapR (m : Emb) : List (AV × AV) → List MapEntry → Prop
  | [], l => l = []
  | x :: r, l => ∃ e es, l = e :: es ∧ VR m x.1 e.key ∧ VR m x.2 e.val ∧ MapR m r es

theorem MapR.mono {m m' : Emb} (h : m.le m') : ∀ (l : List (AV × AV)) (es : List MapEntry), MapR m l es → MapR m' l es
  | [], es, k => k
  | x :: r, es, k => by
    simp only [MapR] at k ⊢
    obtain ⟨e, es', hl, h1, h2, h3⟩ := k
    exact ⟨e, es', hl, VR.mono h _ _ h1, VR.mono h _ _ h2, MapR.mono h _ _ h3⟩

def BufR (m : Emb) (x : AV) (v : Value) : Prop := (x = .nilslice ∧ v = .slice none 0 0) ∨
  ∃ r n er, x = .slice r 0 n ∧ m r = some er ∧ er.off = 0 ∧ n ≤ er.sz ∧ er.sz ≤ maxLen ∧ v = .slice (some ⟨er.g, 0, none⟩) n er.sz
theorem BufR.mono {m m' : Emb} (h : m.le m') {x : AV} {v : Value} (k : BufR m x v) : BufR m' x v := by
  rcases k with k | ⟨r, n, er, h1, h2, h3⟩
  · exact .inl k
  · exact .inr ⟨r, n, er, h1, h _ _ h2, h3⟩

def ORel (m : Emb) (base : Nat) (b : Nat) (w : World) : AObj → Prop
  | .dead => True
  | .arr c es ro => ∃ e, m b = some e ∧ e.es = es ∧ ∃ cc t fr, w.heap[e.g]? = some (.cells cc t fr) ∧ cc.size = e.sz ∧ e.off + c.length ≤ e.sz ∧
      (∀ (i : Nat) (v : AV), c[i]? = some v → ∃ cv, cc[e.off + i]? = some cv ∧ VR m v cv ∧ isCell cv = true) ∧ (ro = false → fr = (0, 0) ∧ base ≤ e.g) ∧ (ro = true → e.g < base)
  | .map es => ∃ e, m b = some e ∧ base ≤ e.g ∧ ∃ ents clock, w.heap[e.g]? = some (.map ents clock) ∧ MapR m es ents.toList
  | .iter s pos => ∃ e, m b = some e ∧ base ≤ e.g ∧ w.heap[e.g]? = some (.stringIter ⟨s.toArray⟩ pos) ∧ e.off = 0
  | .bld k x s => ∃ e, m b = some e ∧ base ≤ e.g ∧ e.off = 0 ∧ ∃ cc, w.heap[e.g]? = some (.cells cc (k / 2) (0, 0)) ∧
      (k % 2 = 0 → ∃ p v, cc = #[p, v] ∧ (p = .pointer none ∨ p = .pointer (some ⟨e.g, 0, none⟩)) ∧ BufR m x v) ∧
      (k % 2 = 1 → cc.size = e.sz ∧ s.length ≤ cc.size ∧ cc.toList.take s.length = s.map fun c => Value.int .u8 (c.toNat : Int))

theorem ORel.mono {m m' : Emb} (h : m.le m') {base b : Nat} {w w' : World} {o : AObj} (k : ORel m base b w o)
    (hw : ∀ e, m b = some e → w'.heap[e.g]? = w.heap[e.g]?) : ORel m' base b w' o := by
  cases o with
  | dead => trivial
  | arr c es ro =>
    obtain ⟨e, he, h0, cc, t, fr, h1, h2, h3, h4, h5⟩ := k
    exact ⟨e, h _ _ he, h0, cc, t, fr, (hw e he).trans h1, h2, h3, fun i v hi => let ⟨cv, a, b, c⟩ := h4 i v hi; ⟨cv, a, VR.mono h _ _ b, c⟩, h5⟩
  | map es =>
    obtain ⟨e, he, h0, ents, clock, h1, h2⟩ := k
    exact ⟨e, h _ _ he, h0, ents, clock, (hw e he).trans h1, MapR.mono h _ _ h2⟩
  | iter s pos =>
    obtain ⟨e, he, h0, h1, h2⟩ := k
    exact ⟨e, h _ _ he, h0, (hw e he).trans h1, h2⟩
  | bld q x s =>
    obtain ⟨e, he, h0, h1, cc, h2, h3, h4⟩ := k
    exact ⟨e, h _ _ he, h0, h1, cc, (hw e he).trans h2, fun hq => let ⟨p, v, a, b, c⟩ := h3 hq; ⟨p, v, a, b, BufR.mono h c⟩, h4⟩

structure HR (m : Emb) (h : Heap) (base : Nat) (w0 w : World) : Prop where
  below : Below base w0 w
  size : base ≤ w.heap.size
  obj : ∀ (b : Nat) (o : AObj), h[b]? = some o → ORel m base b w o
  lt : ∀ (b : Nat) (e : Ent), m b = some e → e.g < w.heap.size ∧ b < h.length
  uniq : ∀ (b1 b2 : Nat) (o1 o2 : AObj) (e1 e2 : Ent), h[b1]? = some o1 → h[b2]? = some o2 → o1.rw = true → o2.rw = true → m b1 = some e1 → m b2 = some e2 → b1 ≠ b2 → e1.g ≠ e2.g

theorem HR.drewN {m : Emb} {h : Heap} {base : Nat} {w0 w : World} (k : HR m h base w0 w) : HR m h base w0 w.drew :=
  ⟨k.below.drew, k.size, fun b o ho => (k.obj b o ho).mono (Emb.le.refl m) (fun _ _ => rfl), k.lt, k.uniq⟩

theorem HR.none_of_len {m : Emb} {h : Heap} {base : Nat} {w0 w : World} (k : HR m h base w0 w) : m h.length = none := by
  cases hm : m h.length with
  | none => rfl
  | some e => exact absurd (k.lt _ _ hm).2 (Nat.lt_irrefl _)

theorem HR.push {m : Emb} {h : Heap} {base : Nat} {w0 w : World} (k : HR m h base w0 w) (o : AObj) (O : Obj) (off sz es : Nat)
    (ho : ORel (m.upd h.length ⟨w.heap.size, off, sz, es⟩) base h.length (w.alloc O) o) :
    HR (m.upd h.length ⟨w.heap.size, off, sz, es⟩) (h ++ [o]) base w0 (w.alloc O) := by
  have hle : m.le (m.upd h.length ⟨w.heap.size, off, sz, es⟩) := Emb.le_upd k.none_of_len
  refine ⟨k.below.alloc k.size O, by simp; have := k.size; omega, fun b o' hb => ?_, fun b e he => ?_, fun b1 b2 o1 o2 e1 e2 h1 h2 r1 r2 m1 m2 hne => ?_⟩
  · rw [List.getElem?_append] at hb
    split at hb
    · rename_i hlt
      refine (k.obj b o' hb).mono hle fun e he => ?_
      exact Below.heap_alloc _ _ _ (k.lt b e he).1
    · rename_i hge
      have : b = h.length := by
        have : b - h.length < [o].length := by
          rcases Nat.lt_or_ge (b - h.length) [o].length with h' | h'
          · exact h'
          · rw [List.getElem?_eq_none h'] at hb; cases hb
        simp at this; omega
      subst this
      simp at hb; subst hb
      exact ho
  · by_cases hb : b = h.length
    · subst hb
      rw [Emb.upd_same] at he
      cases he
      simp
    · rw [Emb.upd_ne _ _ hb] at he
      have := k.lt b e he
      simp; omega
  · have low : ∀ (b : Nat) (o' : AObj) (e' : Ent), (h ++ [o])[b]? = some o' → (m.upd h.length ⟨w.heap.size, off, sz, es⟩) b = some e' → b ≠ h.length → h[b]? = some o' ∧ m b = some e' := by
      intro b o' e' hb he hn
      rw [Emb.upd_ne _ _ hn] at he
      have := (k.lt b e' he).2
      rw [List.getElem?_append_left this] at hb
      exact ⟨hb, he⟩
    by_cases c1 : b1 = h.length
    · by_cases c2 : b2 = h.length
      · omega
      · obtain ⟨_, q2⟩ := low b2 o2 e2 h2 m2 c2
        subst c1
        rw [Emb.upd_same] at m1
        cases m1
        have := (k.lt b2 e2 q2).1
        show w.heap.size ≠ e2.g
        omega
    · by_cases c2 : b2 = h.length
      · obtain ⟨_, q1⟩ := low b1 o1 e1 h1 m1 c1
        subst c2
        rw [Emb.upd_same] at m2
        cases m2
        have := (k.lt b1 e1 q1).1
        show e1.g ≠ w.heap.size
        omega
      · obtain ⟨p1, q1⟩ := low b1 o1 e1 h1 m1 c1
        obtain ⟨p2, q2⟩ := low b2 o2 e2 h2 m2 c2
        exact k.uniq b1 b2 o1 o2 e1 e2 p1 p2 r1 r2 q1 q2 hne

theorem HR.change {m : Emb} {h : Heap} {base : Nat} {w0 w w' : World} (k : HR m h base w0 w) (b : Nat) (o o' : AObj) (e : Ent)
    (hb : h[b]? = some o) (he : m b = some e) (hrw : o.rw = true) (hbe : base ≤ e.g)
    (hsz : w'.heap.size = w.heap.size) (hos : w'.os = w.os) (ht : w'.tape = w.tape) (hout : w'.output = w.output)
    (hother : ∀ g, g ≠ e.g → w'.heap[g]? = w.heap[g]?) (ho : ORel m base b w' o') : HR m (h.set b o') base w0 w' := by
  have hbl : b < h.length := (k.lt b e he).2
  have roo : ∀ (x : Nat) (ox : AObj) (ex : Ent), h[x]? = some ox → m x = some ex → x ≠ b → ox ≠ .dead → ex.g ≠ e.g := by
    intro x ox ex hx hm hn hd
    by_cases hr : ox.rw = true
    · exact k.uniq x b ox o ex e hx hb hr hrw hm he hn
    · cases ox with
      | dead => exact absurd rfl hd
      | map _ => exact absurd rfl hr
      | iter _ _ => exact absurd rfl hr
      | bld _ _ _ => exact absurd rfl hr
      | arr c es ro =>
        have hro : ro = true := by simpa [AObj.rw] using hr
        obtain ⟨e', he', _, cc, t, fr, _, _, _, _, _, h7⟩ := k.obj x _ hx
        rw [hm] at he'
        cases he'
        have := h7 hro
        omega
  refine ⟨k.below.trans ⟨hos, ht, hout, by omega, fun i hi => hother i (by omega)⟩, by have := k.size; omega, fun x ox hx => ?_, fun x ex hm => ?_, fun b1 b2 o1 o2 e1 e2 h1 h2 r1 r2 m1 m2 hne => ?_⟩
  · rw [List.getElem?_set] at hx
    by_cases hxb : b = x
    · subst hxb
      simp [hbl] at hx
      subst hx
      exact ho
    · simp [hxb] at hx
      by_cases hd : ox = .dead
      · subst hd; trivial
      · exact (k.obj x ox hx).mono (Emb.le.refl m) fun ex hex => hother _ (roo x ox ex hx hex (Ne.symm hxb) hd)
  · have := k.lt x ex hm
    simp; omega
  · have back : ∀ (x : Nat) (ox : AObj) (ex : Ent), (h.set b o')[x]? = some ox → ox.rw = true → m x = some ex → ∃ oy, h[x]? = some oy ∧ oy.rw = true := by
      intro x ox ex hx hr hm
      rw [List.getElem?_set] at hx
      by_cases hxb : b = x
      · subst hxb; exact ⟨o, hb, hrw⟩
      · simp [hxb] at hx; exact ⟨ox, hx, hr⟩
    obtain ⟨p1, q1, s1⟩ := back b1 o1 e1 h1 r1 m1
    obtain ⟨p2, q2, s2⟩ := back b2 o2 e2 h2 r2 m2
    exact k.uniq b1 b2 p1 p2 e1 e2 q1 q2 s1 s2 m1 m2 hne

theorem HR.kill {m : Emb} {h : Heap} {base : Nat} {w0 w : World} (k : HR m h base w0 w) (b : Nat) : HR m (h.set b .dead) base w0 w := by
  refine ⟨k.below, k.size, fun x ox hx => ?_, fun x ex hm => ?_, fun b1 b2 o1 o2 e1 e2 h1 h2 r1 r2 m1 m2 hne => ?_⟩
  · rw [List.getElem?_set] at hx
    split at hx
    · split at hx
      · cases hx; trivial
      · cases hx
    · exact k.obj x ox hx
  · have := k.lt x ex hm
    simp; exact this
  · have back : ∀ (x : Nat) (ox : AObj), (h.set b .dead)[x]? = some ox → ox.rw = true → h[x]? = some ox := by
      intro x ox hx hr
      rw [List.getElem?_set] at hx
      split at hx
      · split at hx
        · cases hx; cases hr
        · cases hx
      · exact hx
    exact k.uniq b1 b2 o1 o2 e1 e2 (back _ _ h1 r1) (back _ _ h2 r2) r1 r2 m1 m2 hne
end Go.Abs

set_option linter.unusedVariables false
namespace Go.Abs
open Go.RowKit

def allM {α β : Type} (f : α → Option β) : List α → Option (List β)
  | [] => some []
  | a :: as => match f a, allM f as with
    | some b, some bs => some (b :: bs)
    | _, _ => none

def toAV : Nat → Value → Option AV
  | _, .bool b => some (.bool b)
  | _, .int k n => some (.int k n)
  | _, .string s => some (.str s.data.toList)
  | _, .pointer none => some .nilptr
  | _, .slice none 0 0 => some .nilslice
  | _, .map none => some .nilmap
  | _, .nilFunc => some .nilfn
  | _, .nilIface => some .niliface
  | d + 1, .iface t v => (toAV d v).map (.iface t)
  | _, _ => none

def toCells (vs : List Value) : Option (List AV) := allM (toAV 4) vs

def sizeT (P : Program) (t : TypeId) : Option Nat := (P.info? t).map (·.size)
def isAggD : TypeDesc → Bool
  | .struct _ => true
  | .array _ _ => true
  | _ => false
def aggT (P : Program) (t : TypeId) : Option (Option Nat) :=
  match P.underlying t, P.info? t with
  | some d, some i => some (if isAggD d then some i.size else none)
  | _, _ => none
def compO : Operand → Option MO
  | .tmp t => some (.tmp t)
  | .const v => (toAV 4 v).map .const
  | .func f => some (.const (.fn f []))
  | .global _ => none

def compOs (l : List Operand) : Option (List MO) := allM compO l
def compOpt : Option Operand → Option (Option MO)
  | none => some none
  | some x => (compO x).map some

theorem allM_spec {α β : Type} {f : α → Option β} : ∀ {l : List α} {r : List β}, allM f l = some r → r.length = l.length ∧ ∀ (i : Nat) (b : β), r[i]? = some b → ∃ a, l[i]? = some a ∧ f a = some b
  | [], r, h => by simp [allM] at h; subst h; simp
  | a :: as, r, h => by
    simp only [allM] at h
    split at h
    · rename_i b bs hb hbs
      cases h
      obtain ⟨h1, h2⟩ := allM_spec hbs
      refine ⟨by simp [h1], fun i c hc => ?_⟩
      cases i with
      | zero => simp at hc; subst hc; exact ⟨a, by simp, hb⟩
      | succ i => simpa using h2 i c (by simpa using hc)
    · cases h

theorem VR_toAV (m : Emb) : ∀ (d : Nat) (v : Value) (a : AV), toAV d v = some a → VR m a v ∧ isCell v = true := by
  intro d
  induction d with
  | zero =>
    intro v a h
    unfold toAV at h
    split at h <;> first
      | (injection h with h; subst h; refine ⟨?_, rfl⟩; simp [VR]; done)
      | omega
      | (simp at h; done)
  | succ d ih =>
    intro v a h
    unfold toAV at h
    split at h
    case h_9 d' t x hd =>
      obtain rfl : d = d' := by omega
      cases hx : toAV d x with
      | none => simp [hx] at h
      | some y =>
        simp [hx] at h
        subst h
        exact ⟨by simp only [VR]; exact ⟨_, rfl, (ih _ _ hx).1⟩, rfl⟩
    all_goals first
      | (injection h with h; subst h; refine ⟨?_, rfl⟩; simp [VR]; done)
      | (simp at h; done)

structure TR (m : Emb) (t : Tmps) (tmps : Array Value) : Prop where
  vals : VRs m t tmps.toList

theorem TR.mono {m m' : Emb} {t : Tmps} {tmps : Array Value} (h : TR m t tmps) (hl : m.le m') : TR m' t tmps := ⟨VRs.mono hl _ _ h.vals⟩

theorem TR.get {m : Emb} {t : Tmps} {tmps : Array Value} (h : TR m t tmps) (i : Nat) : VR m (t.getD i .undef) (tmps.getD i undef) := by
  have hl := h.vals.length
  rcases Nat.lt_or_ge i t.length with hi | hi
  · obtain ⟨v, hv, hr⟩ := h.vals.get i _ (List.getElem?_eq_getElem hi)
    have e1 : t.getD i .undef = t[i] := by simp [List.getD, List.getElem?_eq_getElem hi]
    have e2 : tmps.getD i undef = v := by
      have : tmps[i]? = some v := by simpa using hv
      simp [Array.getD_eq_getD_getElem?, this]
    rw [e1, e2]; exact hr
  · have e1 : t.getD i .undef = .undef := by simp [List.getD, List.getElem?_eq_none hi]
    have e2 : tmps.getD i undef = undef := by
      have : tmps.size ≤ i := by simpa using (by omega : tmps.toList.length ≤ i)
      simp [Array.getD_eq_getD_getElem?, Array.getElem?_eq_none this]
    rw [e1, e2]; simp [VR, undef]

theorem compO_sound {m : Emb} {t : Tmps} {a : Act} {x : Operand} {mx : MO} (h : compO x = some mx) (ht : TR m t a.tmps) : VR m (mx.eval t) (a.eval x) := by
  cases x with
  | tmp i => simp [compO] at h; subst h; exact ht.get i
  | const v =>
    simp only [compO, Option.map_eq_some_iff] at h
    obtain ⟨c, hc, rfl⟩ := h
    exact (VR_toAV m 4 v c hc).1
  | func f => simp [compO] at h; subst h; simp [MO.eval, Act.eval, VR, VRs]
  | global g => simp [compO] at h

theorem compOs_sound {m : Emb} {t : Tmps} {a : Act} : ∀ {l : List Operand} {r : List MO}, compOs l = some r → TR m t a.tmps → VRs m (r.map (·.eval t)) (l.map a.eval)
  | [], r, h, ht => by simp [compOs, allM] at h; subst h; simp [VRs]
  | x :: l, r, h, ht => by
    simp only [compOs, allM] at h
    split at h
    · rename_i b bs hb hbs
      cases h
      simp only [List.map_cons, VRs]
      exact ⟨_, _, rfl, compO_sound hb ht, compOs_sound hbs ht⟩
    · cases h

theorem TR.put {m : Emb} {t : Tmps} {a : Act} (h : TR m t a.tmps) (d : Option Nat) {v : AV} {cv : Value} (hv : VR m v cv) : TR m (Abs.put t d v) (a.put d cv).tmps := by
  cases d with
  | none => exact h
  | some d =>
    refine ⟨VRs.of_get ?_ fun i x hx => ?_⟩
    · simp [Abs.put, Act.put, h.vals.length]
    · simp only [Abs.put, Act.put, List.getElem?_set, Array.toList_setIfInBounds] at hx ⊢
      by_cases hd : d = i
      · subst hd
        simp only [if_true] at hx ⊢
        split at hx
        · rename_i hlt
          cases hx
          have hlen := h.vals.length
          rw [if_pos (by omega)]
          exact ⟨cv, rfl, hv⟩
        · cases hx
      · simp only [hd, if_false] at hx ⊢
        exact h.vals.get i x hx
end Go.Abs

set_option linter.unusedVariables false
set_option linter.unusedSimpArgs false
namespace Go.Abs
open Go.RowKit

theorem add_at (g o j : Nat) : (⟨g, o, none⟩ : Addr).add j = ⟨g, o + j, none⟩ := by
  unfold Addr.add
  split
  · rename_i h; subst h; rfl
  · rfl

theorem oneCell_of {v : Value} (h : isCell v = true) : v.oneCell' = true := by cases v <;> simp_all [isCell, Value.oneCell']

section
variable {P : Program} {m : Emb} {h : Heap} {base : Nat} {w0 w : World}

theorem HR.arr (k : HR m h base w0 w) {b es : Nat} {c : List AV} {ro : Bool} (hb : h[b]? = some (.arr c es ro)) :
    ∃ e, m b = some e ∧ e.es = es ∧ ∃ cc t fr, w.heap[e.g]? = some (.cells cc t fr) ∧ cc.size = e.sz ∧ e.off + c.length ≤ e.sz ∧
      (∀ (i : Nat) (v : AV), c[i]? = some v → ∃ cv, cc[e.off + i]? = some cv ∧ VR m v cv ∧ isCell cv = true) ∧ (ro = false → fr = (0, 0) ∧ base ≤ e.g) ∧ (ro = true → e.g < base) := k.obj b _ hb

theorem cell_of_heap {g i : Nat} {cc : Array Value} {t : TypeId} {fr : Nat × Nat} {v : Value} (hg : w.heap[g]? = some (.cells cc t fr)) (hv : cc[i]? = some v) : w.cell? ⟨g, i, none⟩ = some v := by
  simp [World.cell?, hg, hv]

theorem rdCells_sound (k : HR m h base w0 w) {b o n : Nat} {l : List AV} (hr : rdCells h b o n = some l) :
    ∃ e cs, m b = some e ∧ cs.length = n ∧ (∀ (j : Nat) (v : Value), cs[j]? = some v → w.cell? ⟨e.g, e.off + o + j, none⟩ = some v) ∧ VRs m l cs ∧ (∀ c ∈ cs, isCell c = true) := by
  unfold rdCells at hr
  split at hr
  · rename_i c es ro hb
    split at hr
    · rename_i hlen
      cases hr
      obtain ⟨e, he, _, cc, t, fr, hg, hsz, hoff, hcell, _, _⟩ := k.arr hb
      have get : ∀ (j : Nat) (v : AV), ((c.drop o).take n)[j]? = some v → ∃ cv, ((cc.toList.drop (e.off + o)).take n)[j]? = some cv ∧ VR m v cv ∧ isCell cv = true := by
        intro j v hj
        rw [List.getElem?_take] at hj
        split at hj
        · rename_i hjn
          rw [List.getElem?_drop] at hj
          obtain ⟨cv, h1, h2, h3⟩ := hcell _ _ hj
          refine ⟨cv, ?_, h2, h3⟩
          rw [List.getElem?_take, if_pos hjn, List.getElem?_drop, Array.getElem?_toList, Nat.add_assoc]
          exact h1
        · cases hj
      have hlen2 : ((cc.toList.drop (e.off + o)).take n).length = n := by simp; omega
      have hlen1 : ((c.drop o).take n).length = n := by simp; omega
      refine ⟨e, (cc.toList.drop (e.off + o)).take n, he, hlen2, fun j v hj => ?_, ?_, fun x hx => ?_⟩
      · rw [List.getElem?_take] at hj
        split at hj
        · rw [List.getElem?_drop, Array.getElem?_toList] at hj
          exact cell_of_heap hg hj
        · cases hj
      · exact VRs.of_get (by omega) fun i a ha => let ⟨cv, h1, h2, _⟩ := get i a ha; ⟨cv, h1, h2⟩
      · obtain ⟨j, hj⟩ := List.mem_iff_getElem?.1 hx
        have hjn : j < n := by
          rcases Nat.lt_or_ge j n with h' | h'
          · exact h'
          · rw [List.getElem?_eq_none (by omega)] at hj; cases hj
        obtain ⟨cv, h1, _, h3⟩ := get j _ (List.getElem?_eq_getElem (by omega : j < ((c.drop o).take n).length))
        rw [hj] at h1
        cases h1
        exact h3
    · cases hr
  · cases hr

theorem isAgg_run {t : TypeId} {d : TypeDesc} (hu : P.underlying t = some d) : (isAgg t).run P w = .ok (isAggD d) w := by
  unfold isAgg
  simp only [Sem.run_bind, run_underlying hu, Result.andThen_ok]
  cases d <;> rfl
theorem typeInfo_run {t : TypeId} {i : TypeInfo} (hi : P.info? t = some i) : (typeInfo t).run P w = .ok i w := by
  simp [typeInfo, hi]
theorem sizeOf_run {t : TypeId} {i : TypeInfo} (hi : P.info? t = some i) : (Go.sizeOf t).run P w = .ok i.size w := by
  simp [Go.sizeOf, typeInfo_run hi]

theorem loadVar_sound (k : HR m h base w0 w) {t : TypeId} {agg : Option Nat} (ha : aggT P t = some agg) {b o : Nat} {v : AV} (hr : rdVar h agg b o = some v) {cv0 : Value} (hp : VR m (.ptr b o) cv0) :
    ∃ a cv, cv0 = .pointer (some a) ∧ (loadVar t a).run P w = .ok cv w ∧ VR m v cv := by
  unfold aggT at ha
  split at ha
  · rename_i d i hu hi
    simp only [VR] at hp
    obtain ⟨e', he', rfl⟩ := hp
    simp only [Option.some.injEq] at ha
    cases hd : isAggD d with
    | true =>
      simp only [hd, if_true] at ha
      subst ha
      simp only [rdVar, Option.map_eq_some_iff] at hr
      obtain ⟨l, hl, rfl⟩ := hr
      obtain ⟨e, cs, he, hlen, hc, hv, hk⟩ := rdCells_sound k hl
      rw [he'] at he
      cases he
      refine ⟨_, .agg cs.toArray, rfl, ?_, ?_⟩
      · unfold loadVar
        simp only [Sem.run_bind, isAgg_run hu, hd, Result.andThen_ok, if_true, sizeOf_run hi]
        rw [← hlen, run_loadCells_list w _ cs (fun j v hj => by rw [add_at]; exact hc j v hj)]
        simp
      · simp only [VR]
        exact ⟨cs.toArray, rfl, by simpa using hv, by simpa using hk⟩
    | false =>
      simp only [hd, Bool.false_eq_true, if_false] at ha
      subst ha
      simp only [rdVar, Option.bind_eq_some_iff] at hr
      obtain ⟨l, hl, hh⟩ := hr
      obtain ⟨e, cs, he, hlen, hc, hv, hk⟩ := rdCells_sound k hl
      rw [he'] at he
      cases he
      have hl1 := hv.length
      match cs, l, hlen, hl1, hh, hv with
      | [c], [x], _, _, hh, hv =>
        simp only [List.head?_cons, Option.some.injEq] at hh
        subst hh
        simp only [VRs] at hv
        obtain ⟨_, _, hcc, hx, _⟩ := hv
        cases hcc
        refine ⟨_, c, rfl, ?_, hx⟩
        unfold loadVar
        simp only [Sem.run_bind, isAgg_run hu, hd, Result.andThen_ok, Bool.false_eq_true, if_false, run_load]
        have := hc 0 c rfl
        simp only [Nat.add_zero] at this
        rw [this]
  · cases ha

theorem setCells_get {α : Type} : ∀ (vs : List α) (c : List α) (o i : Nat), o + vs.length ≤ c.length → (setCells c o vs)[i]? = if o ≤ i ∧ i < o + vs.length then vs[i - o]? else c[i]?
  | [], c, o, i, h => by simp [setCells]; omega
  | v :: vs, c, o, i, h => by
    simp only [List.length_cons] at h
    rw [setCells, setCells_get vs (c.set o v) (o + 1) i (by simp; omega)]
    simp only [List.length_cons]
    by_cases hi : i = o
    · subst hi
      have : ¬ (i + 1 ≤ i ∧ i < i + 1 + vs.length) := by omega
      rw [if_neg this, if_pos (by omega)]
      simp [List.getElem?_set]
      omega
    · by_cases hr : o + 1 ≤ i ∧ i < o + 1 + vs.length
      · rw [if_pos hr, if_pos (by omega)]
        obtain ⟨j, rfl⟩ : ∃ j, i = o + 1 + j := ⟨i - (o + 1), by omega⟩
        rw [show o + 1 + j - (o + 1) = j by omega, show o + 1 + j - o = j + 1 by omega]
        simp
      · rw [if_neg hr, if_neg (by omega)]
        simp [List.getElem?_set, Ne.symm hi]
theorem setCells_length {α : Type} : ∀ (vs : List α) (c : List α) (o : Nat), (setCells c o vs).length = c.length
  | [], c, o => rfl
  | v :: vs, c, o => by rw [setCells, setCells_length vs]; simp

theorem cells_sound {x : AV} {cs : List AV} (hc : x.cells = some cs) {cv : Value} (hv : VR m x cv) : VRs m cs cv.cells.toList ∧ ∀ c ∈ cv.cells.toList, isCell c = true := by
  cases x <;> simp only [AV.cells, Option.some.injEq, reduceCtorEq] at hc
  case agg l =>
    subst hc
    simp only [VR] at hv
    obtain ⟨cs, rfl, h1, h2⟩ := hv
    exact ⟨h1, h2⟩
  all_goals
    subst hc
    have key : isCell cv = true := by
      simp only [VR] at hv
      first
        | (subst hv; rfl)
        | (obtain ⟨e, he, rfl⟩ := hv; rfl)
        | (obtain ⟨e, he, ⟨c, rfl, _⟩ | ⟨_, a, rfl⟩⟩ := hv <;> rfl)
        | (obtain ⟨cs, rfl, _⟩ := hv; rfl)
    have hcells : cv.cells.toList = [cv] := by cases cv <;> first | rfl | (simp [isCell] at key)
    rw [hcells]
    exact ⟨by simp only [VRs]; exact ⟨cv, [], rfl, hv, rfl⟩, by simpa using key⟩

theorem setRow_other (w : World) (g : Nat) (cs : Array Value) (k : Nat) (hk : k ≠ g) : (w.setRow g cs).heap[k]? = w.heap[k]? := by
  simp only [World.setRow, Array.getElem?_modify]
  rw [if_neg (Ne.symm hk)]
theorem setRow_same (w : World) (g : Nat) (cs cur : Array Value) (t : TypeId) (fr : Nat × Nat) (hg : w.heap[g]? = some (.cells cur t fr)) : (w.setRow g cs).heap[g]? = some (.cells cs t fr) := by
  simp only [World.setRow, Array.getElem?_modify]
  simp [hg]

theorem wrCells_sound (k : HR m h base w0 w) {b o : Nat} {vs : List AV} {h' : Heap} (hr : wrCells h b o vs = some h') {cs : List Value} (hv : VRs m vs cs) (hc : ∀ c ∈ cs, isCell c = true) {e : Ent} (he : m b = some e) :
    ∃ w', (storeCells ⟨e.g, e.off + o, none⟩ cs 0).run P w = .ok () w' ∧ HR m h' base w0 w' := by
  unfold wrCells at hr
  split at hr
  · rename_i c es hb
    split at hr
    · rename_i hlen
      cases hr
      obtain ⟨e', he', hes, cc, t, fr, hg, hsz, hoff, hcell, hrw, _⟩ := k.arr hb
      rw [he] at he'
      cases he'
      obtain ⟨rfl, hbase⟩ := hrw rfl
      have hl := hv.length
      refine ⟨_, run_storeCells_at P e.g (e.off + o) t cs 0 cc w hg (by omega) (fun v hv => oneCell_of (hc v hv)), ?_⟩
      refine k.change b _ _ e hb he rfl hbase (by simp [World.setRow]) rfl rfl rfl (fun g hg' => setRow_other _ _ _ _ hg') ?_
      refine ⟨e, he, hes, _, t, (0, 0), setRow_same _ _ _ _ _ _ hg, ?_, ?_, fun i v hi => ?_, fun _ => ⟨rfl, hbase⟩, fun hf => by cases hf⟩
      · simp; omega
      · rw [setCells_length]; exact hoff
      · rw [setCells_get vs c o i hlen] at hi
        simp only [List.getElem?_toArray, Nat.add_zero]
        split at hi
        · rename_i hin
          obtain ⟨cv, h1, h2⟩ := hv.get _ _ hi
          refine ⟨cv, ?_, h2, hc cv (List.mem_of_getElem? h1)⟩
          rw [List.append_assoc, List.getElem?_append_right (by simp; omega), List.getElem?_append_left (by simp; omega)]
          rw [← h1]
          congr 1
          simp
          omega
        · rename_i hout
          obtain ⟨cv, h1, h2, h3⟩ := hcell i v hi
          refine ⟨cv, ?_, h2, h3⟩
          by_cases hlo : i < o
          · rw [List.append_assoc, List.getElem?_append_left (by simp; omega), List.getElem?_take, if_pos (by omega), Array.getElem?_toList]
            exact h1
          · rw [List.getElem?_append_right (by simp; omega), List.getElem?_drop, Array.getElem?_toList]
            rw [← h1]
            congr 1
            simp
            omega
    · cases hr
  · cases hr
end
end Go.Abs

set_option linter.unusedVariables false
set_option linter.unusedSimpArgs false
namespace Go.Abs
open Go.RowKit

def structPlaces (P : Program) (fs : List Field) : Option (List (Nat × Nat)) := allM (fun (f : Field) => (sizeT P f.type).map fun s => (f.offset, s)) fs

def compParts (place : Nat → Option (Nat × Nat)) (ps : List (Nat × Operand)) : Option (List (Nat × Nat × MO)) :=
  allM (fun (p : Nat × Operand) => match place p.1, compO p.2 with
    | some (off, sz), some x => some (off, sz, x)
    | _, _ => none) ps

def isNilConst : Operand → Bool
  | .const .nilIface => true
  | _ => false

def eqKind (P : Program) (t : TypeId) : Option EqK :=
  match P.underlying t with
  | some .bool => some .bool
  | some (.pointer _) => some .ptr
  | some (.slice _) => some .slice
  | some (.map _ _) => some .map
  | some (.func _ _ _) => some .fn
  | _ => none

def isIfaceT (P : Program) (t : TypeId) : Bool :=
  match P.underlying t with
  | some (.interface _) => true
  | _ => false

def ckFs (f0 : TypeId → Option (List CK)) : Nat → List Field → Option (List CK)
  | _, [] => some []
  | off, f :: fs => if f.name != "_" && f.offset == off then (match f0 f.type with
    | some ks => (ckFs f0 (off + ks.length) fs).map (ks ++ ·)
    | none => none) else none

def ckT (P : Program) : Nat → TypeId → Option (List CK)
  | 0, _ => none
  | d + 1, t => match P.underlying t with
    | some .bool => some [.bool]
    | some (.int _) => some [.int]
    | some .string => some [.str]
    | some (.struct fs) => if P.stoodInHeld t then none else (ckFs (ckT P d) 0 fs.toList).filter fun ks => sizeT P t == some ks.length
    | _ => none

def isNegOp : BinOp → Option Bool
  | .eql => some false
  | .neq => some true
  | _ => none

def numKind (P : Program) (t : TypeId) : Bool :=
  match P.underlying t with
  | some (.int _) | some .string => true
  | _ => false

def isStrT (P : Program) (t : TypeId) : Bool :=
  match P.underlying t with
  | some .string => true
  | _ => false

def zeroAV (v : Value) : Option AV :=
  match v with
  | .agg cs => (toCells cs.toList).map .agg
  | v => toAV 4 v

def bldT (P : Program) (t : TypeId) : Bool := match P.underlying t with
  | some (.struct fs) => (match fs.toList with
    | [a, b] => (match P.underlying a.type with
      | some (.pointer u) => u == t
      | _ => false) && (match P.underlying b.type with
      | some (.slice e) => (match P.underlying e with
        | some (.int .u8) => true
        | _ => false)
      | _ => false)
    | _ => false)
  | _ => false
def isNils : Option (List AV) → Bool
  | some [.nilptr, .nilslice] => true
  | _ => false

def compOp (P : Program) : Op → Option MOp
  | .move x => (compO x).map .mov
  | .assign x => (compO x).map .mov
  | .pick c a b => match compO c, compO a, compO b with
    | some c, some a, some b => some (.pick c a b)
    | _, _, _ => none
  | .alloc t => match P.info? t with
    | some i => match i.zero with
      | some z => if bldT P t = true then (if isNils (toCells z.cells.toList) = true then some (.copy (2 * t) (.const .undef) (.const .undef)) else none)
        else (toCells z.cells.toList).map fun l => .alloc l (match P.underlying t with
        | some (.array _ e) => (sizeT P e).getD 0
        | _ => i.size)
      | none => none
    | none => none
  | .box t x => match sizeT P t, compO x with
    | some n, some x => some (.box n x)
    | _, _ => none
  | .build t ps => match P.underlying t, P.info? t with
    | some (.struct fs), some i => match i.zero, structPlaces P fs.toList with
      | some z, some pl => match toCells z.cells.toList, compParts (pl[·]?) ps.toList with
        | some z, some ps => some (.build z ps)
        | _, _ => none
      | _, _ => none
    | some (.array _ e), some i => match i.zero, sizeT P e with
      | some z, some s => match toCells z.cells.toList, compParts (fun j => some (j * s, s)) ps.toList with
        | some z, some ps => some (.build z ps)
        | _, _ => none
      | _, _ => none
    | _, _ => none
  | .buildSlice t n ps => match P.underlying t with
    | some (.slice e) => match P.info? e with
      | some i => if n * i.size > 2 ^ 24 then none else match i.zero with
        | some z => match toCells ((Array.range (n * i.size)).map (fun j => ((if n * i.size = 0 then #[] else z.cells : Array Value))[j % (if n * i.size = 0 then #[] else z.cells : Array Value).size]!)).toList, compParts (fun j => some (j * i.size, i.size)) ps.toList with
          | some l, some ps => some (.buildSlice n i.size l ps)
          | _, _ => none
        | none => none
      | none => none
    | _ => none
  | .load t a => match aggT P t, compO a with
    | some agg, some a => some (.load agg a)
    | _, _ => none
  | .store t a x => match sizeT P t, compO a, compO x with
    | some n, some a, some x => some (.store n a x)
    | _, _, _ => none
  | .nilCheck x => (compO x).map .nilCheck
  | .binOp op t x y _ =>
    if isIfaceT P t then (match isNegOp op with
      | some neg => if isNilConst y then (compO x).map (.isNil neg) else if isNilConst x then (compO y).map (.isNil neg) else none
      | none => none)
    else match compO x, compO y with
    | some x, some y => if numKind P t then some (.bin op x y) else match isNegOp op with
      | some neg => match eqKind P t with
        | some k => some (.eqv k neg x y)
        | none => match ckT P 5 t, aggT P t with
          | some ks, some (some _) => if Nat.ble 5 P.depth then some (.eqAgg ks neg x y) else none
          | _, _ => none
      | none => none
    | _, _ => none
  | .unOp op _ x => (compO x).map (.un op)
  | .convert src dst x => match P.underlying src, P.underlying dst, compO x with
    | some _, some (.int k), some x => some (.convInt k x)
    | some .string, some .string, some x => some (.convStr x)
    | some .string, some (.slice e), some x => match P.underlying e with
      | some (.int .i32) => some (.runes x)
      | _ => none
    | _, _, _ => none
  | .makeInterface t x => if P.concrete t then (compO x).map (.mkIface t) else none
  | .makeFunc (.func f) first cap => if first.size = 0 then (compOs cap.toList).map (.mkFn f) else none
  | .makeMap t none => some .mkMap
  | .lookup t x k ok => match P.underlying t, compO x, compO k with
    | some (.map kt et), some x, some k => match P.underlying kt, P.info? et with
      | some .string, some i => match i.zero with
        | some z => match zeroAV z with
          | some z => some (.lookup z ok x k)
          | none => none
        | none => none
      | _, _ => none
    | _, _, _ => none
  | .mapUpdate t x k u => match P.underlying t, compO x, compO k, compO u with
    | some (.map kt _), some x, some k, some u => match P.underlying kt with
      | some .string => some (.mapUpdate x k u)
      | _ => none
    | _, _, _, _ => none
  | .makeSlice t l c => match P.underlying t, compO l, compO c with
    | some (.slice e), some l, some c => match P.info? e with
      | some i => match i.zero with
        | some z => match toCells z.cells.toList with
          | some mz => if z.cells.size = i.size ∧ i.bytes ≠ 0 then some (.mkSlice mz i.bytes l c) else none
          | none => none
        | none => none
      | none => none
    | _, _, _ => none
  | .slice t x lo hi none => match P.underlying t, compO x, compOpt lo, compOpt hi with
    | some .string, some x, some lo, some hi => some (.sliceStr x lo hi)
    | some (.slice e), some x, some lo, some hi => (sizeT P e).map fun s => .sliceSlc s x lo hi
    | _, _, _, _ => none
  | .fieldAddr s x f => match P.underlying s, compO x with
    | some (.struct fs), some x => match fs[f]? with
      | some fd => match sizeT P fd.type with
        | some n => if n = 0 then none else some (.fieldAddr fd.offset x)
        | none => none
      | none => none
    | _, _ => none
  | .field s x f => match P.underlying s, compO x with
    | some (.struct fs), some x => match fs[f]? with
      | some fd => (aggT P fd.type).map fun agg => .field fd.offset agg x
      | none => none
    | _, _ => none
  | .indexAddr t x i => match P.underlying t, compO x, compO i with
    | some (.slice e), some x, some i => (sizeT P e).map fun s => .indexAddr s x i
    | some (.array n e), some x, some i => (sizeT P e).map fun s => .indexArr s n x i
    | _, _, _ => none
  | .index t x i => match P.underlying t, compO x, compO i with
    | some .string, some x, some i => some (.indexStr x i)
    | some (.array n e), some x, some i => match sizeT P e, aggT P e with
      | some s, some agg => some (.indexAgg s agg n x i)
      | _, _ => none
    | _, _, _ => none
  | .extract x i => (compO x).map (.extract i)
  | .range t x => if isStrT P t then (compO x).map .rangeStr else none
  | .next x true => (compO x).map .nextStr
  | .call { callee := .value f, args, .. } => match compO f, compOs args.toList with
    | some f, some args => some (.call f args)
    | _, _ => none
  | .call { callee := .builtin .len, args, argTypes } => match argTypes[0]?, args[0]?.bind compO with
    | some t, some x => match P.underlying t with
      | some .string => some (.lenStr x)
      | some (.slice _) => some (.lenSlc x)
      | some (.array n _) => some (.lenConst n)
      | some (.map _ _) => some (.lenMap x)
      | _ => none
    | _, _ => none
  | .call { callee := .builtin .delete, args, argTypes } => match argTypes[0]?, args[0]?.bind compO, args[1]?.bind compO with
    | some ty, some x, some k => match P.underlying ty with
      | some (.map kt _) => match P.underlying kt with
        | some .string => some (.mapDelete x k)
        | _ => none
      | _ => none
    | _, _, _ => none
  | .call { callee := .builtin .append, args, argTypes } => match argTypes[0]?, argTypes[1]?, args[0]?.bind compO, args[1]?.bind compO with
    | some t, some u, some s, some x => match P.underlying t, P.underlying u with
      | some (.slice e), some (.slice _) => (P.info? e).bind fun i => if i.size = 0 ∨ i.bytes = 0 then none else i.zero.bind fun z => if z.cells.size = i.size then some (.append i.size i.bytes s x) else none
      | _, _ => none
    | _, _, _, _ => none
  | .call { callee := .builtin .min, args, .. } => match args.toList.map compO with
    | [some x, some y] => some (.mini x y)
    | _ => none
  | .call { callee := .builtin .max, args, .. } => match args.toList.map compO with
    | [some x, some y] => some (.maxi x y)
    | _ => none
  | _ => none

def OpOK (P : Program) (o : Oper) (a : Act) (m : Emb) (h' : Heap) (base : Nat) (w0 w : World) (v : AV) : Prop :=
  ∃ m' w', m.le m' ∧ HR m' h' base w0 w' ∧ ((∃ cv, (execOp a.eval o).run P w = .ok (.value cv) w' ∧ VR m' v cv) ∨ ((execOp a.eval o).run P w = .ok .skip w' ∧ v = .undef))

section
variable {P : Program} {o : Oper} {a : Act} {m : Emb} {h : Heap} {base : Nat} {w0 w : World} {t : Tmps} {v : AV} {h' : Heap}

theorem OpOK.same (k : HR m h base w0 w) {cv : Value} (hr : (execOp a.eval o).run P w = .ok (.value cv) w) (hv : VR m v cv) : OpOK P o a m h base w0 w v :=
  ⟨m, w, Emb.le.refl m, k, .inl ⟨cv, hr, hv⟩⟩

theorem sound_move {x : Operand} {mx : MO} (ho : o.op = .move x ∨ o.op = .assign x) (hx : compO x = some mx) (ht : TR m t a.tmps) (k : HR m h base w0 w) (he : evalOp t h (.mov mx) = some (v, h')) :
    OpOK P o a m h' base w0 w v := by
  simp only [evalOp, Option.some.injEq, Prod.mk.injEq] at he
  obtain ⟨rfl, rfl⟩ := he
  refine OpOK.same k (cv := a.eval x) ?_ (compO_sound hx ht)
  rcases ho with ho | ho <;> simp [execOp, ho]

theorem sound_pick {c x y : Operand} {mc mx my : MO} (ho : o.op = .pick c x y) (hc : compO c = some mc) (hx : compO x = some mx) (hy : compO y = some my) (ht : TR m t a.tmps) (k : HR m h base w0 w) (he : evalOp t h (.pick mc mx my) = some (v, h')) :
    OpOK P o a m h' base w0 w v := by
  have vc := compO_sound hc ht
  simp only [evalOp] at he
  split at he
  · rename_i hb
    cases he
    rw [hb] at vc
    simp only [VR] at vc
    exact OpOK.same k (cv := a.eval x) (by simp [execOp, ho, vc, asBool]) (compO_sound hx ht)
  · rename_i hb
    cases he
    rw [hb] at vc
    simp only [VR] at vc
    exact OpOK.same k (cv := a.eval y) (by simp [execOp, ho, vc, asBool]) (compO_sound hy ht)
  · cases he

theorem push_arr (k : HR m h base w0 w) {c : List AV} {cs : Array Value} {ty : TypeId} {es : Nat} (hv : VRs m c cs.toList) (hc : ∀ x ∈ cs.toList, isCell x = true) :
    ∃ m', m.le m' ∧ HR m' (h ++ [.arr c es false]) base w0 (w.alloc (.cells cs ty)) ∧ m' h.length = some ⟨w.heap.size, 0, cs.size, es⟩ := by
  have hl := hv.length
  have hle : m.le (m.upd h.length ⟨w.heap.size, 0, cs.size, es⟩) := Emb.le_upd k.none_of_len
  refine ⟨m.upd h.length ⟨w.heap.size, 0, cs.size, es⟩, hle, k.push _ _ _ _ _ ?_, Emb.upd_same _ _ _⟩
  refine ⟨_, Emb.upd_same _ _ _, rfl, cs, ty, (0, 0), ?_, rfl, ?_, fun i v hi => ?_, fun _ => ⟨rfl, k.size⟩, fun hf => by cases hf⟩
  · show (w.heap.push _)[w.heap.size]? = _
    simp
  · show 0 + c.length ≤ cs.size
    have : cs.toList.length = cs.size := by simp
    omega
  · obtain ⟨cv, h1, h2⟩ := hv.get i v hi
    refine ⟨cv, ?_, VR.mono hle _ _ h2, hc cv (List.mem_of_getElem? h1)⟩
    show cs[0 + i]? = _
    rw [Nat.zero_add, ← Array.getElem?_toList]
    exact h1

theorem toCells_sound {l : List AV} : ∀ {vs : List Value}, toCells vs = some l → VRs m l vs ∧ ∀ c ∈ vs, isCell c = true := by
  intro vs hh
  unfold toCells at hh
  obtain ⟨h1, h2⟩ := allM_spec hh
  refine ⟨VRs.of_get h1.symm fun i x hx => ?_, fun c hc => ?_⟩
  · obtain ⟨v, hv, ha⟩ := h2 i x hx
    exact ⟨v, hv, (VR_toAV m 4 v x ha).1⟩
  · obtain ⟨i, hi⟩ := List.mem_iff_getElem?.1 hc
    have hil : i < l.length := by
      have := (List.getElem?_eq_some_iff.1 hi).1
      omega
    obtain ⟨v, hv, ha⟩ := h2 i _ (List.getElem?_eq_getElem hil)
    rw [hi] at hv
    cases hv
    exact (VR_toAV m 4 c _ ha).2

theorem zeroValue_run {ty : TypeId} {i : TypeInfo} {z : Value} (hi : P.info? ty = some i) (hz : i.zero = some z) : (zeroValue ty).run P w = .ok z w := by
  simp [zeroValue, typeInfo_run hi, hz]

theorem sound_alloc {ty : TypeId} {i : TypeInfo} {z : Value} {l : List AV} {es : Nat} (ho : o.op = .alloc ty) (hi : P.info? ty = some i) (hz : i.zero = some z) (hl : toCells z.cells.toList = some l)
    (k : HR m h base w0 w) (he : evalOp t h (.alloc l es) = some (v, h')) : OpOK P o a m h' base w0 w v := by
  simp only [evalOp, Option.some.injEq, Prod.mk.injEq] at he
  obtain ⟨rfl, rfl⟩ := he
  obtain ⟨hv, hc⟩ := toCells_sound (m := m) hl
  obtain ⟨m', hle, hk, hm⟩ := push_arr k (ty := ty) (es := es) hv hc
  refine ⟨m', _, hle, hk, .inl ⟨.pointer (some ⟨w.heap.size, 0, none⟩), ?_, ?_⟩⟩
  · simp [execOp, ho, Instr.alloc, zeroValue_run hi hz, newVar, newRow]
  · simp only [VR]
    exact ⟨_, hm, rfl⟩

theorem sound_newB {ty : TypeId} {i : TypeInfo} {z : Value} (ho : o.op = .alloc ty) (hi : P.info? ty = some i) (hz : i.zero = some z) (hl : isNils (toCells z.cells.toList) = true)
    (k : HR m h base w0 w) (he : evalOp t h (.copy (2 * ty) (.const .undef) (.const .undef)) = some (v, h')) : OpOK P o a m h' base w0 w v := by
  simp only [evalOp, MO.eval] at he
  cases hz0 : Nat.beq (2 * ty) 0 with
  | true => rw [hz0] at he; cases he
  | false =>
  rw [hz0] at he
  simp only [cond_false, Option.some.injEq, Prod.mk.injEq] at he
  obtain ⟨rfl, rfl⟩ := he
  have hl : toCells z.cells.toList = some [.nilptr, .nilslice] := by
    unfold isNils at hl
    split at hl
    · assumption
    · cases hl
  obtain ⟨hv, hc⟩ := toCells_sound (m := m) hl
  have hcs : z.cells = #[.pointer none, .slice none 0 0] := by
    simp only [VRs, VR] at hv
    obtain ⟨c1, l1, e1, rfl, c2, l2, rfl, rfl, rfl⟩ := hv
    exact Array.toList_inj.1 e1
  have hle : m.le (m.upd h.length ⟨w.heap.size, 0, 2, 2⟩) := Emb.le_upd k.none_of_len
  refine ⟨m.upd h.length ⟨w.heap.size, 0, 2, 2⟩, w.alloc (.cells z.cells ty), hle, k.push (.bld (2 * ty) .nilslice []) _ 0 2 2 ?_, .inl ⟨.pointer (some ⟨w.heap.size, 0, none⟩), ?_, ?_⟩⟩
  · refine ⟨_, Emb.upd_same _ _ _, k.size, rfl, z.cells, ?_, fun _ => ⟨_, _, hcs, .inl rfl, .inl ⟨rfl, rfl⟩⟩, fun hq => by rw [Nat.mul_mod_right] at hq; cases hq⟩
    have e2 : 2 * ty / 2 = ty := Nat.mul_div_cancel_left ty (by decide)
    rw [e2]
    show (w.heap.push _)[w.heap.size]? = _
    simp
  · simp [execOp, ho, Instr.alloc, zeroValue_run hi hz, newVar, newRow]
  · simp only [VR]
    exact ⟨_, Emb.upd_same _ _ _, rfl⟩

theorem sound_box {ty : TypeId} {x : Operand} {mx : MO} {n : Nat} (ho : o.op = .box ty x) (hx : compO x = some mx) (ht : TR m t a.tmps)
    (k : HR m h base w0 w) (he : evalOp t h (.box n mx) = some (v, h')) : OpOK P o a m h' base w0 w v := by
  simp only [evalOp] at he
  split at he
  · rename_i cs hcs
    split at he
    · cases he
      obtain ⟨hv, hc⟩ := cells_sound hcs (compO_sound hx ht)
      obtain ⟨m', hle, hk, hm⟩ := push_arr k (ty := ty) (es := n) hv hc
      refine ⟨m', _, hle, hk, .inl ⟨.pointer (some ⟨w.heap.size, 0, none⟩), ?_, ?_⟩⟩
      · simp [execOp, ho, Instr.box, newVar, newRow]
      · simp only [VR]
        exact ⟨_, hm, rfl⟩
    · cases he
  · cases he

theorem sound_load {ty : TypeId} {x : Operand} {mx : MO} {agg : Option Nat} (ho : o.op = .load ty x) (hagg : aggT P ty = some agg) (hx : compO x = some mx) (ht : TR m t a.tmps)
    (k : HR m h base w0 w) (he : evalOp t h (.load agg mx) = some (v, h')) : OpOK P o a m h' base w0 w v := by
  have vx := compO_sound hx ht
  simp only [evalOp] at he
  split at he
  · rename_i b off hb
    simp only [Option.map_eq_some_iff, Prod.mk.injEq] at he
    obtain ⟨v1, hr, rfl, rfl⟩ := he
    rw [hb] at vx
    obtain ⟨ad, cv, hp, hrun, hv⟩ := loadVar_sound k hagg hr vx
    refine OpOK.same k (cv := cv) ?_ hv
    simp [execOp, ho, Instr.loadAt, hp, Instr.sureAddr, hrun]
  · cases he

theorem sound_store {ty : TypeId} {x y : Operand} {mx my : MO} {n : Nat} (ho : o.op = .store ty x y) (hn : sizeT P ty = some n) (hx : compO x = some mx) (hy : compO y = some my) (ht : TR m t a.tmps)
    (k : HR m h base w0 w) (he : evalOp t h (.store n mx my) = some (v, h')) : OpOK P o a m h' base w0 w v := by
  have vx := compO_sound hx ht
  have vy := compO_sound hy ht
  simp only [evalOp] at he
  split at he
  · rename_i b off hb
    split at he
    · rename_i cs hcs
      split at he
      · rename_i hlen
        simp only [Option.map_eq_some_iff, Prod.mk.injEq] at he
        obtain ⟨h1, hw, rfl, rfl⟩ := he
        rw [hb] at vx
        simp only [VR] at vx
        obtain ⟨e, hm, hp⟩ := vx
        obtain ⟨hv, hc⟩ := cells_sound hcs vy
        obtain ⟨w', hrun, hk⟩ := wrCells_sound (P := P) k hw hv hc hm
        simp only [sizeT, Option.map_eq_some_iff] at hn
        obtain ⟨i, hi, hn⟩ := hn
        have hsz : (a.eval y).cells.size = i.size := by
          have := hv.length
          simp at this
          omega
        refine ⟨m, w', Emb.le.refl m, hk, .inr ⟨?_, rfl⟩⟩
        simp [execOp, ho, Instr.storeAt, hp, Instr.sureAddr, storeVar, sizeOf_run hi, hsz, hrun]
      · cases he
    · cases he
  · cases he

theorem sound_nilCheck {x : Operand} {mx : MO} (ho : o.op = .nilCheck x) (hx : compO x = some mx) (ht : TR m t a.tmps)
    (k : HR m h base w0 w) (he : evalOp t h (.nilCheck mx) = some (v, h')) : OpOK P o a m h' base w0 w v := by
  have vx := compO_sound hx ht
  simp only [evalOp] at he
  split at he
  · rename_i b off hb
    cases he
    rw [hb] at vx
    have vx' := vx
    simp only [VR] at vx
    obtain ⟨e, hm, hp⟩ := vx
    refine OpOK.same k (cv := a.eval x) ?_ vx'
    simp [execOp, ho, hp]
  · cases he

theorem sound_fieldAddr {s : TypeId} {x : Operand} {mx : MO} {f : Nat} {fs : Array Field} {fd : Field} {n : Nat} (ho : o.op = .fieldAddr s x f) (hu : P.underlying s = some (.struct fs)) (hf : fs[f]? = some fd) (hn : sizeT P fd.type = some n) (hn0 : n ≠ 0)
    (hx : compO x = some mx) (ht : TR m t a.tmps) (k : HR m h base w0 w) (he : evalOp t h (.fieldAddr fd.offset mx) = some (v, h')) : OpOK P o a m h' base w0 w v := by
  have vx := compO_sound hx ht
  simp only [evalOp] at he
  split at he
  · rename_i b off hb
    cases he
    rw [hb] at vx
    simp only [VR] at vx
    obtain ⟨e, hm, hp⟩ := vx
    simp only [sizeT, Option.map_eq_some_iff] at hn
    obtain ⟨i, hi, rfl⟩ := hn
    refine OpOK.same k (cv := .pointer (some ⟨e.g, e.off + off + fd.offset, none⟩)) ?_ ?_
    · simp [execOp, ho, Instr.fieldAt, run_underlying hu, hf, hp, Instr.sureAddr, fieldPlace, sizeOf_run hi, hn0, add_at]
    · simp only [VR]
      exact ⟨e, hm, by rw [Nat.add_assoc]⟩
  · cases he

theorem partOf_sound {ty : TypeId} {agg : Option Nat} (hagg : aggT P ty = some agg) {l : List AV} {cs : Array Value} (hl : VRs m l cs.toList) (hc : ∀ c ∈ cs.toList, isCell c = true) {off : Nat} (hp : partOf agg l off = some v) :
    ∃ cv, (part ty cs off).run P w = .ok cv w ∧ VR m v cv := by
  unfold aggT at hagg
  split at hagg
  · rename_i d i hu hi
    simp only [Option.some.injEq] at hagg
    cases hd : isAggD d with
    | true =>
      simp only [hd, if_true] at hagg
      subst hagg
      simp only [partOf] at hp
      split at hp
      · rename_i hlen
        cases hp
        refine ⟨.agg (cs.extract off (off + i.size)), ?_, ?_⟩
        · simp [part, isAgg_run hu, hd, sizeOf_run hi]
        · simp only [VR]
          have hx : (cs.extract off (off + i.size)).toList = (cs.toList.drop off).take i.size := by
            simp [Array.toList_extract, List.extract_eq_take_drop]
          refine ⟨_, rfl, ?_, fun c hcm => hc c ?_⟩
          · rw [hx]; exact (hl.drop off).take i.size
          · rw [hx] at hcm
            exact List.mem_of_mem_drop (List.mem_of_mem_take hcm)
      · cases hp
    | false =>
      simp only [hd, Bool.false_eq_true, if_false] at hagg
      subst hagg
      simp only [partOf] at hp
      obtain ⟨cv, h1, h2⟩ := hl.get off v hp
      refine ⟨cv, ?_, h2⟩
      have h1' : cs[off]? = some cv := by simpa using h1
      simp [part, isAgg_run hu, hd, h1']
  · cases hagg

theorem sound_field {s : TypeId} {x : Operand} {mx : MO} {f : Nat} {fs : Array Field} {fd : Field} {agg : Option Nat} (ho : o.op = .field s x f) (hu : P.underlying s = some (.struct fs)) (hf : fs[f]? = some fd) (hagg : aggT P fd.type = some agg)
    (hx : compO x = some mx) (ht : TR m t a.tmps) (k : HR m h base w0 w) (he : evalOp t h (.field fd.offset agg mx) = some (v, h')) : OpOK P o a m h' base w0 w v := by
  have vx := compO_sound hx ht
  simp only [evalOp] at he
  split at he
  · rename_i l hb
    simp only [Option.map_eq_some_iff, Prod.mk.injEq] at he
    obtain ⟨v1, hp, rfl, rfl⟩ := he
    rw [hb] at vx
    simp only [VR] at vx
    obtain ⟨cs, hcv, hl, hc⟩ := vx
    obtain ⟨cv, hrun, hv⟩ := partOf_sound (w := w) hagg hl hc hp
    refine OpOK.same k (cv := cv) ?_ hv
    simp [execOp, ho, Instr.field, run_underlying hu, hf, hcv, asAgg, hrun]
  · cases he

theorem sound_indexAddr {ty e : TypeId} {x i : Operand} {mx mi : MO} {s : Nat} (ho : o.op = .indexAddr ty x i) (hu : P.underlying ty = some (.slice e)) (hs : sizeT P e = some s)
    (hx : compO x = some mx) (hi : compO i = some mi) (ht : TR m t a.tmps) (k : HR m h base w0 w) (he : evalOp t h (.indexAddr s mx mi) = some (v, h')) : OpOK P o a m h' base w0 w v := by
  have vx := compO_sound hx ht
  have vi := compO_sound hi ht
  simp only [evalOp] at he
  split at he
  · rename_i b off n kk j hb hj
    split at he
    · rename_i hj2
      cases he
      rw [hb] at vx
      rw [hj] at vi
      simp only [VR] at vx vi
      obtain ⟨ent, hm, hp⟩ := vx
      simp only [sizeT, Option.map_eq_some_iff] at hs
      obtain ⟨ti, hti, rfl⟩ := hs
      rcases hp with ⟨c, hp, _, _⟩ | ⟨hn0, _⟩
      · refine OpOK.same k (cv := .pointer (some ⟨ent.g, ent.off + off + j.toNat * ti.size, none⟩)) ?_ ?_
        · simp [execOp, ho, Instr.indexAt, vi, asIntOf, run_underlying hu, hp, hj2, sizeOf_run hti, add_at]
        · simp only [VR]
          exact ⟨ent, hm, by rw [Nat.add_assoc]⟩
      · omega
    · cases he
  · cases he

theorem sound_indexArr {ty e : TypeId} {x i : Operand} {mx mi : MO} {s n : Nat} (ho : o.op = .indexAddr ty x i) (hu : P.underlying ty = some (.array n e)) (hs : sizeT P e = some s)
    (hx : compO x = some mx) (hi : compO i = some mi) (ht : TR m t a.tmps) (k : HR m h base w0 w) (he : evalOp t h (.indexArr s n mx mi) = some (v, h')) : OpOK P o a m h' base w0 w v := by
  have vx := compO_sound hx ht
  have vi := compO_sound hi ht
  simp only [evalOp] at he
  split at he
  · rename_i b off kk j hb hj
    split at he
    · rename_i hj2
      cases he
      rw [hb] at vx
      rw [hj] at vi
      simp only [VR] at vx vi
      obtain ⟨ent, hm, hp⟩ := vx
      simp only [sizeT, Option.map_eq_some_iff] at hs
      obtain ⟨ti, hti, rfl⟩ := hs
      refine OpOK.same k (cv := .pointer (some ⟨ent.g, ent.off + off + j.toNat * ti.size, none⟩)) ?_ ?_
      · simp [execOp, ho, Instr.indexAt, vi, asIntOf, run_underlying hu, hp, Instr.sureAddr, hj2, sizeOf_run hti, add_at]
      · simp only [VR]
        exact ⟨ent, hm, by rw [Nat.add_assoc]⟩
    · cases he
  · cases he

theorem sound_indexStr {ty : TypeId} {x i : Operand} {mx mi : MO} (ho : o.op = .index ty x i) (hu : P.underlying ty = some .string)
    (hx : compO x = some mx) (hi : compO i = some mi) (ht : TR m t a.tmps) (k : HR m h base w0 w) (he : evalOp t h (.indexStr mx mi) = some (v, h')) : OpOK P o a m h' base w0 w v := by
  have vx := compO_sound hx ht
  have vi := compO_sound hi ht
  simp only [evalOp] at he
  split at he
  · rename_i s kk j hb hj
    split at he
    · rename_i hj2
      simp only [Option.map_eq_some_iff, Prod.mk.injEq] at he
      obtain ⟨c, hc, rfl, rfl⟩ := he
      rw [hb] at vx
      rw [hj] at vi
      simp only [VR] at vx vi
      have hlt : j.toNat < s.length := (List.getElem?_eq_some_iff.1 hc).1
      have hg : (⟨s.toArray⟩ : ByteArray)[j.toNat]? = some c := by
        have : (⟨s.toArray⟩ : ByteArray).size = s.length := by simp [ByteArray.size]
        rw [getElem?_pos _ _ (by omega)]
        have h2 := (List.getElem?_eq_some_iff.1 hc).2
        rw [← h2]
        rfl
      refine OpOK.same k (cv := .int .u8 c.toNat) ?_ (by simp [VR])
      simp [execOp, ho, Instr.index, vi, asIntOf, run_underlying hu, vx, hj2, hg]
    · cases he
  · cases he

theorem sound_indexAgg {ty e : TypeId} {x i : Operand} {mx mi : MO} {s n : Nat} {agg : Option Nat} (ho : o.op = .index ty x i) (hu : P.underlying ty = some (.array n e)) (hs : sizeT P e = some s) (hagg : aggT P e = some agg)
    (hx : compO x = some mx) (hi : compO i = some mi) (ht : TR m t a.tmps) (k : HR m h base w0 w) (he : evalOp t h (.indexAgg s agg n mx mi) = some (v, h')) : OpOK P o a m h' base w0 w v := by
  have vx := compO_sound hx ht
  have vi := compO_sound hi ht
  simp only [evalOp] at he
  split at he
  · rename_i l kk j hb hj
    split at he
    · rename_i hj2
      simp only [Option.map_eq_some_iff, Prod.mk.injEq] at he
      obtain ⟨v1, hp, rfl, rfl⟩ := he
      rw [hb] at vx
      rw [hj] at vi
      simp only [VR] at vx vi
      obtain ⟨cs, hcv, hl, hc⟩ := vx
      simp only [sizeT, Option.map_eq_some_iff] at hs
      obtain ⟨ti, hti, rfl⟩ := hs
      obtain ⟨cv, hrun, hv⟩ := partOf_sound (w := w) hagg hl hc hp
      refine OpOK.same k (cv := cv) ?_ hv
      simp [execOp, ho, Instr.index, vi, asIntOf, run_underlying hu, hcv, hj2, sizeOf_run hti, hrun]
    · cases he
  · cases he

theorem sound_extract {x : Operand} {mx : MO} {i : Nat} (ho : o.op = .extract x i) (hx : compO x = some mx) (ht : TR m t a.tmps) (k : HR m h base w0 w) (he : evalOp t h (.extract i mx) = some (v, h')) : OpOK P o a m h' base w0 w v := by
  have vx := compO_sound hx ht
  simp only [evalOp] at he
  split at he
  · rename_i l hb
    simp only [Option.map_eq_some_iff, Prod.mk.injEq] at he
    obtain ⟨v1, hp, rfl, rfl⟩ := he
    rw [hb] at vx
    simp only [VR] at vx
    obtain ⟨cs, hcv, hl⟩ := vx
    obtain ⟨cv, h1, h2⟩ := hl.get i v1 hp
    have h1' : cs[i]? = some cv := by simpa using h1
    exact OpOK.same k (cv := cv) (by simp [execOp, ho, Instr.extract, hcv, h1']) h2
  · cases he
end
end Go.Abs

set_option linter.unusedVariables false
set_option linter.unusedSimpArgs false
namespace Go.Abs
open Go.RowKit
section
variable {P : Program} {o : Oper} {a : Act} {m : Emb} {h : Heap} {base : Nat} {w0 w : World} {t : Tmps} {v : AV} {h' : Heap}

theorem ba_toList (l : List UInt8) : (⟨l.toArray⟩ : ByteArray).toList = l := by rw [ByteArray.toList_eq]
theorem ba_size (l : List UInt8) : (⟨l.toArray⟩ : ByteArray).size = l.length := by simp [ByteArray.size]
theorem ba_append (x y : List UInt8) : (⟨x.toArray⟩ : ByteArray) ++ ⟨y.toArray⟩ = ⟨(x ++ y).toArray⟩ := by
  apply ByteArray.ext
  simp
theorem ba_eq (x y : List UInt8) : ((⟨x.toArray⟩ : ByteArray) == ⟨y.toArray⟩) = (x == y) := by rw [beq_toListBytes, ba_toList, ba_toList]

theorem intBin_sound {op : BinOp} {k : IntKind} {x y : Int} (hv : intBin op k x y = some v) {ty : TypeId} :
    ∃ cv, (binOp op ty (.int k x) (.int k y)).run P w = .ok cv w ∧ VR m v cv := by
  cases op <;> simp only [intBin, Option.some.injEq, reduceCtorEq] at hv
  case quo =>
    split at hv
    · cases hv
    · rename_i h0
      cases hv
      exact ⟨.int k (k.wrap (x.tdiv y)), by simp [binOp, Op.intDiv, h0], by simp only [VR]⟩
  case rem =>
    split at hv
    · cases hv
    · rename_i h0
      cases hv
      exact ⟨.int k (x.tmod y), by simp [binOp, Op.intDiv, h0], by simp only [VR]⟩
  case add => subst hv; exact ⟨.int k (k.wrap (x + y)), by simp [binOp, Op.intArith], by simp only [VR]⟩
  case sub => subst hv; exact ⟨.int k (k.wrap (x - y)), by simp [binOp, Op.intArith], by simp only [VR]⟩
  case mul => subst hv; exact ⟨.int k (k.wrap (x * y)), by simp [binOp, Op.intArith], by simp only [VR]⟩
  case and => subst hv; exact ⟨.int k (k.wrap (BitVec.ofInt k.bits x &&& BitVec.ofInt k.bits y).toNat), by simp [binOp, Op.intBits], by simp only [VR]⟩
  case or => subst hv; exact ⟨.int k (k.wrap (BitVec.ofInt k.bits x ||| BitVec.ofInt k.bits y).toNat), by simp [binOp, Op.intBits], by simp only [VR]⟩
  case xor => subst hv; exact ⟨.int k (k.wrap (BitVec.ofInt k.bits x ^^^ BitVec.ofInt k.bits y).toNat), by simp [binOp, Op.intBits], by simp only [VR]⟩
  case andNot => subst hv; exact ⟨.int k (k.wrap (BitVec.ofInt k.bits x &&& ~~~ BitVec.ofInt k.bits y).toNat), by simp [binOp, Op.intBits], by simp only [VR]⟩
  case eql => subst hv; exact ⟨.bool (x == y), by simp [binOp, Op.intCmp], by simp only [VR]⟩
  case neq => subst hv; exact ⟨.bool (x != y), by simp [binOp, Op.intCmp], by simp only [VR]⟩
  case lss => subst hv; exact ⟨.bool (decide (x < y)), by simp [binOp, Op.intCmp], by simp only [VR]⟩
  case leq => subst hv; exact ⟨.bool (decide (x ≤ y)), by simp [binOp, Op.intCmp], by simp only [VR]⟩
  case gtr => subst hv; exact ⟨.bool (decide (x > y)), by simp [binOp, Op.intCmp], by simp only [VR]⟩
  case geq => subst hv; exact ⟨.bool (decide (x ≥ y)), by simp [binOp, Op.intCmp], by simp only [VR]⟩

theorem shift_sound {op : BinOp} {k k' : IntKind} {x y : Int} (hv : shiftOp op k x y = some v) {ty : TypeId} :
    ∃ cv, (binOp op ty (.int k x) (.int k' y)).run P w = .ok cv w ∧ VR m v cv := by
  unfold shiftOp at hv
  split at hv
  · cases hv
  · rename_i h0
    cases op <;> simp only [Option.some.injEq, reduceCtorEq] at hv
    · subst hv
      exact ⟨.int k (k.wrap (x * 2 ^ (min y.toNat k.bits))), by simp [binOp, Op.shift, h0], by simp only [VR]⟩
    · subst hv
      exact ⟨.int k (x.fdiv (2 ^ (min y.toNat k.bits))), by simp [binOp, Op.shift, h0], by simp only [VR]⟩

theorem strBin_sound {op : BinOp} {x y : List UInt8} (hv : strBin op x y = some v) {ty : TypeId} :
    ∃ cv, (binOp op ty (.string ⟨x.toArray⟩) (.string ⟨y.toArray⟩)).run P w = .ok cv w ∧ VR m v cv := by
  have e : IntKind.i64.max = 9223372036854775807 := by decide
  cases op <;> simp only [strBin, Option.some.injEq, reduceCtorEq] at hv
  case add =>
    split at hv
    · cases hv
    · rename_i h0
      cases hv
      refine ⟨.string ⟨(x ++ y).toArray⟩, ?_, by simp only [VR]⟩
      have : ¬ (((⟨x.toArray⟩ : ByteArray).size + (⟨y.toArray⟩ : ByteArray).size : Nat) : Int) > IntKind.i64.max := by
        rw [ba_size, ba_size, e]; exact h0
      simp only [binOp, Op.stringOp, ba_append]
      rw [if_neg this]
      rfl
  case eql => subst hv; exact ⟨.bool (x == y), by simp [binOp, Op.stringOp, ba_toList], by simp only [VR]⟩
  case neq => subst hv; exact ⟨.bool (!(x == y)), by simp [binOp, Op.stringOp, ba_toList], by simp only [VR]⟩
  case lss => subst hv; exact ⟨.bool (Op.bytesLess x y), by simp [binOp, Op.stringOp, ba_toList], by simp only [VR]⟩
  case leq => subst hv; exact ⟨.bool (Op.bytesLess x y || x == y), by simp [binOp, Op.stringOp, ba_toList], by simp only [VR]⟩
  case gtr => subst hv; exact ⟨.bool (!(Op.bytesLess x y || x == y)), by simp [binOp, Op.stringOp, ba_toList], by simp only [VR]⟩
  case geq => subst hv; exact ⟨.bool (!(Op.bytesLess x y)), by simp [binOp, Op.stringOp, ba_toList], by simp only [VR]⟩

theorem eqGuard_num {op : BinOp} {ty : TypeId} {x y : Operand} {u u' : Value} (hu : isCell u = true) (hn : u ≠ .nilIface) : (eqGuard op ty x y u u').run P w = .ok () w := by
  unfold eqGuard
  cases u <;> first
    | (simp [isCell] at hu; done)
    | (exact absurd rfl hn)
    | (cases op <;> rfl)

theorem sound_bin {op : BinOp} {ty ty' : TypeId} {x y : Operand} {mx my : MO} (ho : o.op = .binOp op ty x y ty') (hx : compO x = some mx) (hy : compO y = some my) (ht : TR m t a.tmps)
    (k : HR m h base w0 w) (he : evalOp t h (.bin op mx my) = some (v, h')) : OpOK P o a m h' base w0 w v := by
  have vx := compO_sound hx ht
  have vy := compO_sound hy ht
  simp only [evalOp, Option.map_eq_some_iff, Prod.mk.injEq] at he
  obtain ⟨v1, hb, rfl, rfl⟩ := he
  unfold binAV at hb
  split at hb
  · rename_i kx ax ky ay ex ey
    rw [ex] at vx
    rw [ey] at vy
    simp only [VR] at vx vy
    have hrun : ∃ cv, (binOp op ty (.int kx ax) (.int ky ay)).run P w = .ok cv w ∧ VR m v1 cv := by
      split at hb
      · exact shift_sound hb
      · exact shift_sound hb
      · split at hb
        · rename_i hk
          subst hk
          exact intBin_sound hb
        · cases hb
    obtain ⟨cv, hr, hv⟩ := hrun
    refine OpOK.same k (cv := cv) ?_ hv
    simp [execOp, ho, vx, vy, eqGuard_num (P := P) (w := w) (u := .int kx ax) rfl (by simp), hr]
  · rename_i ax ay ex ey
    rw [ex] at vx
    rw [ey] at vy
    simp only [VR] at vx vy
    obtain ⟨cv, hr, hv⟩ := strBin_sound (P := P) (m := m) (w := w) (ty := ty) hb
    refine OpOK.same k (cv := cv) ?_ hv
    simp [execOp, ho, vx, vy, eqGuard_num (P := P) (w := w) (u := .string ⟨ax.toArray⟩) rfl (by simp), hr]
  · cases hb

theorem isNegOp_spec {op : BinOp} {neg : Bool} (hn : isNegOp op = some neg) : (op = .eql ∧ neg = false) ∨ (op = .neq ∧ neg = true) := by
  cases op <;> simp_all [isNegOp]

theorem valEq_sound {kk : EqK} {x y : AV} {cx cy : Value} {r : Bool} (hx : VR m x cx) (hy : VR m y cy) (hv : valEq kk x y = some r) {ty : TypeId} (hk : eqKind P ty = some kk) :
    (Op.equal ty cx cy).run P w = .ok r w ∧ isCell cx = true ∧ cx ≠ .nilIface := by
  unfold eqKind at hk
  obtain ⟨d, hd⟩ : ∃ d, ∀ x y, Op.equal ty x y = Op.equalIn (d + 1) ty x y := ⟨9999, fun _ _ => rfl⟩
  rw [hd]
  unfold valEq at hv
  split at hv <;> (try cases hv) <;> split at hk <;> (try cases hk) <;> rename_i hu <;> simp only [VR] at hx hy
  all_goals first
    | (subst hx; subst hy; refine ⟨?_, rfl, by simp⟩; simp [Op.equalIn, run_underlying hu]; done)
    | (subst hx; obtain ⟨e, _, rfl⟩ := hy; refine ⟨?_, rfl, by simp⟩; simp [Op.equalIn, run_underlying hu]; done)
    | (subst hy; obtain ⟨e, _, rfl⟩ := hx; refine ⟨?_, rfl, by simp⟩; simp [Op.equalIn, run_underlying hu]; done)
    | (subst hx; obtain ⟨cs, rfl, _⟩ := hy; refine ⟨?_, rfl, by simp⟩; simp [Op.equalIn, run_underlying hu]; done)
    | (subst hy; obtain ⟨cs, rfl, _⟩ := hx; refine ⟨?_, rfl, by simp⟩; simp [Op.equalIn, run_underlying hu]; done)
    | (subst hx; obtain ⟨e, _, ⟨c, rfl, _⟩ | ⟨_, b, rfl⟩⟩ := hy <;> (refine ⟨?_, rfl, by simp⟩; simp [Op.equalIn, run_underlying hu]; done))
    | (subst hy; obtain ⟨e, _, ⟨c, rfl, _⟩ | ⟨_, b, rfl⟩⟩ := hx <;> (refine ⟨?_, rfl, by simp⟩; simp [Op.equalIn, run_underlying hu]; done))

theorem binOp_eq {op : BinOp} {neg : Bool} (hn : isNegOp op = some neg) {ty : TypeId} {cx cy : Value} {r : Bool} (hr : (Op.equal ty cx cy).run P w = .ok r w)
    (h1 : ∀ k n, cx ≠ .int k n) (h2 : ∀ s, cx ≠ .string s) (h3 : ∀ k n, cx ≠ .float k n) (h4 : ∀ k n i, cx ≠ .complex k n i) : (binOp op ty cx cy).run P w = .ok (.bool (r != neg)) w := by
  rcases isNegOp_spec hn with ⟨rfl, rfl⟩ | ⟨rfl, rfl⟩
  · have : binOp .eql ty cx cy = (do pure (.bool (← Op.equal ty cx cy))) := by
      cases cx <;> first | rfl | (exact absurd rfl (h1 _ _)) | (exact absurd rfl (h2 _)) | (exact absurd rfl (h3 _ _)) | (exact absurd rfl (h4 _ _ _))
    rw [this]
    simp [hr]
  · have : binOp .neq ty cx cy = (do pure (.bool (!(← Op.equal ty cx cy)))) := by
      cases cx <;> first | rfl | (exact absurd rfl (h1 _ _)) | (exact absurd rfl (h2 _)) | (exact absurd rfl (h3 _ _)) | (exact absurd rfl (h4 _ _ _))
    rw [this]
    simp [hr]

theorem sound_eqv {op : BinOp} {ty ty' : TypeId} {x y : Operand} {mx my : MO} {kk : EqK} {neg : Bool} (ho : o.op = .binOp op ty x y ty') (hk : eqKind P ty = some kk) (hn : isNegOp op = some neg) (hx : compO x = some mx) (hy : compO y = some my) (ht : TR m t a.tmps)
    (k : HR m h base w0 w) (he : evalOp t h (.eqv kk neg mx my) = some (v, h')) : OpOK P o a m h' base w0 w v := by
  have vx := compO_sound hx ht
  have vy := compO_sound hy ht
  simp only [evalOp, Option.map_eq_some_iff, Prod.mk.injEq] at he
  obtain ⟨r, hb, rfl, rfl⟩ := he
  obtain ⟨hr, hc, hni⟩ := valEq_sound (w := w) vx vy hb hk
  have hkind : (∀ k n, a.eval x ≠ .int k n) ∧ (∀ s, a.eval x ≠ .string s) ∧ (∀ k n, a.eval x ≠ .float k n) ∧ (∀ k n i, a.eval x ≠ .complex k n i) := by
    unfold valEq at hb
    split at hb <;> (try cases hb) <;> rename_i e1 e2 <;> rw [e1] at vx <;> simp only [VR] at vx
    all_goals first
      | (rw [vx]; simp; done)
      | (obtain ⟨cs, hv, _⟩ := vx; rw [hv]; simp; done)
      | (obtain ⟨e, _, hv⟩ := vx; rw [hv]; simp; done)
      | (obtain ⟨e, _, ⟨c, hv, _⟩ | ⟨_, b, hv⟩⟩ := vx <;> (rw [hv]; simp; done))
  refine OpOK.same k (cv := .bool (r != neg)) ?_ (by simp only [VR])
  simp [execOp, ho, eqGuard_num (P := P) (w := w) hc hni, binOp_eq hn hr hkind.1 hkind.2.1 hkind.2.2.1 hkind.2.2.2]
end
end Go.Abs

set_option linter.unusedVariables false
set_option linter.unusedSimpArgs false
namespace Go.Abs
open Go.RowKit

theorem cksEq_append : ∀ {k1 k2 : List CK} {a b : List AV} {r : Bool}, cksEq (k1 ++ k2) a b = some r → ∃ r1 r2, cksEq k1 a b = some r1 ∧ cksEq k2 (a.drop k1.length) (b.drop k1.length) = some r2 ∧ r = (r1 && r2)
  | [], k2, a, b, r, h => ⟨true, r, by simp [cksEq], by simpa using h, by simp⟩
  | k :: k1, k2, [], b, r, h => by simp [cksEq] at h
  | k :: k1, k2, a :: as, [], r, h => by simp [cksEq] at h
  | k :: k1, k2, a :: as, b :: bs, r, h => by
    simp only [List.cons_append, cksEq] at h
    split at h
    · rename_i x y hx hy
      cases h
      obtain ⟨r1, r2, h1, h2, h3⟩ := cksEq_append hy
      exact ⟨x && r1, r2, by simp [cksEq, hx, h1], by simpa using h2, by rw [h3, Bool.and_assoc]⟩
    · cases h

theorem cksEq_take : ∀ {ks : List CK} {a b : List AV}, cksEq ks (a.take ks.length) (b.take ks.length) = cksEq ks a b
  | [], a, b => by simp [cksEq]
  | k :: ks, [], b => by simp [cksEq]
  | k :: ks, a :: as, [] => by simp [cksEq]
  | k :: ks, a :: as, b :: bs => by simp [cksEq, cksEq_take (ks := ks)]

section
variable {P : Program} {m : Emb} {w : World}

theorem ck_cell {k : CK} {l1 l2 : List AV} {off : Nat} {r : Bool} (h : cksEq [k] (l1.drop off) (l2.drop off) = some r) : ∃ a b, l1[off]? = some a ∧ l2[off]? = some b ∧ ckEq k a b = some r := by
  cases h1 : l1.drop off with
  | nil => rw [h1] at h; simp [cksEq] at h
  | cons a as =>
    cases h2 : l2.drop off with
    | nil => rw [h1, h2] at h; simp [cksEq] at h
    | cons b bs =>
      rw [h1, h2] at h
      simp only [cksEq] at h
      split at h
      · rename_i x y hx hy
        cases hy
        cases h
        refine ⟨a, b, ?_, ?_, by simpa using hx⟩
        · have := congrArg (·[0]?) h1
          simpa using this
        · have := congrArg (·[0]?) h2
          simpa using this
      · cases h

theorem part_cell {ty : TypeId} {d : TypeDesc} (hu : P.underlying ty = some d) (hd : isAggD d = false) {cs : Array Value} {off : Nat} {c : Value} (hc : cs[off]? = some c) : (part ty cs off).run P w = .ok c w := by
  simp [part, isAgg_run hu, hd, hc]

theorem ck_sound : ∀ (d : Nat) {t : TypeId} {ks : List CK}, ckT P d t = some ks → ∀ {cs1 cs2 : Array Value} {l1 l2 : List AV}, VRs m l1 cs1.toList → VRs m l2 cs2.toList → ∀ {off : Nat} {r : Bool}, cksEq ks (l1.drop off) (l2.drop off) = some r →
    ∃ c1 c2, (part t cs1 off).run P w = .ok c1 w ∧ (part t cs2 off).run P w = .ok c2 w ∧ (∀ D, d ≤ D → (Op.equalIn D t c1 c2).run P w = .ok r w) ∧ ∀ fs, P.underlying t = some (.struct fs) → off = 0 → ∀ D, d ≤ D → (Op.equalIn D t (.agg cs1) (.agg cs2)).run P w = .ok r w := by
  intro d
  induction d with
  | zero => intro t ks h; simp [ckT] at h
  | succ d ih =>
    intro t ks h cs1 cs2 l1 l2 v1 v2 off r hr
    have fields : ∀ {fs : List Field} {off : Nat} {ks : List CK}, ckFs (ckT P d) off fs = some ks → ∀ {xs ys : Array Value} {a b : List AV}, VRs m a xs.toList → VRs m b ys.toList → ∀ {r : Bool}, cksEq ks (a.drop off) (b.drop off) = some r → ∀ D, d ≤ D → (Op.eqFields D xs ys fs).run P w = .ok r w := by
      intro fs
      induction fs with
      | nil =>
        intro off ks hk xs ys a b va vb r hr D hD
        simp only [ckFs, Option.some.injEq] at hk
        subst hk
        simp only [cksEq, Option.some.injEq] at hr
        subst hr
        simp [Op.eqFields]
      | cons f fs ihf =>
        intro off ks hk xs ys a b va vb r hr D hD
        simp only [ckFs] at hk
        split at hk
        · rename_i hc
          simp only [Bool.and_eq_true, bne_iff_ne, ne_eq, beq_iff_eq] at hc
          split at hk
          · rename_i k1 hk1
            simp only [Option.map_eq_some_iff] at hk
            obtain ⟨k2, hk2, rfl⟩ := hk
            obtain ⟨r1, r2, e1, e2, rfl⟩ := cksEq_append hr
            obtain ⟨c1, c2, p1, p2, pe, _⟩ := ih hk1 va vb e1
            rw [List.drop_drop, List.drop_drop] at e2
            have rest := ihf hk2 va vb e2 D hD
            simp only [Op.eqFields]
            rw [if_pos hc.1, hc.2]
            simp only [Sem.run_bind, p1, p2, pe D hD, Result.andThen_ok]
            cases r1 with
            | true => simpa using rest
            | false => simp
          · cases hk
        · cases hk
    have scal : ∀ {k : CK} {dd : TypeDesc}, P.underlying t = some dd → isAggD dd = false → cksEq [k] (l1.drop off) (l2.drop off) = some r → (∀ (a b : AV) (c1 c2 : Value), ckEq k a b = some r → VR m a c1 → VR m b c2 → ∀ D, (Op.equalIn (D + 1) t c1 c2).run P w = .ok r w) →
        ∃ c1 c2, (part t cs1 off).run P w = .ok c1 w ∧ (part t cs2 off).run P w = .ok c2 w ∧ (∀ D, d + 1 ≤ D → (Op.equalIn D t c1 c2).run P w = .ok r w) ∧ ∀ fs, P.underlying t = some (.struct fs) → off = 0 → ∀ D, d + 1 ≤ D → (Op.equalIn D t (.agg cs1) (.agg cs2)).run P w = .ok r w := by
      intro k dd hu hd hr key
      obtain ⟨a, b, g1, g2, g3⟩ := ck_cell hr
      obtain ⟨c1, e1, w1⟩ := v1.get off a g1
      obtain ⟨c2, e2, w2⟩ := v2.get off b g2
      refine ⟨c1, c2, part_cell hu hd (by simpa using e1), part_cell hu hd (by simpa using e2), fun D hD => ?_, fun fs hfs => ?_⟩
      · obtain ⟨D, rfl⟩ : ∃ D', D = D' + 1 := ⟨D - 1, by omega⟩
        exact key a b c1 c2 g3 w1 w2 D
      · rw [hu] at hfs
        cases hfs
        simp [isAggD] at hd
    simp only [ckT] at h
    split at h
    · rename_i hu
      cases h
      refine scal hu rfl hr fun a b c1 c2 hk h1 h2 D => ?_
      cases a <;> (try (simp [ckEq] at hk; done))
      cases b <;> (try (simp [ckEq] at hk; done))
      simp only [ckEq, Option.some.injEq] at hk
      simp only [VR] at h1 h2
      subst h1 h2 hk
      exact run_equalIn_bool w D t _ _ hu
    · rename_i kk hu
      cases h
      refine scal hu rfl hr fun a b c1 c2 hk h1 h2 D => ?_
      cases a <;> (try (simp [ckEq] at hk; done))
      cases b <;> (try (simp [ckEq] at hk; done))
      simp only [ckEq] at hk
      simp only [VR] at h1 h2
      split at hk
      · rename_i he
        simp only [Option.some.injEq] at hk
        subst h1 h2 he hk
        exact run_equalIn_int w D t _ _ _ _ hu
      · cases hk
    · rename_i hu
      cases h
      refine scal hu rfl hr fun a b c1 c2 hk h1 h2 D => ?_
      cases a <;> (try (simp [ckEq] at hk; done))
      cases b <;> (try (simp [ckEq] at hk; done))
      simp only [ckEq, Option.some.injEq] at hk
      simp only [VR] at h1 h2
      subst h1 h2 hk
      rw [run_equalIn_string w D t _ _ hu]
      simp [ba_toList]
    · rename_i fs hu
      split at h
      · cases h
      · rename_i hh
        rw [Option.filter_eq_some_iff] at h
        obtain ⟨h, hs⟩ := h
        simp only [beq_iff_eq] at hs
        unfold sizeT at hs
        simp only [Option.map_eq_some_iff] at hs
        obtain ⟨i, hi, hn⟩ := hs
        refine ⟨.agg (cs1.extract off (off + i.size)), .agg (cs2.extract off (off + i.size)), by simp [part, isAgg_run hu, isAggD, sizeOf_run hi], by simp [part, isAgg_run hu, isAggD, sizeOf_run hi], ?_⟩
        have hx : ∀ cs : Array Value, (cs.extract off (off + i.size)).toList = (cs.toList.drop off).take i.size := by
          intro cs
          simp [Array.toList_extract, List.extract_eq_take_drop]
        have hf : P.fieldsOf t = fs := by simp [Program.fieldsOf, hu]
        refine ⟨fun D hD => ?_, fun fs' hfs hoff D hD => ?_⟩
        · obtain ⟨D, rfl⟩ : ∃ D', D = D' + 1 := ⟨D - 1, by omega⟩
          rw [run_equalIn_struct w D t _ _ (by rw [hf]; exact hu) (by simpa using hh), hf]
          refine fields h (a := (l1.drop off).take i.size) (b := (l2.drop off).take i.size) (by rw [hx]; exact (v1.drop off).take _) (by rw [hx]; exact (v2.drop off).take _) ?_ D (by omega)
          simp only [List.drop_zero]
          rw [hn, cksEq_take]
          exact hr
        · obtain ⟨D, rfl⟩ : ∃ D', D = D' + 1 := ⟨D - 1, by omega⟩
          subst hoff
          rw [run_equalIn_struct w D t _ _ (by rw [hf]; exact hu) (by simpa using hh), hf]
          exact fields h v1 v2 (by simpa using hr) D (by omega)
    · cases h

theorem ck_guard : ∀ (d : Nat) {t : TypeId} {ks : List CK}, ckT P d t = some ks → ∀ {D : Nat}, d ≤ D → P.eqGuardType D t = false := by
  intro d
  induction d with
  | zero => intro t ks h; simp [ckT] at h
  | succ d ih =>
    intro t ks h D hD
    obtain ⟨D, rfl⟩ : ∃ D', D = D' + 1 := ⟨D - 1, by omega⟩
    have fields : ∀ {fs : List Field} {off : Nat} {ks : List CK}, ckFs (ckT P d) off fs = some ks → ∀ f ∈ fs, (f.name != "_" && P.eqGuardType D f.type) = false := by
      intro fs
      induction fs with
      | nil => intro off ks _ f hf; simp at hf
      | cons f0 fs ihf =>
        intro off ks hk f hf
        simp only [ckFs] at hk
        split at hk
        · split at hk
          · rename_i k1 hk1
            simp only [Option.map_eq_some_iff] at hk
            obtain ⟨k2, hk2, rfl⟩ := hk
            rcases List.mem_cons.1 hf with rfl | hf
            · rw [ih hk1 (by omega)]
              simp
            · exact ihf hk2 f hf
          · cases hk
        · cases hk
    simp only [ckT] at h
    unfold Program.eqGuardType
    split at h
    · rename_i hu; rw [hu]
    · rename_i hu; rw [hu]
    · rename_i hu; rw [hu]
    · rename_i fs hu
      rw [hu]
      split at h
      · cases h
      · rw [Option.filter_eq_some_iff] at h
        have hf := fields h.1
        simp only
        rw [← Array.any_toList, List.any_eq_false]
        intro f hf'
        rw [hf f hf']
        simp
    · cases h

variable {base : Nat} {w0 : World} {a : Act} {o : Oper} {t : Tmps} {h h' : Heap} {v : AV}

theorem sound_eqAgg {op : BinOp} {ty ty' : TypeId} {x y : Operand} {mx my : MO} {ks : List CK} {n : Nat} {neg : Bool} (ho : o.op = .binOp op ty x y ty') (hk : ckT P 5 ty = some ks) (hagg : aggT P ty = some (some n)) (hg : P.eqGuardType P.depth ty = false) (hn : isNegOp op = some neg) (hx : compO x = some mx) (hy : compO y = some my) (ht : TR m t a.tmps)
    (k : HR m h base w0 w) (he : evalOp t h (.eqAgg ks neg mx my) = some (v, h')) : OpOK P o a m h' base w0 w v := by
  have vx := compO_sound hx ht
  have vy := compO_sound hy ht
  simp only [evalOp] at he
  split at he
  · rename_i l1 l2 e1 e2
    simp only [Option.map_eq_some_iff, Prod.mk.injEq] at he
    obtain ⟨r, hr, rfl, rfl⟩ := he
    rw [e1] at vx
    rw [e2] at vy
    simp only [VR] at vx vy
    obtain ⟨cs1, g1, v1, hc1⟩ := vx
    obtain ⟨cs2, g2, v2, hc2⟩ := vy
    obtain ⟨d, hd⟩ : ∃ d, ∀ x y, Op.equal ty x y = Op.equalIn (d + 5) ty x y := ⟨9995, fun _ _ => rfl⟩
    obtain ⟨_, _, _, _, _, hks⟩ := ck_sound (P := P) (m := m) (w := w) 5 hk v1 v2 (off := 0) (r := r) (by simpa using hr)
    obtain ⟨fs, hfs⟩ : ∃ fs, P.underlying ty = some (.struct fs) := by
      simp only [ckT] at hk
      unfold aggT at hagg
      split at hk
      · rename_i hu; rw [hu] at hagg; split at hagg <;> (try (cases hagg; done)); rename_i hd1 hi1; cases hd1; simp [isAggD] at hagg
      · rename_i hu; rw [hu] at hagg; split at hagg <;> (try (cases hagg; done)); rename_i hd1 hi1; cases hd1; simp [isAggD] at hagg
      · rename_i hu; rw [hu] at hagg; split at hagg <;> (try (cases hagg; done)); rename_i hd1 hi1; cases hd1; simp [isAggD] at hagg
      · rename_i fs hu; exact ⟨fs, hu⟩
      · cases hk
    have heq := hks fs hfs rfl (d + 5) (by omega)
    rw [← hd] at heq
    refine OpOK.same k (cv := .bool (r != neg)) ?_ (by simp only [VR])
    have hb := binOp_eq (P := P) (w := w) hn heq (by simp) (by simp) (by simp) (by simp)
    simp [execOp, ho, g1, g2, run_eqGuard_agg w op ty x y cs1 cs2 hg, hb]
  · cases he
end
end Go.Abs

set_option linter.unusedVariables false
set_option linter.unusedSimpArgs false
namespace Go.Abs
open Go.RowKit
section
variable {P : Program} {o : Oper} {a : Act} {m : Emb} {h : Heap} {base : Nat} {w0 w : World} {t : Tmps} {v : AV} {h' : Heap}

theorem size_ba (l : List UInt8) : (⟨l.toArray⟩ : ByteArray).size = l.length := by simp [ByteArray.size]

theorem sound_un {op : UnOp} {ty : TypeId} {x : Operand} {mx : MO} (ho : o.op = .unOp op ty x) (hx : compO x = some mx) (ht : TR m t a.tmps)
    (k : HR m h base w0 w) (he : evalOp t h (.un op mx) = some (v, h')) : OpOK P o a m h' base w0 w v := by
  have vx := compO_sound hx ht
  simp only [evalOp, Option.map_eq_some_iff, Prod.mk.injEq] at he
  obtain ⟨v1, hb, rfl, rfl⟩ := he
  unfold unAV at hb
  split at hb
  · rename_i kk n ex
    cases hb
    rw [ex] at vx
    simp only [VR] at vx
    exact OpOK.same k (cv := .int kk (kk.wrap (0 - n))) (by simp [execOp, ho, vx, Op.unary, Op.intArith]) (by simp only [VR])
  · rename_i kk n ex
    cases hb
    rw [ex] at vx
    simp only [VR] at vx
    exact OpOK.same k (cv := .int kk (kk.wrap (BitVec.ofInt kk.bits (if kk.signed then -1 else kk.max) ^^^ BitVec.ofInt kk.bits n).toNat)) (by simp [execOp, ho, vx, Op.unary, Op.intBits]) (by simp only [VR])
  · rename_i b ex
    cases hb
    rw [ex] at vx
    simp only [VR] at vx
    exact OpOK.same k (cv := .bool (!b)) (by simp [execOp, ho, vx, Op.unary]) (by simp only [VR])
  · cases hb

theorem sound_convInt {src dst : TypeId} {x : Operand} {mx : MO} {d : TypeDesc} {kk : IntKind} (ho : o.op = .convert src dst x) (hs : P.underlying src = some d) (hd : P.underlying dst = some (.int kk)) (hx : compO x = some mx) (ht : TR m t a.tmps)
    (k : HR m h base w0 w) (he : evalOp t h (.convInt kk mx) = some (v, h')) : OpOK P o a m h' base w0 w v := by
  have vx := compO_sound hx ht
  simp only [evalOp] at he
  split at he
  · rename_i k' n ex
    cases he
    rw [ex] at vx
    simp only [VR] at vx
    exact OpOK.same k (cv := .int kk (kk.wrap n)) (by simp [execOp, ho, vx, convert, run_underlying hs, run_underlying hd, Conv.intToInt]) (by simp only [VR])
  · cases he

theorem sound_convStr {src dst : TypeId} {x : Operand} {mx : MO} (ho : o.op = .convert src dst x) (hs : P.underlying src = some .string) (hd : P.underlying dst = some .string) (hx : compO x = some mx) (ht : TR m t a.tmps)
    (k : HR m h base w0 w) (he : evalOp t h (.convStr mx) = some (v, h')) : OpOK P o a m h' base w0 w v := by
  have vx := compO_sound hx ht
  simp only [evalOp] at he
  split at he
  · rename_i s ex
    cases he
    rw [ex] at vx
    simp only [VR] at vx
    exact OpOK.same k (cv := .string ⟨s.toArray⟩) (by simp [execOp, ho, vx, convert, run_underlying hs, run_underlying hd]) (by simp only [VR])
  · cases he

theorem sound_mkIface {ty : TypeId} {x : Operand} {mx : MO} (ho : o.op = .makeInterface ty x) (hc : P.concrete ty = true) (hx : compO x = some mx) (ht : TR m t a.tmps)
    (k : HR m h base w0 w) (he : evalOp t h (.mkIface ty mx) = some (v, h')) : OpOK P o a m h' base w0 w v := by
  have vx := compO_sound hx ht
  simp only [evalOp, Option.some.injEq, Prod.mk.injEq] at he
  obtain ⟨rfl, rfl⟩ := he
  refine OpOK.same k (cv := .iface ty (a.eval x)) ?_ (by simp only [VR]; exact ⟨_, rfl, vx⟩)
  simp [execOp, ho, run_makeInterface w ty _ hc]

theorem sound_mkFn {f : FuncId} {first cap : Array Operand} {mcap : List MO} (ho : o.op = .makeFunc (.func f) first cap) (hf : first.size = 0) (hx : compOs cap.toList = some mcap) (ht : TR m t a.tmps)
    (k : HR m h base w0 w) (he : evalOp t h (.mkFn f mcap) = some (v, h')) : OpOK P o a m h' base w0 w v := by
  have vx := compOs_sound hx ht
  simp only [evalOp, Option.some.injEq, Prod.mk.injEq] at he
  obtain ⟨rfl, rfl⟩ := he
  obtain rfl : first = #[] := Array.eq_empty_of_size_eq_zero hf
  refine OpOK.same k (cv := .func (.func f) #[] (cap.map a.eval)) ?_ (by simp only [VR]; exact ⟨_, rfl, by simpa using vx⟩)
  simp [execOp, ho, Instr.makeFunc]

theorem isNilConst_spec {z : Operand} (hz : isNilConst z = true) : z = .const .nilIface := by
  unfold isNilConst at hz
  split at hz
  · rfl
  · cases hz

theorem eqNil_run {op : BinOp} {neg : Bool} {ty : TypeId} {ms : Array (String × TypeId)} (hu : P.underlying ty = some (.interface ms)) (hn : isNegOp op = some neg) (x y : Operand) (hc : isNilConst x = true ∨ isNilConst y = true) (u u' : Value) (r : Bool)
    (hcase : (u = .nilIface ∧ u' = .nilIface ∧ r = true) ∨ (∃ T q, u = .iface T q ∧ u' = .nilIface ∧ r = false) ∨ (∃ T q, u = .nilIface ∧ u' = .iface T q ∧ r = false)) :
    (do eqGuard op ty x y u u'; binOp op ty u u' : Sem Value).run P w = .ok (.bool (r != neg)) w := by
  obtain ⟨d, hd⟩ : ∃ d, ∀ x y, Op.equal ty x y = Op.equalIn (d + 1) ty x y := ⟨9999, fun _ _ => rfl⟩
  have hg : (eqGuard op ty x y u u').run P w = .ok () w := by
    rcases hcase with ⟨rfl, rfl, rfl⟩ | ⟨T, q, rfl, rfl, rfl⟩ | ⟨T, q, rfl, rfl, rfl⟩
    · rcases hc with h1 | h1 <;> (obtain rfl := isNilConst_spec h1; cases op <;> simp [eqGuard])
    · cases op <;> simp [eqGuard]
    · cases op <;> simp [eqGuard]
  have hq : (Op.equal ty u u').run P w = .ok r w := by
    rw [hd]
    rcases hcase with ⟨rfl, rfl, rfl⟩ | ⟨T, q, rfl, rfl, rfl⟩ | ⟨T, q, rfl, rfl, rfl⟩ <;> simp [Op.equalIn, run_underlying hu]
  have hb : (binOp op ty u u').run P w = .ok (.bool (r != neg)) w := by
    rcases hcase with ⟨rfl, rfl, rfl⟩ | ⟨T, q, rfl, rfl, rfl⟩ | ⟨T, q, rfl, rfl, rfl⟩ <;>
      exact binOp_eq hn hq (fun _ _ => by simp) (fun _ => by simp) (fun _ _ => by simp) (fun _ _ _ => by simp)
  simp [hg, hb]

theorem sound_isNil {op : BinOp} {neg : Bool} {ty ty' : TypeId} {x y : Operand} {mx : MO} (ho : o.op = .binOp op ty x y ty') (hi : isIfaceT P ty = true) (hn : isNegOp op = some neg)
    (hx : (isNilConst y = true ∧ compO x = some mx) ∨ (isNilConst x = true ∧ compO y = some mx)) (ht : TR m t a.tmps)
    (k : HR m h base w0 w) (he : evalOp t h (.isNil neg mx) = some (v, h')) : OpOK P o a m h' base w0 w v := by
  obtain ⟨ms, hu⟩ : ∃ ms, P.underlying ty = some (.interface ms) := by
    unfold isIfaceT at hi
    split at hi
    · exact ⟨_, by assumption⟩
    · cases hi
  have hc : isNilConst x = true ∨ isNilConst y = true := by
    rcases hx with ⟨h1, _⟩ | ⟨h1, _⟩
    · exact .inr h1
    · exact .inl h1
  have fin : ∀ r : Bool, ((a.eval x = .nilIface ∧ a.eval y = .nilIface ∧ r = true) ∨ (∃ T q, a.eval x = .iface T q ∧ a.eval y = .nilIface ∧ r = false) ∨ (∃ T q, a.eval x = .nilIface ∧ a.eval y = .iface T q ∧ r = false)) → OpOK P o a m h base w0 w (.bool (r != neg)) := by
    intro r hr
    refine OpOK.same k (cv := .bool (r != neg)) ?_ (by simp only [VR])
    have := eqNil_run (w := w) hu hn x y hc _ _ r hr
    simp only [execOp, ho]
    rw [Sem.run_bind, this]
    rfl
  simp only [evalOp] at he
  rcases hx with ⟨hnc, hcx⟩ | ⟨hnc, hcx⟩ <;> have vx := compO_sound hcx ht <;> have hz := isNilConst_spec hnc <;> split at he
  · rename_i ex
    cases he
    rw [ex] at vx
    simp only [VR] at vx
    have := fin true (.inl ⟨vx, by rw [hz]; rfl, rfl⟩)
    simpa using this
  · rename_i T z ex
    cases he
    rw [ex] at vx
    simp only [VR] at vx
    obtain ⟨q, vx, _⟩ := vx
    have := fin false (.inr (.inl ⟨T, q, vx, by rw [hz]; rfl, rfl⟩))
    simpa using this
  · cases he
  · rename_i ex
    cases he
    rw [ex] at vx
    simp only [VR] at vx
    have := fin true (.inl ⟨by rw [hz]; rfl, vx, rfl⟩)
    simpa using this
  · rename_i T z ex
    cases he
    rw [ex] at vx
    simp only [VR] at vx
    obtain ⟨q, vx, _⟩ := vx
    have := fin false (.inr (.inr ⟨T, q, by rw [hz]; rfl, vx, rfl⟩))
    simpa using this
  · cases he

theorem compOpt_sound {x : Option Operand} {mx : Option MO} (hx : compOpt x = some mx) (ht : TR m t a.tmps) : (x = none ∧ mx = none) ∨ ∃ y my, x = some y ∧ mx = some my ∧ VR m (my.eval t) (a.eval y) := by
  cases x with
  | none => simp [compOpt] at hx; exact .inl ⟨rfl, hx.symm⟩
  | some y =>
    simp only [compOpt, Option.map_eq_some_iff] at hx
    obtain ⟨my, hy, rfl⟩ := hx
    exact .inr ⟨y, my, rfl, rfl, compO_sound hy ht⟩

theorem boundOf_sound {x : Option Operand} {mx : Option MO} (hx : compOpt x = some mx) (ht : TR m t a.tmps) {d n cap r : Nat} (hc : n ≤ cap) (hb : boundOf d n (mx.map (·.eval t)) = some r) :
    (x.map a.eval = none ∧ r = d) ∨ (∃ u, x.map a.eval = some u ∧ r ≤ n ∧ ∀ code, (Instr.sliceBound u cap code).run P w = .ok r w) := by
  rcases compOpt_sound hx ht with ⟨rfl, rfl⟩ | ⟨y, my, rfl, rfl, hv⟩
  · simp [boundOf] at hb
    exact .inl ⟨rfl, hb.symm⟩
  · refine .inr ⟨_, rfl, ?_⟩
    simp only [Option.map_some, boundOf] at hb
    split at hb
    · cases ‹some _ = none›
    · rename_i kk i hm
      injection hm with hm
      rw [hm] at hv
      simp only [VR] at hv
      split at hb
      · rename_i hi
        injection hb with hb
        subst hb
        refine ⟨by omega, fun code => ?_⟩
        rw [hv]
        have : 0 ≤ i ∧ i ≤ (cap : Int) := by omega
        simp [Instr.sliceBound, asIntOf, this]
      · cases hb
    · cases hb

theorem bounds_sound {lo hi : Option Operand} {mlo mhi : Option MO} (hlo : compOpt lo = some mlo) (hhi : compOpt hi = some mhi) (ht : TR m t a.tmps) {n cap : Nat} (hc : n ≤ cap) {l e : Nat}
    (hb : bounds n (mlo.map (·.eval t)) (mhi.map (·.eval t)) = some (l, e)) (isSlice : Bool) :
    (Instr.sliceBounds isSlice n cap (lo.map a.eval) (hi.map a.eval) none).run P w = .ok (l, e, cap) w ∧ l ≤ e ∧ e ≤ n := by
  unfold bounds at hb
  split at hb
  · cases hb
  · rename_i E hE
    split at hb
    · cases hb
    · rename_i L hL
      cases hb
      have h1 := boundOf_sound (P := P) (w := w) hhi ht hc hE
      have h2 := boundOf_sound (P := P) (w := w) hlo ht (Nat.le_refl _) hL
      unfold Instr.sliceBounds
      rcases h1 with ⟨e1, rfl⟩ | ⟨u1, e1, le1, r1⟩ <;> rcases h2 with ⟨e2, rfl⟩ | ⟨u2, e2, le2, r2⟩
      · exact ⟨by simp [e1, e2], by omega, by omega⟩
      · exact ⟨by simp [e1, e2, r2], by omega, by omega⟩
      · exact ⟨by simp [e1, e2, r1], by omega, by omega⟩
      · exact ⟨by simp [e1, e2, r1, r2], by omega, by omega⟩

theorem ba_extract (s : List UInt8) (l e : Nat) : (⟨s.toArray⟩ : ByteArray).extract l e = ⟨((s.drop l).take (e - l)).toArray⟩ := by
  apply ByteArray.ext
  simp [ByteArray.data_extract]

theorem sound_sliceStr {ty : TypeId} {x : Operand} {lo hi : Option Operand} {mx : MO} {mlo mhi : Option MO} (ho : o.op = .slice ty x lo hi none) (hu : P.underlying ty = some .string) (hx : compO x = some mx) (hlo : compOpt lo = some mlo) (hhi : compOpt hi = some mhi) (ht : TR m t a.tmps)
    (k : HR m h base w0 w) (he : evalOp t h (.sliceStr mx mlo mhi) = some (v, h')) : OpOK P o a m h' base w0 w v := by
  have vx := compO_sound hx ht
  simp only [evalOp] at he
  split at he
  · rename_i s ex
    simp only [Option.map_eq_some_iff, Prod.mk.injEq] at he
    obtain ⟨⟨l, e⟩, hb, rfl, rfl⟩ := he
    rw [ex] at vx
    simp only [VR] at vx
    obtain ⟨hr, _, _⟩ := bounds_sound (P := P) (w := w) hlo hhi ht (Nat.le_refl _) hb false
    refine OpOK.same k (cv := .string ⟨((s.drop l).take (e - l)).toArray⟩) ?_ (by simp only [VR])
    simp only [execOp, ho, Instr.sliceAt, Instr.slice, Sem.run_bind, run_underlying hu, Result.andThen_ok, vx, Option.map_none, Option.isSome_none, Bool.false_eq_true, if_false, size_ba, hr, ba_extract, Sem.run_pure]
  · cases he

theorem sound_sliceSlc {ty e0 : TypeId} {s : Nat} {x : Operand} {lo hi : Option Operand} {mx : MO} {mlo mhi : Option MO} (ho : o.op = .slice ty x lo hi none) (hu : P.underlying ty = some (.slice e0)) (hs : sizeT P e0 = some s) (hx : compO x = some mx) (hlo : compOpt lo = some mlo) (hhi : compOpt hi = some mhi) (ht : TR m t a.tmps)
    (k : HR m h base w0 w) (he : evalOp t h (.sliceSlc s mx mlo mhi) = some (v, h')) : OpOK P o a m h' base w0 w v := by
  have vx := compO_sound hx ht
  simp only [sizeT, Option.map_eq_some_iff] at hs
  obtain ⟨ti, hti, rfl⟩ := hs
  simp only [evalOp] at he
  split at he
  · rename_i b off n ex
    split at he
    · rename_i es ro c hb0
      split at he
      · rename_i hes
        simp only [Option.map_eq_some_iff, Prod.mk.injEq] at he
        obtain ⟨⟨l, e⟩, hb, rfl, rfl⟩ := he
        rw [ex] at vx
        simp only [VR] at vx
        obtain ⟨ent, hm, hp⟩ := vx
        obtain ⟨e', he', hes', _⟩ := k.arr hb0
        rw [hm] at he'
        cases he'
        rcases hp with ⟨cap, hp, hle, hbnd⟩ | ⟨hn0, ad, hp⟩
        · obtain ⟨hr, h1, h2⟩ := bounds_sound (P := P) (w := w) hlo hhi ht hle hb true
          refine OpOK.same k (cv := .slice (some (if cap = l then ⟨ent.g, ent.off + off, none⟩ else ⟨ent.g, ent.off + off + l * ti.size, none⟩)) (e - l) (cap - l)) ?_ ?_
          · simp only [execOp, ho, Instr.sliceAt, Instr.slice, Sem.run_bind, run_underlying hu, Result.andThen_ok, hp, Option.map_none, hr, sizeOf_run hti, Sem.run_pure, Option.map_some, add_at]
            split <;> simp [*]
          · simp only [VR]
            refine ⟨ent, hm, ?_⟩
            by_cases hcl : cap = l
            · rw [if_pos hcl]
              refine .inr ⟨by omega, ⟨ent.g, ent.off + off, none⟩, ?_⟩
              rw [show e - l = 0 by omega, show cap - l = 0 by omega]
            · rw [if_neg hcl]
              refine .inl ⟨cap - l, by rw [Nat.add_assoc], by omega, ?_⟩
              rw [hes', hes] at hbnd ⊢
              rw [Nat.sub_mul]
              have : l * ti.size ≤ cap * ti.size := Nat.mul_le_mul_right _ (by omega)
              omega
        · subst hn0
          obtain ⟨hr, h1, h2⟩ := bounds_sound (P := P) (w := w) hlo hhi ht (Nat.le_refl 0) hb true
          obtain rfl : l = 0 := by omega
          obtain rfl : e = 0 := by omega
          refine OpOK.same k (cv := .slice (some ad) 0 0) ?_ ?_
          · simp [execOp, ho, Instr.sliceAt, Instr.slice, run_underlying hu, hp, hr, sizeOf_run hti]
          · simp only [VR]
            exact ⟨ent, hm, .inr (by simp)⟩
      · cases he
    · cases he
  · rename_i ex
    simp only [Option.map_eq_some_iff, Prod.mk.injEq] at he
    obtain ⟨⟨l, e⟩, hb, rfl, rfl⟩ := he
    rw [ex] at vx
    simp only [VR] at vx
    obtain ⟨hr, h1, h2⟩ := bounds_sound (P := P) (w := w) hlo hhi ht (Nat.le_refl 0) hb true
    obtain rfl : l = 0 := by omega
    obtain rfl : e = 0 := by omega
    refine OpOK.same k (cv := .slice none 0 0) ?_ (by simp only [VR])
    simp [execOp, ho, Instr.sliceAt, Instr.slice, run_underlying hu, vx, hr, sizeOf_run hti]
  · cases he
end
end Go.Abs

set_option linter.unusedVariables false
set_option linter.unusedSimpArgs false
namespace Go.Abs
open Go.RowKit
section
variable {P : Program} {o : Oper} {a : Act} {m : Emb} {h : Heap} {base : Nat} {w0 w : World} {t : Tmps} {v : AV} {h' : Heap}

theorem setCells_VRs : ∀ {vs : List AV} {cvs : List Value} {c : List AV} {cc : List Value} {off : Nat}, VRs m c cc → VRs m vs cvs → VRs m (setCells c off vs) (setCells cc off cvs)
  | [], cvs, c, cc, off, hc, hv => by
    simp only [VRs] at hv
    subst hv
    exact hc
  | v :: vs, cvs, c, cc, off, hc, hv => by
    simp only [VRs] at hv
    obtain ⟨u, us, rfl, hu, hus⟩ := hv
    simp only [setCells]
    refine setCells_VRs (VRs.of_get (by simp [hc.length]) fun i x hx => ?_) hus
    rw [List.getElem?_set] at hx ⊢
    split at hx
    · rename_i hi
      subst hi
      rw [if_pos rfl]
      split at hx
      · rename_i hlt
        cases hx
        have := hc.length
        rw [if_pos (by omega)]
        exact ⟨u, rfl, hu⟩
      · cases hx
    · rename_i hi
      rw [if_neg hi]
      exact hc.get i x hx
theorem setCells_mem {α : Type} {p : α → Prop} : ∀ (vs c : List α) (off : Nat), (∀ x ∈ c, p x) → (∀ x ∈ vs, p x) → ∀ x ∈ setCells c off vs, p x
  | [], c, off, hc, hv => hc
  | v :: vs, c, off, hc, hv => by
    simp only [setCells]
    refine setCells_mem vs _ _ (fun x hx => ?_) (fun x hx => hv x (List.mem_cons_of_mem _ hx))
    rcases List.mem_or_eq_of_mem_set hx with h1 | h1
    · exact hc x h1
    · subst h1; exact hv x List.mem_cons_self

theorem foldl_set (off : Nat) : ∀ (vs : List Value) (j : Nat) (cells : Array Value), ((vs.zipIdx j).foldl (fun cs (p : Value × Nat) => cs.setIfInBounds (off + p.2) p.1) cells).toList = setCells cells.toList (off + j) vs
  | [], j, cells => rfl
  | v :: vs, j, cells => by
    simp only [List.zipIdx_cons, List.foldl_cons, setCells]
    rw [foldl_set off vs (j + 1)]
    simp [Nat.add_assoc]

theorem compParts_sound {place : Nat → Option (Nat × Nat)} (ht : TR m t a.tmps) : ∀ {ps : List (Nat × Operand)} {mps : List (Nat × Nat × MO)}, compParts place ps = some mps →
    ∀ {z l : List AV} {zc : Array Value}, VRs m z zc.toList → (∀ c ∈ zc.toList, isCell c = true) → fill z (mps.map fun p => (p.1, p.2.1, p.2.2.eval t)) = some l →
    ∃ cc, Instr.fill place zc (ps.map fun p => (p.1, a.eval p.2)) = some cc ∧ VRs m l cc.toList ∧ (∀ c ∈ cc.toList, isCell c = true)
  | [], mps, hp, z, l, zc, hz, hc, hf => by
    simp [compParts, allM] at hp
    subst hp
    simp [fill] at hf
    subst hf
    exact ⟨zc, by simp [Instr.fill], hz, hc⟩
  | p :: ps, mps, hp, z, l, zc, hz, hc, hf => by
    simp only [compParts, allM] at hp
    split at hp
    · rename_i b bs hb hbs
      cases hp
      split at hb
      · rename_i off sz mx hpl hmx
        cases hb
        have hv := compO_sound hmx ht
        simp only [List.map_cons, fill] at hf
        split at hf
        · rename_i cs hcs
          split at hf
          · rename_i hlen
            obtain ⟨hvv, hcc⟩ := cells_sound hcs hv
            have hl := hvv.length
            have hzl := hz.length
            have hsz : (a.eval p.2).cells.size = sz := by
              have : (a.eval p.2).cells.toList.length = (a.eval p.2).cells.size := by simp
              omega
            have e1 : ((a.eval p.2).cells.zipIdx.foldl (fun cs (c, j) => cs.setIfInBounds (off + j) c) zc).toList = setCells zc.toList off (a.eval p.2).cells.toList := by
              rw [← Array.foldl_toList, Array.toList_zipIdx]
              exact foldl_set off _ 0 zc
            obtain ⟨cc, h1, h2, h3⟩ := compParts_sound ht (place := place) hbs (z := setCells z off cs) (l := l) (zc := (a.eval p.2).cells.zipIdx.foldl (fun cs (c, j) => cs.setIfInBounds (off + j) c) zc)
              (by rw [e1]; exact setCells_VRs hz hvv) (by rw [e1]; exact setCells_mem _ _ _ hc hcc) hf
            refine ⟨cc, ?_, h2, h3⟩
            simp only [List.map_cons, Instr.fill, hpl]
            rw [if_neg]
            · exact h1
            · simp only [Bool.or_eq_true, decide_eq_true_eq, not_or, Decidable.not_not, Nat.not_lt]
              have : zc.toList.length = zc.size := by simp
              exact ⟨hsz, by omega⟩
          · cases hf
        · cases hf
      · cases hb
    · cases hp

theorem places_run {fs : List Field} {pl : List (Nat × Nat)} (hp : structPlaces P fs = some pl) : (fs.mapM fun (f : Field) => do pure (f.offset, ← Go.sizeOf f.type) : Sem (List (Nat × Nat))).run P w = .ok pl w := by
  induction fs generalizing pl with
  | nil => simp [structPlaces, allM] at hp; subst hp; simp
  | cons f fs ih =>
    simp only [structPlaces, allM] at hp
    split at hp
    · rename_i b bs hb hbs
      cases hp
      simp only [Option.map_eq_some_iff] at hb
      obtain ⟨s, hs, rfl⟩ := hb
      simp only [sizeT, Option.map_eq_some_iff] at hs
      obtain ⟨ti, hti, rfl⟩ := hs
      have := ih (pl := bs) hbs
      simp only [bind_pure_comp, Sem.run_map] at this ⊢
      simp [List.mapM_cons, sizeOf_run hti, this]
    · cases hp

theorem sound_build {ty : TypeId} {fs : Array Field} {i : TypeInfo} {z : Value} {pl : List (Nat × Nat)} {ps : Array (Nat × Operand)} {mz : List AV} {mps : List (Nat × Nat × MO)} (ho : o.op = .build ty ps) (hu : P.underlying ty = some (.struct fs)) (hi : P.info? ty = some i) (hz : i.zero = some z)
    (hpl : structPlaces P fs.toList = some pl) (hmz : toCells z.cells.toList = some mz) (hps : compParts (pl[·]?) ps.toList = some mps) (ht : TR m t a.tmps)
    (k : HR m h base w0 w) (he : evalOp t h (.build mz mps) = some (v, h')) : OpOK P o a m h' base w0 w v := by
  simp only [evalOp, Option.map_eq_some_iff, Prod.mk.injEq] at he
  obtain ⟨l, hf, rfl, rfl⟩ := he
  obtain ⟨hv, hc⟩ := toCells_sound (m := m) hmz
  obtain ⟨cc, h1, h2, h3⟩ := compParts_sound ht hps hv hc hf
  refine OpOK.same k (cv := .agg cc) ?_ (by simp only [VR]; exact ⟨cc, rfl, h2, h3⟩)
  have hpr := places_run (w := w) hpl
  have hm : (fs.mapM fun (f : Field) => do pure (f.offset, ← Go.sizeOf f.type) : Sem (Array (Nat × Nat))).run P w = .ok pl.toArray w := by
    rw [Array.mapM_eq_mapM_toList]
    simp only [Sem.run_map, hpr]
    rfl
  have e1 : (ps.map fun (x : Nat × Operand) => (x.1, a.eval x.2)).toList = ps.toList.map fun p => (p.1, a.eval p.2) := by simp
  have h1' : Instr.fill (fun x => pl.toArray[x]?) z.cells (ps.map fun (x : Nat × Operand) => (x.1, a.eval x.2)).toList = some cc := by
    rw [e1]
    simpa using h1
  simp only [execOp, ho, Instr.build, Sem.run_bind, zeroValue_run hi hz, Result.andThen_ok, run_underlying hu, hm, h1', Sem.run_pure]

theorem sound_buildArr {ty e : TypeId} {n s : Nat} {i : TypeInfo} {z : Value} {ps : Array (Nat × Operand)} {mz : List AV} {mps : List (Nat × Nat × MO)} (ho : o.op = .build ty ps) (hu : P.underlying ty = some (.array n e)) (hi : P.info? ty = some i) (hz : i.zero = some z)
    (hs : sizeT P e = some s) (hmz : toCells z.cells.toList = some mz) (hps : compParts (fun j => some (j * s, s)) ps.toList = some mps) (ht : TR m t a.tmps)
    (k : HR m h base w0 w) (he : evalOp t h (.build mz mps) = some (v, h')) : OpOK P o a m h' base w0 w v := by
  simp only [evalOp, Option.map_eq_some_iff, Prod.mk.injEq] at he
  obtain ⟨l, hf, rfl, rfl⟩ := he
  simp only [sizeT, Option.map_eq_some_iff] at hs
  obtain ⟨ti, hti, rfl⟩ := hs
  obtain ⟨hv, hc⟩ := toCells_sound (m := m) hmz
  obtain ⟨cc, h1, h2, h3⟩ := compParts_sound ht hps hv hc hf
  refine OpOK.same k (cv := .agg cc) ?_ (by simp only [VR]; exact ⟨cc, rfl, h2, h3⟩)
  have e1 : (ps.map fun (x : Nat × Operand) => (x.1, a.eval x.2)).toList = ps.toList.map fun p => (p.1, a.eval p.2) := by simp
  rw [← e1] at h1
  simp only [execOp, ho, Instr.build, Sem.run_bind, zeroValue_run hi hz, Result.andThen_ok, run_underlying hu, sizeOf_run hti, h1, Sem.run_pure]

theorem sound_buildSlice {ty e : TypeId} {n : Nat} {i : TypeInfo} {z : Value} {ps : Array (Nat × Operand)} {mz : List AV} {mps : List (Nat × Nat × MO)} (ho : o.op = .buildSlice ty n ps) (hu : P.underlying ty = some (.slice e)) (hi : P.info? e = some i) (hsz : ¬ n * i.size > 2 ^ 24) (hz : i.zero = some z)
    (hmz : toCells ((Array.range (n * i.size)).map (fun j => ((if n * i.size = 0 then #[] else z.cells : Array Value))[j % (if n * i.size = 0 then #[] else z.cells : Array Value).size]!)).toList = some mz)
    (hps : compParts (fun j => some (j * i.size, i.size)) ps.toList = some mps) (ht : TR m t a.tmps)
    (k : HR m h base w0 w) (he : evalOp t h (.buildSlice n i.size mz mps) = some (v, h')) : OpOK P o a m h' base w0 w v := by
  simp only [evalOp, Option.map_eq_some_iff, Prod.mk.injEq] at he
  obtain ⟨l, hf, rfl, rfl⟩ := he
  obtain ⟨hv, hc⟩ := toCells_sound (m := m) hmz
  obtain ⟨cc, h1, h2, h3⟩ := compParts_sound ht hps hv hc hf
  obtain ⟨m', hle, hk, hm⟩ := push_arr k (ty := e) (es := i.size) h2 h3
  have e1 : (ps.map fun (x : Nat × Operand) => (x.1, a.eval x.2)).toList = ps.toList.map fun p => (p.1, a.eval p.2) := by simp
  rw [← e1] at h1
  have hl : l.length = n * i.size := by
    have g := hv.length
    have fl : ∀ (q : List (Nat × Nat × AV)) (z l : List AV), fill z q = some l → l.length = z.length := by
      intro q
      induction q with
      | nil => intro z l hq; simp [fill] at hq; rw [hq]
      | cons x q ih =>
        intro z l hq
        simp only [fill] at hq
        split at hq
        · split at hq
          · rw [ih _ _ hq, setCells_length]
          · cases hq
        · cases hq
    have := fl _ _ _ hf
    simp at g
    omega
  have hcs : cc.size = n * i.size := by
    have := h2.length
    simp at this
    omega
  refine ⟨m', _, hle, hk, .inl ⟨.slice (some ⟨w.heap.size, 0, none⟩) n n, ?_, ?_⟩⟩
  · simp only [execOp, ho, Instr.buildSlice, Sem.run_bind, run_underlying hu, Result.andThen_ok, sizeOf_run hi, if_neg hsz]
    by_cases h0 : n * i.size = 0
    · simp only [h0, if_true] at h1
      simp only [h0, if_true, Sem.run_bind, Sem.run_pure, Result.andThen_ok, h1, newRow, run_newObj, World.alloc_eq]
    · simp only [h0, if_false] at h1
      simp only [h0, if_false, Sem.run_bind, zeroValue_run hi hz, Sem.run_pure, Result.andThen_ok, h1, newRow, run_newObj, World.alloc_eq]
  · simp only [VR]
    exact ⟨_, hm, .inl ⟨n, rfl, Nat.le_refl _, by simp [hcs]⟩⟩

theorem sound_mkMap {ty : TypeId} (ho : o.op = .makeMap ty none) (k : HR m h base w0 w) (he : evalOp t h .mkMap = some (v, h')) : OpOK P o a m h' base w0 w v := by
  simp only [evalOp, Option.some.injEq, Prod.mk.injEq] at he
  obtain ⟨rfl, rfl⟩ := he
  have hle : m.le (m.upd h.length ⟨w.heap.size, 0, 0, 0⟩) := Emb.le_upd k.none_of_len
  refine ⟨_, w.alloc (.map #[] 0), hle, k.push (.map []) (.map #[] 0) 0 0 0 ?_, .inl ⟨.map (some w.heap.size), ?_, ?_⟩⟩
  · refine ⟨_, Emb.upd_same _ _ _, k.size, #[], 0, ?_, by simp [MapR]⟩
    show (w.heap.push _)[w.heap.size]? = _
    simp
  · simp [execOp, ho, Instr.makeMap]
  · simp only [VR]
    exact ⟨_, Emb.upd_same _ _ _, rfl⟩

theorem callB_run {b : Builtin} {args : Array Operand} {argTypes : Array TypeId} (ho : o.op = .call { callee := .builtin b, args, argTypes }) :
    ∃ cs, (execOp a.eval o).run P w = (builtin b argTypes o.type cs (args.map a.eval)).run P w :=
  ⟨_, by simp only [execOp, ho, resolve, invoke, Sem.run_bind, Sem.run_pure, Result.andThen_ok]; rfl⟩

theorem args_get {args : Array Operand} {j : Nat} {mx : MO} (hx : args[j]?.bind compO = some mx) (ht : TR m t a.tmps) : ∃ cv, (args.map a.eval)[j]? = some cv ∧ VR m (mx.eval t) cv := by
  simp only [Option.bind_eq_some_iff] at hx
  obtain ⟨x, hx, hc⟩ := hx
  exact ⟨a.eval x, by simp [hx], compO_sound hc ht⟩

theorem sound_lenStr {args : Array Operand} {argTypes : Array TypeId} {ty : TypeId} {mx : MO} (ho : o.op = .call { callee := .builtin .len, args, argTypes }) (hty : argTypes[0]? = some ty) (hu : P.underlying ty = some .string) (hx : args[0]?.bind compO = some mx) (ht : TR m t a.tmps)
    (k : HR m h base w0 w) (he : evalOp t h (.lenStr mx) = some (v, h')) : OpOK P o a m h' base w0 w v := by
  obtain ⟨cv, h1, vx⟩ := args_get hx ht
  simp only [evalOp] at he
  split at he
  · rename_i s ex
    cases he
    rw [ex] at vx
    simp only [VR] at vx
    refine OpOK.same k (cv := .int .i64 s.length) ?_ (by simp only [VR])
    obtain ⟨cs, hrun⟩ := callB_run (P := P) (w := w) (a := a) ho
    rw [hrun]
    simp [builtin, Builtin.len_, hty, h1, run_underlying hu, vx, goInt, size_ba]
  · cases he

theorem sound_lenSlc {args : Array Operand} {argTypes : Array TypeId} {ty e : TypeId} {mx : MO} (ho : o.op = .call { callee := .builtin .len, args, argTypes }) (hty : argTypes[0]? = some ty) (hu : P.underlying ty = some (.slice e)) (hx : args[0]?.bind compO = some mx) (ht : TR m t a.tmps)
    (k : HR m h base w0 w) (he : evalOp t h (.lenSlc mx) = some (v, h')) : OpOK P o a m h' base w0 w v := by
  obtain ⟨cv, h1, vx⟩ := args_get hx ht
  simp only [evalOp] at he
  split at he
  · rename_i b off n ex
    cases he
    rw [ex] at vx
    simp only [VR] at vx
    obtain ⟨ent, _, ⟨c, vx, _⟩ | ⟨rfl, ad, vx⟩⟩ := vx
    · refine OpOK.same k (cv := .int .i64 n) ?_ (by simp only [VR])
      obtain ⟨cs, hrun⟩ := callB_run (P := P) (w := w) (a := a) ho
      rw [hrun]
      simp [builtin, Builtin.len_, hty, h1, run_underlying hu, vx, goInt]
    · refine OpOK.same k (cv := .int .i64 0) ?_ (by simp [VR])
      obtain ⟨cs, hrun⟩ := callB_run (P := P) (w := w) (a := a) ho
      rw [hrun]
      simp [builtin, Builtin.len_, hty, h1, run_underlying hu, vx, goInt]
  · rename_i ex
    cases he
    rw [ex] at vx
    simp only [VR] at vx
    refine OpOK.same k (cv := .int .i64 0) ?_ (by simp [VR])
    obtain ⟨cs, hrun⟩ := callB_run (P := P) (w := w) (a := a) ho
    rw [hrun]
    simp [builtin, Builtin.len_, hty, h1, run_underlying hu, vx, goInt]
  · cases he

theorem sound_lenConst {args : Array Operand} {argTypes : Array TypeId} {ty e : TypeId} {n : Nat} {mx : MO} (ho : o.op = .call { callee := .builtin .len, args, argTypes }) (hty : argTypes[0]? = some ty) (hu : P.underlying ty = some (.array n e)) (hx : args[0]?.bind compO = some mx) (ht : TR m t a.tmps)
    (k : HR m h base w0 w) (he : evalOp t h (.lenConst n) = some (v, h')) : OpOK P o a m h' base w0 w v := by
  obtain ⟨cv, h1, vx⟩ := args_get hx ht
  simp only [evalOp, Option.some.injEq, Prod.mk.injEq] at he
  obtain ⟨rfl, rfl⟩ := he
  refine OpOK.same k (cv := .int .i64 n) ?_ (by simp only [VR])
  obtain ⟨cs, hrun⟩ := callB_run (P := P) (w := w) (a := a) ho
  rw [hrun]
  simp [builtin, Builtin.len_, hty, h1, run_underlying hu, goInt]

theorem MapR.length : ∀ {l : List (AV × AV)} {es : List MapEntry}, MapR m l es → es.length = l.length
  | [], es, h => by simp only [MapR] at h; subst h; rfl
  | x :: l, es, h => by
    simp only [MapR] at h
    obtain ⟨e, es', rfl, _, _, h⟩ := h
    simp [MapR.length h]

theorem HR.map (k : HR m h base w0 w) {b : Nat} {es : List (AV × AV)} (hb : h[b]? = some (.map es)) : ∃ e, m b = some e ∧ base ≤ e.g ∧ ∃ ents clock, w.heap[e.g]? = some (.map ents clock) ∧ MapR m es ents.toList := k.obj b _ hb

theorem getObj_run {g : Nat} {O : Obj} (hg : w.heap[g]? = some O) (hc : ∀ c t f, O ≠ .cells c t f) : (getObj g).run P w = .ok O w := by
  simp only [getObj, Sem.run, hg]

theorem sound_lenMap {args : Array Operand} {argTypes : Array TypeId} {ty kt vt : TypeId} {mx : MO} (ho : o.op = .call { callee := .builtin .len, args, argTypes }) (hty : argTypes[0]? = some ty) (hu : P.underlying ty = some (.map kt vt)) (hx : args[0]?.bind compO = some mx) (ht : TR m t a.tmps)
    (k : HR m h base w0 w) (he : evalOp t h (.lenMap mx) = some (v, h')) : OpOK P o a m h' base w0 w v := by
  obtain ⟨cv, h1, vx⟩ := args_get hx ht
  simp only [evalOp] at he
  split at he
  · rename_i ex
    cases he
    rw [ex] at vx
    simp only [VR] at vx
    refine OpOK.same k (cv := .int .i64 0) ?_ (by simp [VR])
    obtain ⟨cs, hrun⟩ := callB_run (P := P) (w := w) (a := a) ho
    rw [hrun]
    simp [builtin, Builtin.len_, hty, h1, run_underlying hu, vx, goInt]
  · rename_i r ex
    split at he
    · rename_i es hr
      cases he
      rw [ex] at vx
      simp only [VR] at vx
      obtain ⟨e, hm, vx⟩ := vx
      obtain ⟨e', he', _, ents, clock, hg, hmr⟩ := k.map hr
      rw [hm] at he'
      cases he'
      refine OpOK.same k (cv := .int .i64 es.length) ?_ (by simp only [VR])
      obtain ⟨cs, hrun⟩ := callB_run (P := P) (w := w) (a := a) ho
      rw [hrun]
      have hl := hmr.length
      simp [builtin, Builtin.len_, hty, h1, run_underlying hu, vx, goInt, getObj_run hg]
      have hl2 : ents.size = es.length := by simpa using hl
      omega
    · cases he
  · cases he

theorem two_args {args : Array Operand} {mx my : MO} (hx : args.toList.map compO = [some mx, some my]) : ∃ x y, args.toList = [x, y] ∧ compO x = some mx ∧ compO y = some my := by
  rcases hl : args.toList with _ | ⟨x, _ | ⟨y, _ | ⟨z, r⟩⟩⟩ <;> rw [hl] at hx <;> simp at hx
  exact ⟨x, y, rfl, hx.1, hx.2⟩

theorem sound_min {args : Array Operand} {argTypes : Array TypeId} {mx my : MO} (ho : o.op = .call { callee := .builtin .min, args, argTypes }) (hx : args.toList.map compO = [some mx, some my]) (ht : TR m t a.tmps)
    (k : HR m h base w0 w) (he : evalOp t h (.mini mx my) = some (v, h')) : OpOK P o a m h' base w0 w v := by
  obtain ⟨x, y, hargs, hx⟩ := two_args hx
  · have vx := compO_sound hx.1 ht
    have vy := compO_sound hx.2 ht
    simp only [evalOp] at he
    split at he
    · rename_i k1 n1 k2 n2 e1 e2
      cases he
      rw [e1] at vx
      rw [e2] at vy
      simp only [VR] at vx vy
      refine OpOK.same k (cv := .int k1 (if n2 < n1 then n2 else n1)) ?_ (by simp only [VR])
      obtain ⟨cs, hrun⟩ := callB_run (P := P) (w := w) (a := a) ho
      rw [hrun]
      simp [builtin, Builtin.min_, hargs, vx, vy, Builtin.min2]
    · cases he

theorem sound_max {args : Array Operand} {argTypes : Array TypeId} {mx my : MO} (ho : o.op = .call { callee := .builtin .max, args, argTypes }) (hx : args.toList.map compO = [some mx, some my]) (ht : TR m t a.tmps)
    (k : HR m h base w0 w) (he : evalOp t h (.maxi mx my) = some (v, h')) : OpOK P o a m h' base w0 w v := by
  obtain ⟨x, y, hargs, hx⟩ := two_args hx
  · have vx := compO_sound hx.1 ht
    have vy := compO_sound hx.2 ht
    simp only [evalOp] at he
    split at he
    · rename_i k1 n1 k2 n2 e1 e2
      cases he
      rw [e1] at vx
      rw [e2] at vy
      simp only [VR] at vx vy
      refine OpOK.same k (cv := .int k1 (if n2 > n1 then n2 else n1)) ?_ (by simp only [VR])
      obtain ⟨cs, hrun⟩ := callB_run (P := P) (w := w) (a := a) ho
      rw [hrun]
      simp [builtin, Builtin.max_, hargs, vx, vy, Builtin.max2]
    · cases he

theorem sound_rangeStr {ty : TypeId} {x : Operand} {mx : MO} (ho : o.op = .range ty x) (hu : isStrT P ty = true) (hx : compO x = some mx) (ht : TR m t a.tmps)
    (k : HR m h base w0 w) (he : evalOp t h (.rangeStr mx) = some (v, h')) : OpOK P o a m h' base w0 w v := by
  have vx := compO_sound hx ht
  have hu' : P.underlying ty = some .string := by
    unfold isStrT at hu
    split at hu
    · assumption
    · cases hu
  simp only [evalOp] at he
  split at he
  · rename_i s ex
    cases he
    rw [ex] at vx
    simp only [VR] at vx
    have hle : m.le (m.upd h.length ⟨w.heap.size, 0, 0, 0⟩) := Emb.le_upd k.none_of_len
    refine ⟨_, w.alloc (.stringIter ⟨s.toArray⟩ 0), hle, k.push (.iter s 0) (.stringIter ⟨s.toArray⟩ 0) 0 0 0 ?_, .inl ⟨.pointer (some ⟨w.heap.size, 0, none⟩), ?_, ?_⟩⟩
    · refine ⟨_, Emb.upd_same _ _ _, k.size, ?_, rfl⟩
      show (w.heap.push _)[w.heap.size]? = _
      simp
    · simp [execOp, ho, Instr.range, run_underlying hu', vx]
    · simp only [VR]
      exact ⟨_, Emb.upd_same _ _ _, rfl⟩
  · cases he

theorem sound_nextStr {x : Operand} {mx : MO} (ho : o.op = .next x true) (hx : compO x = some mx) (ht : TR m t a.tmps)
    (k : HR m h base w0 w) (he : evalOp t h (.nextStr mx) = some (v, h')) : OpOK P o a m h' base w0 w v := by
  have vx := compO_sound hx ht
  simp only [evalOp] at he
  split at he
  · rename_i b ex
    split at he
    · rename_i s pos hb
      rw [ex] at vx
      simp only [VR] at vx
      obtain ⟨e, hm, vx⟩ := vx
      obtain ⟨e', he', hbase, hg, hoff⟩ := k.obj b _ hb
      rw [hm] at he'
      cases he'
      have hoff0 : e.off + 0 = 0 := by omega
      rw [hoff0] at vx
      have hget := getObj_run (P := P) hg (by simp)
      split at he
      · rename_i hlt
        cases he
        refine ⟨m, { w with heap := w.heap.setIfInBounds e.g (.stringIter ⟨s.toArray⟩ (pos + (Utf8.decode ⟨s.toArray⟩ pos).2)) }, Emb.le.refl m, ?_, .inl ⟨.tuple #[.bool true, .int .i64 pos, .int .i32 (Utf8.decode ⟨s.toArray⟩ pos).1], ?_, ?_⟩⟩
        · refine k.change b _ _ e hb hm rfl hbase (by simp) rfl rfl rfl (fun g hg' => ?_) ⟨e, hm, hbase, ?_, hoff⟩
          · simp [Array.getElem?_setIfInBounds_ne (Ne.symm hg')]
          · have := (k.lt b e hm).1
            simp [this]
        · have hsz : pos < (⟨s.toArray⟩ : ByteArray).size := by rw [size_ba]; exact hlt
          simp only [execOp, ho, Instr.next, vx, Sem.run_bind, hget, Result.andThen_ok, if_pos hsz]
          simp [setObj, Sem.run, hg, goInt]
        · simp [VR, VRs]
      · rename_i hge
        cases he
        refine OpOK.same k (cv := .tuple #[.bool false]) ?_ (by simp [VR, VRs])
        have hsz : ¬ pos < (⟨s.toArray⟩ : ByteArray).size := by rw [size_ba]; exact hge
        simp only [execOp, ho, Instr.next, vx, Sem.run_bind, hget, Result.andThen_ok, if_neg hsz, Sem.run_pure]
    · cases he
  · cases he
end
end Go.Abs

set_option linter.unusedVariables false
set_option linter.unusedSimpArgs false
namespace Go.Abs
open Go.RowKit
section
variable {P : Program} {o : Oper} {a : Act} {m : Emb} {h : Heap} {base : Nat} {w0 w : World} {t : Tmps} {v : AV} {h' : Heap}

theorem push_row (k : HR m h base w0 w) {c : List AV} {cs : Array Value} {ty : TypeId} {es : Nat} (hl : c.length ≤ cs.size) (hv : VRs m c (cs.toList.take c.length)) (hc : ∀ x ∈ cs.toList.take c.length, isCell x = true) :
    ∃ m', m.le m' ∧ HR m' (h ++ [.arr c es false]) base w0 (w.alloc (.cells cs ty)) ∧ m' h.length = some ⟨w.heap.size, 0, cs.size, es⟩ := by
  have hle : m.le (m.upd h.length ⟨w.heap.size, 0, cs.size, es⟩) := Emb.le_upd k.none_of_len
  refine ⟨m.upd h.length ⟨w.heap.size, 0, cs.size, es⟩, hle, k.push _ _ _ _ _ ?_, Emb.upd_same _ _ _⟩
  refine ⟨_, Emb.upd_same _ _ _, rfl, cs, ty, (0, 0), ?_, rfl, ?_, fun i v hi => ?_, fun _ => ⟨rfl, k.size⟩, fun hf => by cases hf⟩
  · show (w.heap.push _)[w.heap.size]? = _
    simp
  · show 0 + c.length ≤ cs.size
    omega
  · obtain ⟨cv, h1, h2⟩ := hv.get i v hi
    refine ⟨cv, ?_, VR.mono hle _ _ h2, hc cv (List.mem_of_getElem? h1)⟩
    show cs[0 + i]? = _
    rw [List.getElem?_take] at h1
    split at h1
    · rw [Nat.zero_add, ← Array.getElem?_toList]
      exact h1
    · cases h1

theorem HR.adopt {w' : World} (k : HR m h base w0 w) (o : AObj) (g off sz es : Nat) (hfree : ∀ (x : Nat) (ox : AObj) (ex : Ent), h[x]? = some ox → ox.rw = true → m x = some ex → ex.g ≠ g) (hbase : base ≤ g) (hg : g < w.heap.size)
    (hsz : w'.heap.size = w.heap.size) (hos : w'.os = w.os) (ht : w'.tape = w.tape) (hout : w'.output = w.output) (hother : ∀ x, x ≠ g → w'.heap[x]? = w.heap[x]?)
    (ho : ORel (m.upd h.length ⟨g, off, sz, es⟩) base h.length w' o) : HR (m.upd h.length ⟨g, off, sz, es⟩) (h ++ [o]) base w0 w' := by
  have hle : m.le (m.upd h.length ⟨g, off, sz, es⟩) := Emb.le_upd k.none_of_len
  have roo : ∀ (x : Nat) (ox : AObj) (ex : Ent), h[x]? = some ox → m x = some ex → ox ≠ .dead → ex.g ≠ g := by
    intro x ox ex hx hm hd
    by_cases hr : ox.rw = true
    · exact hfree x ox ex hx hr hm
    · cases ox with
      | dead => exact absurd rfl hd
      | map _ => exact absurd rfl hr
      | iter _ _ => exact absurd rfl hr
      | bld _ _ _ => exact absurd rfl hr
      | arr c es ro =>
        have hro : ro = true := by simpa [AObj.rw] using hr
        obtain ⟨e', he', _, cc, t, fr, _, _, _, _, _, h7⟩ := k.obj x _ hx
        rw [hm] at he'
        cases he'
        have := h7 hro
        omega
  have low : ∀ (b : Nat) (o' : AObj) (e' : Ent), (h ++ [o])[b]? = some o' → (m.upd h.length ⟨g, off, sz, es⟩) b = some e' → b ≠ h.length → h[b]? = some o' ∧ m b = some e' := by
    intro b o' e' hb he hn
    rw [Emb.upd_ne _ _ hn] at he
    have := (k.lt b e' he).2
    rw [List.getElem?_append_left this] at hb
    exact ⟨hb, he⟩
  refine ⟨k.below.trans ⟨hos, ht, hout, by omega, fun i hi => hother i (by omega)⟩, by have := k.size; omega, fun b o' hb => ?_, fun b e he => ?_, fun b1 b2 o1 o2 e1 e2 h1 h2 r1 r2 m1 m2 hne => ?_⟩
  · rw [List.getElem?_append] at hb
    split at hb
    · rename_i hlt
      by_cases hd : o' = .dead
      · subst hd; trivial
      · exact (k.obj b o' hb).mono hle fun e he => hother _ (roo b o' e hb he hd)
    · rename_i hge
      have : b = h.length := by
        have : b - h.length < [o].length := by
          rcases Nat.lt_or_ge (b - h.length) [o].length with h' | h'
          · exact h'
          · rw [List.getElem?_eq_none h'] at hb; cases hb
        simp at this; omega
      subst this
      simp at hb; subst hb
      exact ho
  · by_cases hb : b = h.length
    · subst hb
      rw [Emb.upd_same] at he
      cases he
      simp
      omega
    · rw [Emb.upd_ne _ _ hb] at he
      have := k.lt b e he
      simp; omega
  · by_cases c1 : b1 = h.length
    · by_cases c2 : b2 = h.length
      · omega
      · obtain ⟨p2, q2⟩ := low b2 o2 e2 h2 m2 c2
        subst c1
        rw [Emb.upd_same] at m1
        cases m1
        exact Ne.symm (hfree b2 o2 e2 p2 r2 q2)
    · by_cases c2 : b2 = h.length
      · obtain ⟨p1, q1⟩ := low b1 o1 e1 h1 m1 c1
        subst c2
        rw [Emb.upd_same] at m2
        cases m2
        exact hfree b1 o1 e1 p1 r1 q1
      · obtain ⟨p1, q1⟩ := low b1 o1 e1 h1 m1 c1
        obtain ⟨p2, q2⟩ := low b2 o2 e2 h2 m2 c2
        exact k.uniq b1 b2 o1 o2 e1 e2 p1 p2 r1 r2 q1 q2 hne

theorem flatrep_get {mz : List AV} : ∀ (n j : Nat), (List.flatten (List.replicate n mz))[j]? = if j < n * mz.length then mz[j % mz.length]? else none
  | 0, j => by simp
  | n + 1, j => by
    rw [List.replicate_succ, List.flatten_cons, List.getElem?_append, flatrep_get n (j - mz.length), Nat.succ_mul]
    by_cases h1 : j < mz.length
    · rw [if_pos h1, if_pos (by omega), Nat.mod_eq_of_lt h1]
    · rw [if_neg h1]
      have e : (j - mz.length) % mz.length = j % mz.length := (Nat.mod_eq_sub_mod (by omega)).symm
      rw [e]
      by_cases h2 : j - mz.length < n * mz.length
      · rw [if_pos h2, if_pos (by omega)]
      · rw [if_neg h2, if_neg (by omega)]

theorem runesFrom_ascii (s : List UInt8) (hs : s.all (fun c => Nat.blt c.toNat 128) = true) : ∀ (n i : Nat) (acc : Array Value), s.length = i + n → Conv.runesFrom ⟨s.toArray⟩ n i acc = acc ++ ((s.drop i).map fun c => Value.int .i32 c.toNat).toArray
  | 0, i, acc, h => by
    rw [List.drop_eq_nil_of_le (by omega)]
    simp [Conv.runesFrom]
  | n + 1, i, acc, h => by
    have hi : i < s.length := by omega
    have hd : Utf8.decode ⟨s.toArray⟩ i = ((s[i]).toNat, 1) := by
      have hg : (ByteArray.get! ⟨s.toArray⟩ (i + 0)) = s[i] := by
        show (s.toArray)[i + 0]! = s[i]
        simp [hi]
      unfold Utf8.decode
      simp only [hg]
      rw [if_pos]
      have := List.all_eq_true.1 hs s[i] (List.getElem_mem hi)
      simp only [Nat.blt, Nat.ble_eq] at this
      omega
    have hsz : (⟨s.toArray⟩ : ByteArray).size = s.length := size_ba s
    unfold Conv.runesFrom
    rw [if_pos (by omega), hd]
    simp only
    rw [runesFrom_ascii s hs n (i + 1) _ (by omega), List.drop_eq_getElem_cons hi, List.map_cons]
    apply Array.ext'
    simp

theorem sound_runes {src dst e : TypeId} {x : Operand} {mx : MO} (ho : o.op = .convert src dst x) (hs : P.underlying src = some .string) (hd : P.underlying dst = some (.slice e)) (hx : compO x = some mx) (he : P.underlying e = some (.int .i32)) (ht : TR m t a.tmps)
    (k : HR m h base w0 w) (hev : evalOp t h (.runes mx) = some (v, h')) : OpOK P o a m h' base w0 w v := by
  have vx := compO_sound hx ht
  simp only [evalOp] at hev
  split at hev
  · rename_i s ex
    split at hev
    · rename_i hh
      cases hev
      rw [ex] at vx
      simp only [VR] at vx
      have hr := runesFrom_ascii s hh.1 s.length 0 #[] (by omega)
      simp only [List.drop_zero, Array.empty_append] at hr
      have hsz : (⟨s.toArray⟩ : ByteArray).size = s.length := size_ba s
      have hrun := run_runes_of_string (P := P) w src dst e ⟨s.toArray⟩ hs hd he (by rw [hsz, hr]; simpa using hh.2)
      rw [hsz, hr] at hrun
      have hn : ((s.map fun c => Value.int .i32 (c.toNat : Int)).toArray).size = s.length := by simp
      rw [hn] at hrun
      generalize hcap : grownCap w s.length 0 e = cap at hrun
      have hge : s.length ≤ cap := by rw [← hcap]; have := grownCap_ge w s.length 0 e; omega
      have htk : ((s.map fun c => Value.int .i32 (c.toNat : Int)).toArray ++ Array.replicate (cap - s.length) (Value.int .i32 0)).toList.take (s.map fun c => AV.int .i32 (c.toNat : Int)).length = s.map fun c => Value.int .i32 (c.toNat : Int) := by
        simp
      obtain ⟨m', hle', hk', hm⟩ := push_row (k.drewN) (c := s.map fun c => AV.int .i32 (c.toNat : Int)) (cs := (s.map fun c => Value.int .i32 (c.toNat : Int)).toArray ++ Array.replicate (cap - s.length) (Value.int .i32 0)) (ty := e) (es := 1) (by simp)
        (by
          rw [htk]
          refine VRs.of_get (by simp) fun i u hi => ?_
          simp only [List.getElem?_map, Option.map_eq_some_iff] at hi
          obtain ⟨c, hc, rfl⟩ := hi
          exact ⟨.int .i32 (c.toNat : Int), by simp [hc], by simp only [VR]⟩)
        (by
          rw [htk]
          intro q hq
          obtain ⟨c, _, rfl⟩ := List.mem_map.1 hq
          rfl)
      refine ⟨m', _, hle', hk', .inl ⟨.slice (some ⟨w.heap.size, 0, none⟩) s.length cap, ?_, ?_⟩⟩
      · simp only [execOp, ho, vx, Sem.run_bind, hrun, Result.andThen_ok, Sem.run_pure]
      · simp only [VR]
        exact ⟨_, hm, .inl ⟨cap, rfl, hge, by simp; omega⟩⟩
    · cases hev
  · cases hev

theorem sound_mkSlice {ty e : TypeId} {i : TypeInfo} {z : Value} {x y : Operand} {mx my : MO} {mz : List AV} (ho : o.op = .makeSlice ty x y) (hu : P.underlying ty = some (.slice e)) (hi : P.info? e = some i) (hz : i.zero = some z)
    (hmz : toCells z.cells.toList = some mz) (hzs : z.cells.size = i.size ∧ i.bytes ≠ 0) (hx : compO x = some mx) (hy : compO y = some my) (ht : TR m t a.tmps) (k : HR m h base w0 w)
    (he : evalOp t h (.mkSlice mz i.bytes mx my) = some (v, h')) : OpOK P o a m h' base w0 w v := by
  have vx := compO_sound hx ht
  have vy := compO_sound hy ht
  simp only [evalOp] at he
  split at he
  · rename_i l c hl hc
    split at he
    · rename_i hh
      cases he
      rw [hl] at vx
      rw [hc] at vy
      simp only [VR] at vx vy
      obtain ⟨h0, hlc, hbc⟩ := hh
      obtain ⟨hzs, hb⟩ := hzs
      obtain ⟨hv, hk⟩ := toCells_sound (m := m) hmz
      have hml : mz.length = i.size := by
        have := hv.length
        simp at this
        omega
      have hsize : (madeCells z.cells (c.toNat * i.size)).size = c.toNat * i.size := size_madeCells _ _
      have hlen : (List.flatten (List.replicate l.toNat mz)).length = l.toNat * i.size := by simp [hml]
      have hle : l.toNat * i.size ≤ c.toNat * i.size := Nat.mul_le_mul_right _ (by omega)
      have hget : ∀ j, j < c.toNat * i.size → (madeCells z.cells (c.toNat * i.size)).toList[j]? = z.cells.toList[j % i.size]? := by
        intro j hj
        have hpos : 0 < i.size := by
          rcases Nat.eq_zero_or_pos i.size with h1 | h1
          · rw [h1] at hj; simp at hj
          · exact h1
        have hm' : j % z.cells.size < z.cells.size := by rw [hzs]; exact Nat.mod_lt _ hpos
        have hj2 : j % i.size < z.cells.size := by rw [← hzs]; exact hm'
        simp only [madeCells, Array.getElem?_toList, Array.getElem?_map, Array.getElem?_range, if_pos hj, Option.map_some]
        rw [getElem!_pos z.cells _ hm', Array.getElem?_eq_getElem hj2]
        simp only [hzs]
      have hrow : ∀ (j : Nat) (u : AV), (List.flatten (List.replicate l.toNat mz))[j]? = some u → ∃ cv, ((madeCells z.cells (c.toNat * i.size)).toList.take (List.flatten (List.replicate l.toNat mz)).length)[j]? = some cv ∧ VR m u cv := by
        intro j u hj
        have hjl := (List.getElem?_eq_some_iff.1 hj).1
        rw [flatrep_get] at hj
        split at hj
        · rename_i hlt
          rw [hml] at hj hlt
          obtain ⟨cv, h1, h2⟩ := hv.get _ u hj
          exact ⟨cv, by rw [List.getElem?_take, if_pos hjl, hget j (by omega)]; exact h1, h2⟩
        · cases hj
      have hcell : ∀ q ∈ (madeCells z.cells (c.toNat * i.size)).toList.take (List.flatten (List.replicate l.toNat mz)).length, isCell q = true := by
        intro q hq
        obtain ⟨j, hj⟩ := List.mem_iff_getElem?.1 (List.mem_of_mem_take hq)
        have hjl := (List.getElem?_eq_some_iff.1 hj).1
        rw [hget j (by simpa [hsize] using hjl)] at hj
        exact hk q (List.mem_of_getElem? hj)
      obtain ⟨m', hle', hk', hm⟩ := push_row k (c := List.flatten (List.replicate l.toNat mz)) (cs := madeCells z.cells (c.toNat * i.size)) (ty := e) (es := mz.length) (by rw [hlen, hsize]; exact hle)
        (VRs.of_get (by rw [List.length_take, hlen, Array.length_toList, hsize]; omega) hrow) hcell
      have hbc' : (i.bytes : Int) * c ≤ 281474976710656 := by rw [Int.mul_comm]; omega
      have hc63 : c ≤ 9223372036854775807 := by
        have : c * 1 ≤ c * (i.bytes : Int) := Int.mul_le_mul_of_nonneg_left (by omega) (by omega)
        omega
      refine ⟨m', _, hle', hk', .inl ⟨.slice (some ⟨w.heap.size, 0, none⟩) l.toNat c.toNat, ?_, ?_⟩⟩
      · simp only [execOp, ho, vx, vy, Sem.run_bind, run_make w ty e i z hu hi hz _ _ l c h0 hlc hbc' hc63, Result.andThen_ok, Sem.run_pure]
      · simp only [VR]
        exact ⟨_, hm, .inl ⟨c.toNat, rfl, by omega, by simp [hsize, hml]⟩⟩
    · cases he
  · cases he

theorem append_eq {args : Array Operand} {argTypes : Array TypeId} {ty u e e2 rt : TypeId} {x y : Value} {vals : Array Value} (h0 : argTypes[0]? = some ty) (h1 : argTypes[1]? = some u) (ht : P.underlying ty = some (.slice e)) (hu : P.underlying u = some (.slice e2)) (hx : vals[0]? = some x) (hy : vals[1]? = some y) :
    (Builtin.append_ argTypes rt vals).run P w = (Builtin.append_ #[ty, ty] rt #[x, y]).run P w := by
  cases x <;> simp [Builtin.append_, h0, h1, hx, hy, run_underlying ht, run_underlying hu]

theorem rowOf_sound (k : HR m h base w0 w) {es : Nat} {x : AV} {n : Nat} {new : List AV} {cx : Value} (hn : lenOf x = some n) (hr : rowOf h es x = some new) (h0 : n ≠ 0) (hx : VR m x cx) :
    ∃ ad c cs, cx = .slice (some ad) n c ∧ cs.length = n * es ∧ (∀ j u, cs[j]? = some u → w.cell? (ad.add j) = some u) ∧ VRs m new cs ∧ (∀ c ∈ cs, isCell c = true) := by
  cases x <;> simp only [lenOf, Option.some.injEq, reduceCtorEq] at hn
  · rename_i b off n'
    subst hn
    simp only [rowOf] at hr
    obtain ⟨e, cs, he, hlen, hc, hv, hk⟩ := rdCells_sound k hr
    simp only [VR] at hx
    obtain ⟨e', he', hx⟩ := hx
    rw [he] at he'
    cases he'
    rcases hx with ⟨c, rfl, _, _⟩ | ⟨h1, _⟩
    · exact ⟨_, c, cs, rfl, hlen, fun j u hj => by rw [add_at]; exact hc j u hj, hv, hk⟩
    · exact absurd h1 h0
  · exact absurd hn.symm h0

theorem grown_sound (k : HR m h base w0 w) {es bytes : Nat} {ty rt e : TypeId} {i : TypeInfo} {z : Value} (ht : P.underlying ty = some (.slice e)) (hi : P.info? e = some i) (hz : i.zero = some z) (hes : i.size = es) (hby : i.bytes = bytes) (hzs : z.cells.size = es) (hpos : 0 < es) (hbp : 0 < bytes)
    {hb : Heap} (hkb : HR m hb base w0 w) {old new : List AV} {l n cap c : Nat} {olds news : List Value} {ad0 : Option Addr} {ad : Addr} (hnone : ad0 = none → l = 0 ∧ cap = 0)
    (hol : olds.length = l * es) (ho : ∀ b, ad0 = some b → ∀ j u, olds[j]? = some u → w.cell? (b.add j) = some u) (hov : VRs m old olds) (hoc : ∀ c ∈ olds, isCell c = true)
    (hnl : news.length = n * es) (hnc : ∀ j u, news[j]? = some u → w.cell? (ad.add j) = some u) (hnv : VRs m new news) (hnk : ∀ c ∈ news, isCell c = true)
    (hgrow : cap < l + n) (hbytes : (l + n) * bytes ≤ 140737488355328) :
    ∃ m' w' cv, m.le m' ∧ HR m' (hb ++ [.arr (old ++ new) es false]) base w0 w' ∧ (Builtin.append_ #[ty, ty] rt #[.slice ad0 l cap, .slice (some ad) n c]).run P w = .ok cv w' ∧ VR m' (.slice hb.length 0 (l + n)) cv := by
  subst hes hby
  have hsum : l + n ≤ 140737488355328 := Nat.le_trans (Nat.le_mul_of_pos_right _ hbp) hbytes
  have hlen : (olds ++ news).length = (l + n) * i.size := by rw [List.length_append, hol, hnl, Nat.add_mul]
  have hvv : VRs m (old ++ new) (olds ++ news) := hov.append hnv
  have hcc : ∀ x ∈ olds ++ news, isCell x = true := fun x hx => (List.mem_append.1 hx).elim (hoc x) (hnk x)
  have hab : (old ++ new).length = (olds ++ news).length := hvv.length.symm
  have hge := grownCap_ge w (l + n) cap e
  have key : ∀ cells : Array Value, cells = olds.toArray ++ news.toArray ++ Builtin.zeroCells z.cells (grownCap w (l + n) cap e - (l + n)) →
      cells.size = grownCap w (l + n) cap e * i.size ∧ cells.toList.take (old ++ new).length = olds ++ news := by
    rintro cells rfl
    constructor
    · simp only [Array.size_append, List.size_toArray, size_zeroCells, hzs, hol, hnl, ← Nat.add_mul]
      congr 1
      omega
    · simp only [Array.toList_append, List.append_assoc]
      rw [← List.append_assoc, hab]
      exact List.take_left
  obtain ⟨k1, k2⟩ := key _ rfl
  have hle : (old ++ new).length ≤ (olds.toArray ++ news.toArray ++ Builtin.zeroCells z.cells (grownCap w (l + n) cap e - (l + n))).size := by
    rw [hab, hlen, k1]
    exact Nat.mul_le_mul_right _ hge
  obtain ⟨m', hm, hk', hent⟩ := push_row (hkb.drewN) (ty := e) (es := i.size) hle (by rw [k2]; exact hvv) (by rw [k2]; exact hcc)
  refine ⟨m', _, .slice (some ⟨w.heap.size, 0, none⟩) (l + n) (grownCap w (l + n) cap e), hm, hk', ?_, ?_⟩
  · cases ad0 with
    | none =>
      obtain ⟨rfl, rfl⟩ := hnone rfl
      obtain rfl : olds = [] := List.eq_nil_of_length_eq_zero (by simpa using hol)
      rw [Nat.zero_add] at hbytes
      have := run_append_nil (P := P) (w := w) ty rt e i z ht hi hz ad n c news hnl hnc (by omega) (by omega) (by omega)
      simpa using this
    | some b => exact run_append_grow (P := P) (w := w) ty rt e i z ht hi hz b l cap olds hol (ho b rfl) ad n c news hnl hnc hgrow (by omega) (growslice_fits hgrow hbytes)
  · simp only [VR]
    refine ⟨_, hent, .inl ⟨_, rfl, hge, ?_⟩⟩
    show 0 + 0 + _ * i.size ≤ (olds.toArray ++ news.toArray ++ Builtin.zeroCells z.cells (grownCap w (l + n) cap e - (l + n))).size
    rw [k1]
    exact Nat.le_of_eq (by omega)

theorem room_sound (k : HR m h base w0 w) {es : Nat} {ty rt e0 : TypeId} {i : TypeInfo} (ht : P.underlying ty = some (.slice e0)) (hi : P.info? e0 = some i) (hes : i.size = es)
    {b off l n cap c' : Nat} {c new : List AV} {e : Ent} {news : List Value} {ad : Addr} (hb : h[b]? = some (.arr c es false)) (hcl : off + l * es ≤ c.length) (he : m b = some e) (hcap : e.off + off + cap * es ≤ e.sz) (hroom : l + n ≤ cap)
    (hnl : news.length = n * es) (hnc : ∀ j u, news[j]? = some u → w.cell? (ad.add j) = some u) (hnv : VRs m new news) (hnk : ∀ c ∈ news, isCell c = true) :
    ∃ m' w' cv, m.le m' ∧ HR m' (h.set b .dead ++ [.arr ((c.drop off).take (l * es) ++ new) es false]) base w0 w' ∧ (Builtin.append_ #[ty, ty] rt #[.slice (some ⟨e.g, e.off + off, none⟩) l cap, .slice (some ad) n c']).run P w = .ok cv w' ∧ VR m' (.slice (h.set b .dead).length 0 (l + n)) cv := by
  subst hes
  obtain ⟨e', he', hes, cc, t, fr, hg, hsz, hoff, hcell, hrw, _⟩ := k.arr hb
  rw [he] at he'
  cases he'
  obtain ⟨rfl, hbase⟩ := hrw rfl
  have hmul : (l + n) * i.size = l * i.size + n * i.size := Nat.add_mul _ _ _
  have hmul2 : (l + n) * i.size ≤ cap * i.size := Nat.mul_le_mul_right _ hroom
  have hst := run_storeCells_at P e.g (e.off + off + l * i.size) t news 0 cc w hg (by omega) (fun v hv => oneCell_of (hnk v hv))
  have hfc := run_firstCells_some (P := P) w i.size n ad n c' news hnl hnc
  have hnn := hnv.length
  have kb := k.kill b
  refine ⟨m.upd (h.set b .dead).length ⟨e.g, e.off + off, e.sz, i.size⟩, w.setRow e.g (cc.toList.take (e.off + off + l * i.size + 0) ++ news ++ cc.toList.drop (e.off + off + l * i.size + 0 + news.length)).toArray, .slice (some ⟨e.g, e.off + off, none⟩) (l + n) cap, Emb.le_upd kb.none_of_len,
    kb.adopt (.arr ((c.drop off).take (l * i.size) ++ new) i.size false) e.g (e.off + off) e.sz i.size (fun x ox ex hx hr hm => ?_) hbase (k.lt b e he).1 (by simp [World.setRow]) rfl rfl rfl (fun x hx => setRow_other _ _ _ _ hx) ?_, ?_, ?_⟩
  · rw [List.getElem?_set] at hx
    by_cases hxb : b = x
    · subst hxb
      rw [if_pos rfl] at hx
      split at hx
      · cases hx; cases hr
      · cases hx
    · rw [if_neg hxb] at hx
      exact k.uniq x b ox _ ex e hx hb hr rfl hm he (Ne.symm hxb)
  · refine ⟨_, Emb.upd_same _ _ _, rfl, _, t, (0, 0), setRow_same _ _ _ _ _ _ hg, ?_, ?_, fun j v hj => ?_, fun _ => ⟨rfl, hbase⟩, fun hf => by cases hf⟩
    · simp; omega
    · simp; omega
    · have hle : m.le (m.upd (h.set b .dead).length ⟨e.g, e.off + off, e.sz, i.size⟩) := Emb.le_upd kb.none_of_len
      simp only [List.getElem?_toArray, Nat.add_zero]
      rw [List.getElem?_append] at hj
      split at hj
      · rename_i hlt
        simp only [List.length_take, List.length_drop] at hlt
        rw [List.getElem?_take, if_pos (by omega), List.getElem?_drop] at hj
        obtain ⟨cv, h1, h2, h3⟩ := hcell _ _ hj
        refine ⟨cv, ?_, VR.mono hle _ _ h2, h3⟩
        rw [List.append_assoc, List.getElem?_append_left (by simp; omega), List.getElem?_take, if_pos (by omega), Array.getElem?_toList]
        rw [← h1]
        congr 1
        omega
      · rename_i hge
        simp only [List.length_take, List.length_drop] at hge hj
        obtain ⟨cv, h1, h2⟩ := hnv.get _ _ hj
        refine ⟨cv, ?_, VR.mono hle _ _ h2, hnk cv (List.mem_of_getElem? h1)⟩
        have hlt2 := (List.getElem?_eq_some_iff.1 h1).1
        rw [List.append_assoc, List.getElem?_append_right (by simp; omega), List.getElem?_append_left (by simp; omega)]
        rw [← h1]
        congr 1
        simp
        omega
  · simp only [Nat.add_zero] at hst
    simp [Builtin.append_, run_underlying ht, Go.sizeOf, typeInfo, hi, Builtin.lenOf, hroom, hfc, Addr.add_lit, hst]
  · simp only [VR]
    exact ⟨_, Emb.upd_same _ _ _, .inl ⟨cap, rfl, hroom, by simpa using hcap⟩⟩

theorem call_append {b : Array Operand} {argTypes : Array TypeId} {rt : Value} {w' : World} (ho : o.op = .call { callee := .builtin .append, args := b, argTypes }) (hr : (Builtin.append_ argTypes o.type (b.map a.eval)).run P w = .ok rt w') : (execOp a.eval o).run P w = .ok (.value rt) w' := by
  obtain ⟨cs, hrun⟩ := callB_run (P := P) (w := w) (a := a) ho
  rw [hrun]
  simp [builtin, hr]

theorem append_none {ty rt e : TypeId} {i : TypeInfo} (ht : P.underlying ty = some (.slice e)) (hi : P.info? e = some i) {s x : AV} {cs cx : Value} {l : Nat} (hl : lenOf s = some l) (hn : lenOf x = some 0) (vs : VR m s cs) (vx : VR m x cx) :
    (Builtin.append_ #[ty, ty] rt #[cs, cx]).run P w = .ok cs w := by
  have hfc : (Builtin.firstCells i.size 0 cx).run P w = .ok #[] w ∧ ∃ ax c, cx = .slice ax 0 c := by
    cases x <;> simp only [lenOf, Option.some.injEq, reduceCtorEq] at hn
    · rename_i b off n
      subst hn
      simp only [VR] at vx
      obtain ⟨e, he, ⟨c, rfl, _⟩ | ⟨_, a', rfl⟩⟩ := vx
      · have := run_firstCells_some (P := P) w i.size 0 ⟨e.g, e.off + off, none⟩ 0 c [] (by simp) (by simp)
        exact ⟨by simpa using this, _, _, rfl⟩
      · have := run_firstCells_some (P := P) w i.size 0 a' 0 0 [] (by simp) (by simp)
        exact ⟨by simpa using this, _, _, rfl⟩
    · simp only [VR] at vx
      subst vx
      exact ⟨by simp [Builtin.firstCells], _, _, rfl⟩
  obtain ⟨hfc, ax, c, rfl⟩ := hfc
  have hsl : ∃ as' cp, cs = .slice as' l cp ∧ l ≤ cp := by
    cases s <;> simp only [lenOf, Option.some.injEq, reduceCtorEq] at hl
    · subst hl
      simp only [VR] at vs
      obtain ⟨e, he, ⟨c, rfl, hc, _⟩ | ⟨h0, a', rfl⟩⟩ := vs
      · exact ⟨_, c, rfl, hc⟩
      · subst h0
        exact ⟨_, 0, rfl, Nat.le_refl _⟩
    · subst hl
      simp only [VR] at vs
      subst vs
      exact ⟨_, 0, rfl, Nat.le_refl _⟩
  obtain ⟨as', cp, rfl, hcp⟩ := hsl
  cases as' <;> simp [Builtin.append_, run_underlying ht, Go.sizeOf, typeInfo, hi, Builtin.lenOf, hcp, hfc, storeCells]

theorem sound_append {args : Array Operand} {argTypes : Array TypeId} {ty u e e2 : TypeId} {i : TypeInfo} {z : Value} {ms mx : MO} (ho : o.op = .call { callee := .builtin .append, args, argTypes }) (h0 : argTypes[0]? = some ty) (h1 : argTypes[1]? = some u)
    (hty : P.underlying ty = some (.slice e)) (hu : P.underlying u = some (.slice e2)) (hi : P.info? e = some i) (hsz : ¬ (i.size = 0 ∨ i.bytes = 0)) (hz : i.zero = some z) (hzs : z.cells.size = i.size)
    (hs : args[0]?.bind compO = some ms) (hx : args[1]?.bind compO = some mx) (ht : TR m t a.tmps) (k : HR m h base w0 w) (he : evalOp t h (.append i.size i.bytes ms mx) = some (v, h')) : OpOK P o a m h' base w0 w v := by
  obtain ⟨cs, es1, vs⟩ := args_get hs ht
  obtain ⟨cx, ex1, vx⟩ := args_get hx ht
  have heq := append_eq (P := P) (w := w) (args := args) (rt := o.type) h0 h1 hty hu es1 ex1
  simp only [evalOp] at he
  split at he
  · rename_i n new hn hr
    unfold appendAV at he
    split at he
    · rename_i l old hA hl htk
      by_cases hn0 : n = 0
      · subst hn0
        have hrun := append_none (m := m) (w := w) (rt := o.type) hty hi hl hn vs vx
        rw [if_pos rfl] at he
        refine ⟨m, w, Emb.le.refl m, ?_, .inl ⟨cs, call_append ho (heq.trans hrun), ?_⟩⟩
        · split at he <;> cases he <;> exact k
        · split at he
          · rename_i hss
            cases he
            rw [hss] at vs
            exact vs
          · rename_i hss
            cases he
            rw [hss] at vs
            exact vs
          · cases he
      · rw [if_neg hn0] at he
        split at he
        · rename_i hbytes
          cases he
          obtain ⟨ad, c', news, rfl, hnl, hnc, hnv, hnk⟩ := rowOf_sound k hn hr hn0 vx
          have hpos : 0 < i.size := by omega
          have hbp : 0 < i.bytes := by omega
          generalize ms.eval t = S at hl htk vs
          cases S <;> simp only [lenOf, Option.some.injEq, reduceCtorEq] at hl
          · rename_i b off k'
            subst hl
            simp only [takeRow] at htk
            split at htk
            · rename_i c es' hb
              split at htk
              · rename_i hcond
                obtain ⟨rfl, hcl⟩ := hcond
                cases htk
                simp only [VR] at vs
                obtain ⟨e', hm, hcase⟩ := vs
                have hrd : rdCells h b off (k' * i.size) = some ((c.drop off).take (k' * i.size)) := by simp [rdCells, hb, hcl]
                obtain ⟨e1, olds, he1, hol, ho1, hov, hoc⟩ := rdCells_sound k hrd
                rw [hm] at he1
                cases he1
                obtain ⟨e2', he2, hes, _⟩ := k.arr hb
                rw [hm] at he2
                cases he2
                rcases hcase with ⟨cp, rfl, hlc, hfit⟩ | ⟨rfl, a', rfl⟩
                · by_cases hroom : k' + n ≤ cp
                  · obtain ⟨m', w', cv, h1', h2', h3', h4'⟩ := room_sound (P := P) (rt := o.type) (c' := c') k hty hi rfl hb hcl hm (by rw [← hes]; exact hfit) hroom hnl hnc hnv hnk
                    exact ⟨m', w', h1', h2', .inl ⟨cv, call_append ho (heq.trans h3'), h4'⟩⟩
                  · obtain ⟨m', w', cv, h1', h2', h3', h4'⟩ := grown_sound (P := P) (rt := o.type) (c := c') k hty hi hz rfl rfl hzs hpos hbp (k.kill b) (ad0 := some ⟨e'.g, e'.off + off, none⟩) (cap := cp) (fun hf => by cases hf) hol (fun b' hb' j u' hj => by cases hb'; rw [add_at]; exact ho1 j u' hj) hov hoc hnl hnc hnv hnk (by omega) hbytes
                    exact ⟨m', w', h1', h2', .inl ⟨cv, call_append ho (heq.trans h3'), h4'⟩⟩
                · obtain ⟨m', w', cv, h1', h2', h3', h4'⟩ := grown_sound (P := P) (rt := o.type) (c := c') k hty hi hz rfl rfl hzs hpos hbp (k.kill b) (ad0 := some a') (cap := 0) (l := 0) (olds := olds) (fun hf => by cases hf) hol (fun b' hb' j u' hj => by
                    have : olds.length = 0 := by rw [hol]; simp
                    rw [List.eq_nil_of_length_eq_zero this] at hj
                    simp at hj) hov hoc hnl hnc hnv hnk (by omega) hbytes
                  exact ⟨m', w', h1', h2', .inl ⟨cv, call_append ho (heq.trans h3'), h4'⟩⟩
              · cases htk
            · cases htk
          · subst hl
            simp only [takeRow, Option.some.injEq, Prod.mk.injEq] at htk
            obtain ⟨rfl, rfl⟩ := htk
            simp only [VR] at vs
            subst vs
            obtain ⟨m', w', cv, h1', h2', h3', h4'⟩ := grown_sound (P := P) (rt := o.type) (c := c') k hty hi hz rfl rfl hzs hpos hbp k (ad0 := none) (cap := 0) (l := 0) (old := []) (olds := []) (fun _ => ⟨rfl, rfl⟩) (by simp) (fun b' hb' => by cases hb') (by simp [VRs]) (by simp) hnl hnc hnv hnk (by omega) hbytes
            exact ⟨m', w', h1', h2', .inl ⟨cv, call_append ho (heq.trans h3'), h4'⟩⟩
        · cases he
    · cases he
  · cases he
end
end Go.Abs

set_option linter.unusedVariables false
set_option linter.unusedSimpArgs false
namespace Go.Abs
open Go.RowKit Go.MapKept
section
variable {P : Program} {o : Oper} {a : Act} {m : Emb} {h : Heap} {base : Nat} {w0 w : World} {t : Tmps} {v : AV} {h' : Heap}

def bs (s : List UInt8) : Value := .string ⟨s.toArray⟩

theorem sameNow_str (s s' : List UInt8) : Instr.sameNow .string (bs s) (bs s') = some (s == s') := by
  simp only [bs, Instr.sameNow, ba_eq]

theorem cellEq_str {s : List UInt8} {x : AV} {b : Bool} (h : cellEq (.str s) x = some b) : ∃ s', x = .str s' ∧ b = (s == s') := by
  cases x <;> simp only [cellEq] at h <;> first
    | (cases h; done)
    | (injection h with h; exact ⟨_, rfl, h.symm⟩)

theorem find_sound {s : List UInt8} : ∀ {es : List (AV × AV)} {l : List MapEntry} {r : Option AV} (i : Nat), MapR m es l → findKey (.str s) es = some r →
    (r = none ∧ Instr.findNow .string (bs s) l i = some none) ∨ ∃ j v cv, r = some v ∧ Instr.findNow .string (bs s) l i = some (some (j, cv)) ∧ VR m v cv
  | [], l, r, i, hm, hf => by
    simp only [MapR] at hm
    subst hm
    simp only [findKey, Option.some.injEq] at hf
    exact .inl ⟨hf.symm, rfl⟩
  | (k, v) :: es, l, r, i, hm, hf => by
    simp only [MapR] at hm
    obtain ⟨e, es', rfl, h1, h2, h3⟩ := hm
    simp only [findKey] at hf
    split at hf
    · rename_i hc
      obtain ⟨s', rfl, hb⟩ := cellEq_str hc
      injection hf with hf
      subst hf
      simp only [VR] at h1
      have hs := sameNow_str s s'
      rw [← hb] at hs
      refine .inr ⟨i, v, e.val, rfl, ?_, h2⟩
      simp only [Instr.findNow, h1]
      rw [show Value.string ⟨s'.toArray⟩ = bs s' from rfl, hs]
    · rename_i hc
      obtain ⟨s', rfl, hb⟩ := cellEq_str hc
      simp only [VR] at h1
      have hs := sameNow_str s s'
      rw [← hb] at hs
      have e1 : Instr.findNow .string (bs s) (e :: es') i = Instr.findNow .string (bs s) es' (i + 1) := by
        simp only [Instr.findNow, h1]
        rw [show Value.string ⟨s'.toArray⟩ = bs s' from rfl, hs]
      rw [e1]
      exact find_sound (i + 1) h3 hf
    · cases hf

theorem set_sound {s : List UInt8} {v : AV} {cv : Value} (hv : VR m v cv) : ∀ {es es1 : List (AV × AV)} {l : List MapEntry} (i : Nat), MapR m es l → setKey (.str s) v es = some es1 →
    (Instr.findNow .string (bs s) l i = some none ∧ ∀ b, MapR m es1 (l ++ [⟨bs s, cv, b⟩])) ∨
    ∃ j cv0 e, Instr.findNow .string (bs s) l i = some (some (i + j, cv0)) ∧ l[j]? = some e ∧ e.key = bs s ∧ MapR m es1 (l.modify j fun e => { e with key := bs s, val := cv })
  | [], es1, l, i, hm, hf => by
    simp only [MapR] at hm
    subst hm
    simp only [setKey, Option.some.injEq] at hf
    subst hf
    refine .inl ⟨rfl, fun b => ?_⟩
    simp only [MapR]
    exact ⟨_, _, rfl, rfl, hv, rfl⟩
  | (k, u) :: es, es1, l, i, hm, hf => by
    simp only [MapR] at hm
    obtain ⟨e, es', rfl, h1, h2, h3⟩ := hm
    simp only [setKey] at hf
    split at hf
    · rename_i hc
      obtain ⟨s', rfl, hb⟩ := cellEq_str hc
      injection hf with hf
      subst hf
      simp only [VR] at h1
      have hs := sameNow_str s s'
      rw [← hb] at hs
      have hss : s = s' := by simpa using hb.symm
      subst hss
      refine .inr ⟨0, e.val, e, ?_, rfl, h1, ?_⟩
      · simp only [Instr.findNow, h1]
        rw [show Value.string ⟨s.toArray⟩ = bs s from rfl, hs]
        rfl
      · simp only [List.modify_zero_cons, MapR]
        exact ⟨_, _, rfl, rfl, hv, h3⟩
    · rename_i hc
      obtain ⟨s', rfl, hb⟩ := cellEq_str hc
      have h1' := h1
      simp only [VR] at h1
      have hs := sameNow_str s s'
      rw [← hb] at hs
      simp only [Option.map_eq_some_iff] at hf
      obtain ⟨es2, hf, rfl⟩ := hf
      have e1 : Instr.findNow .string (bs s) (e :: es') i = Instr.findNow .string (bs s) es' (i + 1) := by
        simp only [Instr.findNow, h1]
        rw [show Value.string ⟨s'.toArray⟩ = bs s' from rfl, hs]
      rcases set_sound hv (i + 1) h3 hf with ⟨g1, g2⟩ | ⟨j, cv0, e', g1, g2, g3, g4⟩
      · refine .inl ⟨by rw [e1, g1], fun b => ?_⟩
        simp only [List.cons_append, MapR]
        exact ⟨_, _, rfl, h1', h2, g2 b⟩
      · refine .inr ⟨j + 1, cv0, e', by rw [e1, g1]; congr 3; omega, by simpa using g2, g3, ?_⟩
        simp only [List.modify_succ_cons, MapR]
        exact ⟨_, _, rfl, h1', h2, g4⟩
    · cases hf

theorem keyOk_str {x : AV} (h : keyOk x = true) : ∃ s, x = .str s := by
  cases x <;> simp only [keyOk, Bool.false_eq_true] at h
  exact ⟨_, rfl⟩

theorem zeroAV_sound {v : Value} {x : AV} (hz : zeroAV v = some x) : VR m x v := by
  unfold zeroAV at hz
  split at hz
  · simp only [Option.map_eq_some_iff] at hz
    obtain ⟨l, hl, rfl⟩ := hz
    obtain ⟨h1, h2⟩ := toCells_sound (m := m) hl
    simp only [VR]
    exact ⟨_, rfl, h1, h2⟩
  · exact (VR_toAV m 4 _ x hz).1

theorem sound_lookup {ty kt et : TypeId} {i : TypeInfo} {z : Value} {zv : AV} {x y : Operand} {mx my : MO} {ok : Bool} (ho : o.op = .lookup ty x y ok) (hu : P.underlying ty = some (.map kt et)) (hkt : P.underlying kt = some .string) (hi : P.info? et = some i) (hz : i.zero = some z)
    (hzv : zeroAV z = some zv) (hx : compO x = some mx) (hy : compO y = some my) (ht : TR m t a.tmps) (k : HR m h base w0 w) (he : evalOp t h (.lookup zv ok mx my) = some (v, h')) : OpOK P o a m h' base w0 w v := by
  have vx := compO_sound hx ht
  have vy := compO_sound hy ht
  have main : ∀ (es : List (AV × AV)) (ents : Array MapEntry) (s : List UInt8) (r : Option AV), MapR m es ents.toList → my.eval t = .str s → findKey (.str s) es = some r → h' = h → v = (if ok then .tuple [r.getD zv, .bool r.isSome] else r.getD zv) →
      ((a.eval x = .map none ∧ ents = #[]) ∨ ∃ g clock, a.eval x = .map (some g) ∧ w.heap[g]? = some (.map ents clock)) → OpOK P o a m h' base w0 w v := by
    intro es ents s r hm hs hf hh hv hcase
    subst hh
    rw [hs] at vy
    simp only [VR] at vy
    have hck : ∀ e n, (Instr.checkKey e (n + 1) kt (bs s)).run P w = .ok () w := fun e n => run_checkKey hkt (by simp [bs, IsKey]) e n
    have vy' : a.eval y = bs s := vy
    rcases find_sound 0 hm hf with ⟨rfl, h1⟩ | ⟨j, u, cv, rfl, h1, h2⟩
    · have hfk := run_findKey (w := w) hkt h1
      subst hv
      cases ok with
      | true =>
        refine OpOK.same k (cv := .tuple #[z, .bool false]) ?_ ?_
        · rcases hcase with ⟨hxv, rfl⟩ | ⟨g, clock, hxv, hg⟩
          · have hfk' : (Instr.findKey kt (bs s) []).run P w = .ok none w := hfk
            simp [execOp, ho, Instr.lookup, run_underlying hu, hxv, vy', hck, hfk', zeroValue_run hi hz, Result.andThen]
          · have hobj : (getObj g).run P w = .ok (.map ents clock) w := getObj_run hg (by simp)
            simp [execOp, ho, Instr.lookup, run_underlying hu, hxv, hobj, vy', hck, hfk, zeroValue_run hi hz, Result.andThen]
        · simp only [if_true, Option.getD_none, Option.isSome_none, VR, VRs]
          exact ⟨_, rfl, _, _, rfl, zeroAV_sound hzv, _, _, rfl, rfl, rfl⟩
      | false =>
        refine OpOK.same k (cv := z) ?_ ?_
        · rcases hcase with ⟨hxv, rfl⟩ | ⟨g, clock, hxv, hg⟩
          · have hfk' : (Instr.findKey kt (bs s) []).run P w = .ok none w := hfk
            simp [execOp, ho, Instr.lookup, run_underlying hu, hxv, vy', hck, hfk', zeroValue_run hi hz, Result.andThen]
          · have hobj : (getObj g).run P w = .ok (.map ents clock) w := getObj_run hg (by simp)
            simp [execOp, ho, Instr.lookup, run_underlying hu, hxv, hobj, vy', hck, hfk, zeroValue_run hi hz, Result.andThen]
        · simpa using zeroAV_sound hzv
    · have hfk := run_findKey (w := w) hkt h1
      subst hv
      cases ok with
      | true =>
        refine OpOK.same k (cv := .tuple #[cv, .bool true]) ?_ ?_
        · rcases hcase with ⟨hxv, rfl⟩ | ⟨g, clock, hxv, hg⟩
          · simp [Instr.findNow] at h1
          · have hobj : (getObj g).run P w = .ok (.map ents clock) w := getObj_run hg (by simp)
            simp [execOp, ho, Instr.lookup, run_underlying hu, hxv, hobj, vy', hck, hfk, Result.andThen]
        · simp only [if_true, Option.getD_some, Option.isSome_some, VR, VRs]
          exact ⟨_, rfl, _, _, rfl, h2, _, _, rfl, rfl, rfl⟩
      | false =>
        refine OpOK.same k (cv := cv) ?_ ?_
        · rcases hcase with ⟨hxv, rfl⟩ | ⟨g, clock, hxv, hg⟩
          · simp [Instr.findNow] at h1
          · have hobj : (getObj g).run P w = .ok (.map ents clock) w := getObj_run hg (by simp)
            simp [execOp, ho, Instr.lookup, run_underlying hu, hxv, hobj, vy', hck, hfk, Result.andThen]
        · simpa using h2
  simp only [evalOp] at he
  generalize mx.eval t = xv at he vx
  cases xv <;> simp only at he <;> first
    | (cases he; done)
    | skip
  · rename_i r
    split at he
    · cases he
    · rename_i es hes
      split at hes
      · rename_i es' hr
        cases hes
        split at he
        · rename_i hk
          obtain ⟨s, hs⟩ := keyOk_str hk
          rw [hs] at he
          split at he
          · rename_i q hf
            simp only [Option.some.injEq, Prod.mk.injEq] at he
            obtain ⟨hv, hh⟩ := he
            simp only [VR] at vx
            obtain ⟨e, hm, vx⟩ := vx
            obtain ⟨e', he', _, ents, clock, hg, hmr⟩ := k.map hr
            rw [hm] at he'
            cases he'
            exact main _ ents s q hmr hs hf hh.symm hv.symm (.inr ⟨_, clock, vx, hg⟩)
          · cases he
        · cases he
      · cases hes
  · split at he
    · rename_i hk
      obtain ⟨s, hs⟩ := keyOk_str hk
      rw [hs] at he
      split at he
      · rename_i q hf
        simp only [Option.some.injEq, Prod.mk.injEq] at he
        obtain ⟨hv, hh⟩ := he
        simp only [VR] at vx
        exact main [] #[] s q (by simp [MapR]) hs hf hh.symm hv.symm (.inl ⟨vx, rfl⟩)
      · cases he
    · cases he

theorem sound_mapUpdate {ty kt et : TypeId} {x y u : Operand} {mx my mu : MO} (ho : o.op = .mapUpdate ty x y u) (hu : P.underlying ty = some (.map kt et)) (hkt : P.underlying kt = some .string)
    (hx : compO x = some mx) (hy : compO y = some my) (hw : compO u = some mu) (ht : TR m t a.tmps) (k : HR m h base w0 w) (he : evalOp t h (.mapUpdate mx my mu) = some (v, h')) : OpOK P o a m h' base w0 w v := by
  have vx := compO_sound hx ht
  have vy := compO_sound hy ht
  have vu := compO_sound hw ht
  simp only [evalOp] at he
  split at he
  · rename_i r ex
    split at he
    · rename_i es hr
      split at he
      · rename_i hk
        obtain ⟨s, hs⟩ := keyOk_str hk
        rw [hs] at he vy
        simp only [Option.map_eq_some_iff, Prod.mk.injEq] at he
        obtain ⟨es1, hset, rfl, rfl⟩ := he
        rw [ex] at vx
        simp only [VR] at vx vy
        obtain ⟨e, hm, vx⟩ := vx
        obtain ⟨e', he', hbase, ents, clock, hg, hmr⟩ := k.map hr
        rw [hm] at he'
        cases he'
        have vy' : a.eval y = bs s := vy
        have hck : ∀ e n, (Instr.checkKey e (n + 1) kt (bs s)).run P w = .ok () w := fun e n => run_checkKey hkt (by simp [bs, IsKey]) e n
        have hlt : e.g < w.heap.size := (k.lt r e hm).1
        have hchange : ∀ (ents' : Array MapEntry) (clock' : Nat), MapR m es1 ents'.toList → HR m (h.set r (.map es1)) base w0 { w with heap := w.heap.setIfInBounds e.g (.map ents' clock') } := by
          intro ents' clock' hm'
          refine k.change r _ _ e hr hm rfl hbase (by simp) rfl rfl rfl (fun g hg' => ?_) ⟨e, hm, hbase, ents', clock', ?_, hm'⟩
          · simp [Array.getElem?_setIfInBounds_ne (Ne.symm hg')]
          · simp [hlt]
        rcases set_sound vu 0 hmr hset with ⟨h1, h2⟩ | ⟨j, cv0, en, h1, h2, h3, h4⟩
        · have hfk := run_findKey (w := w) hkt h1
          refine ⟨m, _, Emb.le.refl m, hchange (ents.push ⟨bs s, a.eval u, clock⟩) (clock + 1) (by simpa using h2 clock), .inr ⟨?_, rfl⟩⟩
          have hobj : (getObj e.g).run P w = .ok (.map ents clock) w := getObj_run hg (by simp)
          simp [execOp, ho, Instr.mapUpdate, run_underlying hu, vx, hobj, vy', hck, hfk, Go.MapKept.run_setObj_map _ hg, Result.andThen]
        · have hfk := run_findKey (w := w) hkt h1
          have hkts : (Instr.keyThatStays (bs s) (bs s)).run P w = .ok (bs s) w := run_keyThatStays (d := .string) (by simp [bs, IsKey])
          rw [Nat.zero_add] at hfk
          have hj : ents[j]? = some en := by simpa using h2
          refine ⟨m, _, Emb.le.refl m, hchange (ents.modify j fun e => { e with key := bs s, val := a.eval u }) clock (by simpa using h4), .inr ⟨?_, rfl⟩⟩
          have hobj : (getObj e.g).run P w = .ok (.map ents clock) w := getObj_run hg (by simp)
          simp [execOp, ho, Instr.mapUpdate, run_underlying hu, vx, hobj, vy', hck, hfk, hj, h3, hkts, Go.MapKept.run_setObj_map _ hg, Result.andThen]
      · cases he
    · cases he
  · cases he

theorem del_sound {s : List UInt8} : ∀ {es es1 : List (AV × AV)} {l : List MapEntry} (i : Nat), MapR m es l → delKey (.str s) es = some es1 →
    (Instr.findNow .string (bs s) l i = some none ∧ MapR m es1 l) ∨ ∃ j cv, Instr.findNow .string (bs s) l i = some (some (i + j, cv)) ∧ MapR m es1 (l.eraseIdx j)
  | [], es1, l, i, hm, hf => by
    simp only [MapR] at hm
    subst hm
    simp only [delKey, Option.some.injEq] at hf
    subst hf
    exact .inl ⟨rfl, by simp [MapR]⟩
  | (k, u) :: es, es1, l, i, hm, hf => by
    simp only [MapR] at hm
    obtain ⟨e, es', rfl, h1, h2, h3⟩ := hm
    simp only [delKey] at hf
    split at hf
    · rename_i hc
      obtain ⟨s', rfl, hb⟩ := cellEq_str hc
      injection hf with hf
      subst hf
      simp only [VR] at h1
      have hs := sameNow_str s s'
      rw [← hb] at hs
      refine .inr ⟨0, e.val, ?_, h3⟩
      simp only [Instr.findNow, h1]
      rw [show Value.string ⟨s'.toArray⟩ = bs s' from rfl, hs]
      rfl
    · rename_i hc
      obtain ⟨s', rfl, hb⟩ := cellEq_str hc
      have h1' := h1
      simp only [VR] at h1
      have hs := sameNow_str s s'
      rw [← hb] at hs
      simp only [Option.map_eq_some_iff] at hf
      obtain ⟨es2, hf, rfl⟩ := hf
      have e1 : Instr.findNow .string (bs s) (e :: es') i = Instr.findNow .string (bs s) es' (i + 1) := by
        simp only [Instr.findNow, h1]
        rw [show Value.string ⟨s'.toArray⟩ = bs s' from rfl, hs]
      rcases del_sound (i + 1) h3 hf with ⟨g1, g2⟩ | ⟨j, cv0, g1, g4⟩
      · refine .inl ⟨by rw [e1, g1], ?_⟩
        simp only [MapR]
        exact ⟨_, _, rfl, h1', h2, g2⟩
      · refine .inr ⟨j + 1, cv0, by rw [e1, g1]; congr 3; omega, ?_⟩
        simp only [List.eraseIdx_cons_succ, MapR]
        exact ⟨_, _, rfl, h1', h2, g4⟩
    · cases hf

theorem sound_mapDelete {args : Array Operand} {argTypes : Array TypeId} {ty kt et : TypeId} {mx my : MO} (ho : o.op = .call { callee := .builtin .delete, args, argTypes }) (hty : argTypes[0]? = some ty) (hu : P.underlying ty = some (.map kt et)) (hkt : P.underlying kt = some .string)
    (hx : args[0]?.bind compO = some mx) (hy : args[1]?.bind compO = some my) (ht : TR m t a.tmps) (k : HR m h base w0 w) (he : evalOp t h (.mapDelete mx my) = some (v, h')) : OpOK P o a m h' base w0 w v := by
  obtain ⟨cx, h1, vx⟩ := args_get hx ht
  obtain ⟨cy, h2, vy⟩ := args_get hy ht
  have hck : ∀ s e n, (Instr.checkKey e (n + 1) kt (bs s)).run P w = .ok () w := fun s e n => run_checkKey hkt (by simp [bs, IsKey]) e n
  obtain ⟨cs, hrun⟩ := callB_run (P := P) (w := w) (a := a) ho
  simp only [evalOp] at he
  split at he
  · rename_i r ex
    split at he
    · rename_i es hr
      split at he
      · rename_i hk
        obtain ⟨s, hs⟩ := keyOk_str hk
        rw [hs] at he vy
        simp only [Option.map_eq_some_iff, Prod.mk.injEq] at he
        obtain ⟨es1, hset, rfl, rfl⟩ := he
        rw [ex] at vx
        simp only [VR] at vx vy
        obtain ⟨e, hm, vx⟩ := vx
        obtain ⟨e', he', hbase, ents, clock, hg, hmr⟩ := k.map hr
        rw [hm] at he'
        cases he'
        have vy' : cy = bs s := vy
        subst vx vy'
        have hlt : e.g < w.heap.size := (k.lt r e hm).1
        have hobj : (getObj e.g).run P w = .ok (.map ents clock) w := getObj_run hg (by simp)
        have hchange : ∀ (ents' : Array MapEntry) (clock' : Nat), MapR m es1 ents'.toList → HR m (h.set r (.map es1)) base w0 { w with heap := w.heap.setIfInBounds e.g (.map ents' clock') } := by
          intro ents' clock' hm'
          refine k.change r _ _ e hr hm rfl hbase (by simp) rfl rfl rfl (fun g hg' => ?_) ⟨e, hm, hbase, ents', clock', ?_, hm'⟩
          · simp [Array.getElem?_setIfInBounds_ne (Ne.symm hg')]
          · simp [hlt]
        rcases del_sound 0 hmr hset with ⟨g1, g2⟩ | ⟨j, cv0, g1, g4⟩
        · have hfk := run_findKey (w := w) hkt g1
          refine ⟨m, _, Emb.le.refl m, hchange ents clock g2, .inl ⟨.tuple #[], ?_, by simp [VR]⟩⟩
          rw [hrun]
          simp [builtin, Builtin.delete_, hty, h1, h2, run_underlying hu, hobj, hck, hfk, Go.MapKept.run_setObj_map _ hg, Result.andThen]
        · have hfk := run_findKey (w := w) hkt g1
          rw [Nat.zero_add] at hfk
          refine ⟨m, _, Emb.le.refl m, hchange (ents.eraseIdxIfInBounds j) clock (by simpa using g4), .inl ⟨.tuple #[], ?_, by simp [VR]⟩⟩
          rw [hrun]
          simp [builtin, Builtin.delete_, hty, h1, h2, run_underlying hu, hobj, hck, hfk, Go.MapKept.run_setObj_map _ hg, Result.andThen]
      · cases he
    · cases he
  · rename_i ex
    split at he
    · rename_i hk
      obtain ⟨s, hs⟩ := keyOk_str hk
      rw [hs] at vy
      simp only [Option.some.injEq, Prod.mk.injEq] at he
      obtain ⟨rfl, rfl⟩ := he
      rw [ex] at vx
      simp only [VR] at vx vy
      have vy' : cy = bs s := vy
      subst vx vy'
      refine OpOK.same k (cv := .tuple #[]) ?_ (by simp [VR])
      rw [hrun]
      simp [builtin, Builtin.delete_, hty, h1, h2, run_underlying hu, hck, Result.andThen]
    · cases he
  · cases he

end
end Go.Abs

