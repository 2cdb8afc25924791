import Derived.Test.YtcjhjphmlfkikaaDoorAbsG4
import Derived.Laws.Externs
import Derived.Lib.Bytealg
set_option linter.unusedVariables false
set_option linter.unusedSimpArgs false
namespace Go.Abs

mutual
def AV.sh (k : Nat) : AV → AV
  | .ptr b o => .ptr (b + k) o
  | .slice b o n => .slice (b + k) o n
  | .map r => .map (r + k)
  | .fn f cap => .fn f (AV.shs k cap)
  | .iface t v => .iface t (AV.sh k v)
  | .agg l => .agg (AV.shs k l)
  | .tuple l => .tuple (AV.shs k l)
  | .undef => .undef
  | .bool b => .bool b
  | .int q n => .int q n
  | .str s => .str s
  | .nilptr => .nilptr
  | .nilslice => .nilslice
  | .nilmap => .nilmap
  | .nilfn => .nilfn
  | .niliface => .niliface
def AV.shs (k : Nat) : List AV → List AV
  | [] => []
  | v :: l => AV.sh k v :: AV.shs k l
end
mutual
def AV.flat : AV → Bool
  | .ptr _ _ => false
  | .slice _ _ _ => false
  | .map _ => false
  | .fn _ cap => AV.flats cap
  | .iface _ v => AV.flat v
  | .agg l => AV.flats l
  | .tuple l => AV.flats l
  | _ => true
def AV.flats : List AV → Bool
  | [] => true
  | v :: l => AV.flat v && AV.flats l
end
def rat (n : Nat) (r : List AObj) (b : Nat) : Option AObj := cond (Nat.blt b n) (r[n - 1 - b]?) none
def rset (n : Nat) (r : List AObj) (b : Nat) (x : AObj) : List AObj := r.set (n - 1 - b) x

end Go.Abs

set_option linter.unusedVariables false
set_option linter.unusedSimpArgs false
set_option maxHeartbeats 1600000
namespace Go.Abs

end Go.Abs

set_option linter.unusedVariables false
set_option linter.unusedSimpArgs false
set_option maxHeartbeats 3200000
namespace Go.Abs

end Go.Abs

set_option linter.unusedVariables false
set_option linter.unusedSimpArgs false
set_option maxHeartbeats 3200000
namespace Go.Abs

def rowR (n : Nat) (r : List AObj) (es : Nat) : AV → Option (List AV)
  | .nilslice => some []
  | .slice b o m => match rat n r b with
    | some x => rdCells [x] 0 o (m * es)
    | none => none
  | _ => none

def appendR (z n : Nat) (r : List AObj) (es bytes : Nat) (s : AV) (m : Nat) (new : List AV) : Option (AV × Nat × List AObj) :=
  match s with
  | .nilslice => match m with
    | 0 => some (.nilslice, n, r)
    | _ => cond (Nat.ble ((0 + m) * bytes) 140737488355328) (some (.slice n 0 (0 + m), n + 1, .arr ([] ++ new) es false :: r)) none
  | .slice b o l => match rat n r b with
    | some (.arr c es' false) => cond (Nat.beq es' es && Nat.ble (o + l * es) c.length) (match m with
      | 0 => some (.slice b o l, n, r)
      | _ => cond (Nat.ble ((l + m) * bytes) 140737488355328 && Nat.ble z b) (some (.slice n 0 (l + m), n + 1, .arr ((c.drop o).take (l * es) ++ new) es false :: rset n r b .dead)) none) none
    | _ => none
  | _ => none

end Go.Abs

set_option linter.unusedVariables false
set_option linter.unusedSimpArgs false
set_option maxHeartbeats 3200000
namespace Go.Abs

def mapR (n : Nat) (r : List AObj) : AV → Option (List (AV × AV))
  | .nilmap => some []
  | .map m => match rat n r m with
    | some (.map es) => some es
    | _ => none
  | _ => none

def evalR (z n : Nat) (r : List AObj) (t : Tmps) (o : MOp) : Option (AV × Nat × List AObj) :=
  match o with
  | .alloc c es => some (.ptr n 0, n + 1, .arr c es false :: r)
  | .box k x => match (x.eval t).cells with
    | some cs => cond (Nat.beq cs.length k) (some (.ptr n 0, n + 1, .arr cs k false :: r)) none
    | none => none
  | .buildSlice k es c ps => match fill c (ps.map fun p => (p.1, p.2.1, p.2.2.eval t)) with
    | some l => some (.slice n 0 k, n + 1, .arr l es false :: r)
    | none => none
  | .load agg a => match a.eval t with
    | .ptr b o => match rat n r b with
      | some x => match rdVar [x] agg 0 o with
        | some v => some (v, n, r)
        | none => none
      | none => none
    | _ => none
  | .store k a x => match a.eval t with
    | .ptr b o => match (x.eval t).cells with
      | some cs => cond (Nat.beq cs.length k && Nat.ble z b) (match rat n r b with
        | some y => match wrCells [y] 0 o cs with
          | some [y'] => some (.undef, n, rset n r b y')
          | _ => none
        | none => none) none
      | none => none
    | _ => none
  | .mkMap => some (.map n, n + 1, .map [] :: r)
  | .mkSlice c bytes len cap => match len.eval t, cap.eval t with
    | .int .i64 l, .int .i64 k => if 0 ≤ l ∧ l ≤ k ∧ k * bytes ≤ 140737488355328 then some (.slice n 0 l.toNat, n + 1, .arr (List.flatten (List.replicate l.toNat c)) c.length false :: r) else none
    | _, _ => none
  | .sliceSlc es x lo hi => match x.eval t with
    | .slice b o m => match rat n r b with
      | some (.arr c es' ro) => cond (Nat.beq es' es) (match bounds m (lo.map (·.eval t)) (hi.map (·.eval t)) with
        | some p => some (.slice b (o + p.1 * es) (p.2 - p.1), n, r)
        | none => none) none
      | _ => none
    | .nilslice => match bounds 0 (lo.map (·.eval t)) (hi.map (·.eval t)) with
      | some _ => some (.nilslice, n, r)
      | none => none
    | _ => none
  | .lookup y ok m k => match mapR n r (m.eval t) with
    | some es => cond (keyOk (k.eval t)) (match findKey (k.eval t) es with
      | some w => some (cond ok (.tuple [w.getD y, .bool w.isSome]) (w.getD y), n, r)
      | none => none) none
    | none => none
  | .mapUpdate m k v => match m.eval t with
    | .map b => match rat n r b with
      | some (.map es) => cond (keyOk (k.eval t) && Nat.ble z b) (match setKey (k.eval t) (v.eval t) es with
        | some es1 => some (.undef, n, rset n r b (.map es1))
        | none => none) none
      | _ => none
    | _ => none
  | .mapDelete m k => match m.eval t with
    | .map b => match rat n r b with
      | some (.map es) => cond (keyOk (k.eval t) && Nat.ble z b) (match delKey (k.eval t) es with
        | some es1 => some (.undef, n, rset n r b (.map es1))
        | none => none) none
      | _ => none
    | .nilmap => cond (keyOk (k.eval t)) (some (.undef, n, r)) none
    | _ => none
  | .lenMap x => match mapR n r (x.eval t) with
    | some es => some (.int .i64 es.length, n, r)
    | none => none
  | .append es bytes s x => match lenOf (x.eval t), rowR n r es (x.eval t) with
    | some m, some new => appendR z n r es bytes (s.eval t) m new
    | _, _ => none
  | .appendStr s x => match x.eval t with
    | .str y => appendR z n r 1 1 (s.eval t) y.length (y.map fun c => .int .u8 c.toNat)
    | _ => none
  | .runes x => match x.eval t with
    | .str s => cond (s.all (fun c => Nat.blt c.toNat 128) && Nat.ble s.length 70368744177664) (some (.slice n 0 s.length, n + 1, .arr (s.map fun c => .int .i32 c.toNat) 1 false :: r)) none
    | _ => none
  | .rangeStr x => match x.eval t with
    | .str s => some (.ptr n 0, n + 1, .iter s 0 :: r)
    | _ => none
  | .nextStr x => match x.eval t with
    | .ptr b 0 => match rat n r b with
      | some (.iter s pos) => cond (Nat.ble z b) (cond (Nat.blt pos s.length) (match Utf8.decode ⟨s.toArray⟩ pos with
        | (c, k) => some (.tuple [.bool true, .int .i64 pos, .int .i32 c], n, rset n r b (.iter s (pos + k)))) (some (.tuple [.bool false], n, r))) none
      | _ => none
    | _ => none
  | o => cond (o.still && !o.looks) (match evalOp t [] o with
    | some (v, _) => some (v, n, r)
    | none => none) none

end Go.Abs

set_option linter.unusedVariables false
set_option linter.unusedSimpArgs false
set_option maxHeartbeats 3200000
namespace Go.Abs

inductive ETask where
  | code (c : MCode) (t : Tmps)
  | ops (dr : Bool) (l : List MOper) (t : Tmps)
  | call (f : Nat) (args : List AV)

inductive ERes where
  | code (x : MX) (t : Tmps) (n : Nat) (r : List AObj)
  | val (v : AV) (n : Nat) (r : List AObj)

inductive PVal where
  | flat (v : AV)
  | row (n : Nat) (c : List AV) (es : Nat)
  | objs (v : AV) (l : List (List AV × Nat))

def objOf (k : Nat) (p : List AV × Nat) : AObj := .arr (p.1.map (AV.sh k)) p.2 false
def PVal.sh (k : Nat) : PVal → PVal
  | .flat v => .flat (v.sh k)
  | .row n c es => .row n (c.map (AV.sh k)) es
  | .objs v l => .objs v l
def PVal.put (h : Heap) (Q : AV → Heap → Prop) : PVal → Prop
  | .flat v => Q v h
  | .row n c es => Q (.slice h.length 0 n) (h ++ [.arr c es false])
  | .objs v l => Q (v.sh h.length) (h ++ l.map (objOf h.length))
def PVal.res (n : Nat) (r : List AObj) : PVal → ERes
  | .flat v => .val v n r
  | .row m c es => .val (.slice n 0 m) (n + 1) (.arr c es false :: r)
  | .objs v l => .val (v.sh n) (n + l.length) ((l.map (objOf n)).reverse ++ r)
structure EMod where
  fn : Nat → Option MFunc
  prim : Nat → List AV → Option PVal

def resR (n : Nat) (r : List AObj) (t : Tmps) : MRes → Option AV
  | .tmp i => some (t.getD i .undef)
  | .cell agg i => match t.getD i .undef with
    | .ptr b o => match rat n r b with
      | some x => rdVar [x] agg 0 o
      | none => none
    | _ => none

def resRs (n : Nat) (r : List AObj) (t : Tmps) : List MRes → Option (List AV)
  | [] => some []
  | x :: xs => match resR n r t x, resRs n r t xs with
    | some v, some vs => some (v :: vs)
    | _, _ => none

def resultsR (n : Nat) (r : List AObj) (t : Tmps) (rs : List MRes) : Option AV :=
  match resRs n r t rs with
  | some [v] => some v
  | some vs => some (.tuple vs)
  | none => none

def okX : MX → Bool
  | .normal => true
  | .ret => true
  | .exit _ => false

def unblk (id : Nat) : MX → MX
  | .exit k => cond (Nat.beq k id) .normal (.exit k)
  | x => x

def ev (E : EMod) : Nat → ETask → Nat → Nat → List AObj → Option ERes
  | 0, _, _, _, _ => none
  | k + 1, .code c t, z, n, r => match c with
    | .skip => some (.code .normal t n r)
    | .seq a b => match ev E k (.code a t) z n r with
      | some (.code .normal t1 n1 r1) => ev E k (.code b t1) z n1 r1
      | x => x
    | .cond c a b => match c.eval t with
      | .bool true => ev E k (.code a t) z n r
      | .bool false => ev E k (.code b t) z n r
      | _ => none
    | .block id c => match ev E k (.code c t) z n r with
      | some (.code x t1 n1 r1) => some (.code (unblk id x) t1 n1 r1)
      | _ => none
    | .loop c => match ev E k (.code c t) z n r with
      | some (.code .normal t1 n1 r1) => ev E k (.code (.loop c) t1) z n1 r1
      | x => x
    | .exit id => some (.code (.exit id) t n r)
    | .ret => some (.code .ret t n r)
    | .region l => ev E k (.ops false l t) z n r
    | .draw l _ => ev E k (.ops true l t) z n r
  | k + 1, .ops dr l t, z, n, r => match l with
    | [] => some (.code .normal t n r)
    | o :: l => match wantedM t o.guard with
      | true => match o.op with
        | .call f args => match f.eval t with
          | .fn g cap => match ev E k (.call g (args.map (·.eval t) ++ cap)) (cond dr n z) n r with
            | some (.val v n1 r1) => ev E k (.ops dr l (put t o.dst v)) z n1 r1
            | _ => none
          | _ => none
        | op => match evalR (cond (dr && op.grow) n z) n r t op with
          | some (v, n1, r1) => ev E k (.ops dr l (put t o.dst v)) z n1 r1
          | none => none
      | false => ev E k (.ops dr l (put t o.dst .undef)) z n r
  | k + 1, .call f args, z, n, r => match E.prim f args with
    | some v => some (v.res n r)
    | none => match E.fn f with
      | some F => match ev E k (.code F.body (args ++ List.replicate (F.ntmps - args.length) .undef)) z n r with
        | some (.code x t1 n1 r1) => match okX x, resultsR n1 r1 t1 F.results with
          | true, some v => some (.val v n1 r1)
          | _, _ => none
        | _ => none
      | none => none

end Go.Abs

set_option linter.unusedVariables false
set_option linter.unusedSimpArgs false
namespace Go.Abs

abbrev PrimsV := Nat → List AV → Option PVal

end Go.Abs

