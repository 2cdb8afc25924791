/- Operations on symbolic states: what is left to be shown of each; and that it is enough. -/
import Derived.Test.YthedodaghjpdoaaAbsQ
set_option linter.unusedVariables false
set_option linter.unusedSimpArgs false
namespace Go.Abs

/-- The shape of a value that is not known. -/
inductive Sh where
  | int (k : IntKind) | bool | str | slc | raw | ptr | pto | err | mapv | cells | iter | mapo | heap
  | agg (l : List Sh) | tup (l : List Sh)

mutual
def Sh.ex : Sh → (SV → Prop) → Prop
  | .int k, f => ∃ x : Int, f (.av (.int k x))
  | .bool, f => ∃ b : Bool, f (.av (.bool b))
  | .str, f => ∃ s : List UInt8, f (.av (.str s))
  | .slc, f => ∃ s : Slc, f (.slc s)
  | .raw, f => ∃ v : AV, f (.av v)
  | .ptr, f => ∃ b o : Nat, f (.av (.ptr b o))
  | .pto, f => ∃ (n : Bool) (b o : Nat), f (.pto n b o)
  | .err, f => ∃ (n : Bool) (t : Nat) (v : AV), f (.err n t v)
  | .mapv, f => ∃ r : Nat, f (.av (.map r))
  | .cells, f => ∃ c : List AV, f (.av (.agg c))
  | .iter, f => ∃ (s : List UInt8) (p : Nat), f (.ob (.iter s p))
  | .mapo, f => ∃ es : List (AV × AV), f (.ob (.map es))
  | .heap, f => ∃ g : Heap, f (.hp g)
  | .agg l, f => exs l fun vs => f (.agg vs)
  | .tup l, f => exs l fun vs => f (.tup vs)
def exs : List Sh → (List SV → Prop) → Prop
  | [], f => f []
  | s :: l, f => s.ex fun v => exs l fun vs => f (v :: vs)
end

mutual
theorem ex_spec : ∀ (s : Sh) {f : SV → Prop}, s.ex f → ∃ v, f v ∧ ∀ n, v.ok n
  | .int k, f, h => by simp only [Sh.ex] at h; obtain ⟨x, h⟩ := h; exact ⟨_, h, fun n => by simp only [SV.ok]⟩
  | .bool, f, h => by simp only [Sh.ex] at h; obtain ⟨x, h⟩ := h; exact ⟨_, h, fun n => by simp only [SV.ok]⟩
  | .str, f, h => by simp only [Sh.ex] at h; obtain ⟨x, h⟩ := h; exact ⟨_, h, fun n => by simp only [SV.ok]⟩
  | .slc, f, h => by simp only [Sh.ex] at h; obtain ⟨x, h⟩ := h; exact ⟨_, h, fun n => by simp only [SV.ok]⟩
  | .raw, f, h => by simp only [Sh.ex] at h; obtain ⟨x, h⟩ := h; exact ⟨_, h, fun n => by simp only [SV.ok]⟩
  | .ptr, f, h => by simp only [Sh.ex] at h; obtain ⟨x, y, h⟩ := h; exact ⟨_, h, fun n => by simp only [SV.ok]⟩
  | .pto, f, h => by simp only [Sh.ex] at h; obtain ⟨x, y, z, h⟩ := h; exact ⟨_, h, fun n => by simp only [SV.ok]⟩
  | .err, f, h => by simp only [Sh.ex] at h; obtain ⟨x, y, z, h⟩ := h; exact ⟨_, h, fun n => by simp only [SV.ok]⟩
  | .mapv, f, h => by simp only [Sh.ex] at h; obtain ⟨x, h⟩ := h; exact ⟨_, h, fun n => by simp only [SV.ok]⟩
  | .cells, f, h => by simp only [Sh.ex] at h; obtain ⟨x, h⟩ := h; exact ⟨_, h, fun n => by simp only [SV.ok]⟩
  | .iter, f, h => by simp only [Sh.ex] at h; obtain ⟨x, y, h⟩ := h; exact ⟨_, h, fun n => by simp only [SV.ok]⟩
  | .mapo, f, h => by simp only [Sh.ex] at h; obtain ⟨x, h⟩ := h; exact ⟨_, h, fun n => by simp only [SV.ok]⟩
  | .heap, f, h => by simp only [Sh.ex] at h; obtain ⟨x, h⟩ := h; exact ⟨_, h, fun n => by simp only [SV.ok]⟩
  | .agg l, f, h => by
    simp only [Sh.ex] at h
    obtain ⟨vs, h, k⟩ := exs_spec l h
    exact ⟨_, h, fun n => by simp only [SV.ok]; exact k n⟩
  | .tup l, f, h => by
    simp only [Sh.ex] at h
    obtain ⟨vs, h, k⟩ := exs_spec l h
    exact ⟨_, h, fun n => by simp only [SV.ok]; exact k n⟩
theorem exs_spec : ∀ (l : List Sh) {f : List SV → Prop}, exs l f → ∃ vs, f vs ∧ ∀ n, oks n vs
  | [], f, h => by simp only [exs] at h; exact ⟨[], h, fun n => by simp only [oks]⟩
  | s :: l, f, h => by
    simp only [exs] at h
    obtain ⟨v, h, k⟩ := ex_spec s h
    obtain ⟨vs, h, k2⟩ := exs_spec l h
    exact ⟨v :: vs, h, fun n => by simp only [oks]; exact ⟨k n, k2 n⟩⟩
end

/-- What is told of an operation: the shape of its result, a segment, whether its guard is a known truth value, a mode. -/
structure OH where
  sh : Sh
  seg : Nat
  lit : Bool
  mode : Nat

def partS (agg : Option Nat) (l : List SV) (off : Nat) : Option SV :=
  match agg with
  | none => l[off]?
  | some n => if off + n ≤ l.length then some (.agg ((l.drop off).take n)) else none

def SV.cells : SV → Option (List SV)
  | .agg l => some l
  | .av (.agg l) => some (l.map .av)
  | .av .undef => none
  | .av (.tuple _) => none
  | .tup _ => none
  | .ob _ => none
  | .hp _ => none
  | .bad => none
  | v => some [v]

def fillS (z : List SV) : List (Nat × Nat × SV) → Option (List SV)
  | [] => some z
  | (off, sz, v) :: r => match v.cells with
    | some cs => if cs.length = sz ∧ off + sz ≤ z.length then fillS (setCells z off cs) r else none
    | none => none

def eqS : EqK → SV → SV → Option Bool
  | k, .av a, .av b => valEq k a b
  | .ptr, .new _ _, .av .nilptr => some false
  | .ptr, .nix _ _, .av .nilptr => some false
  | .ptr, .pto n _ _, .av .nilptr => some n
  | .ptr, .av .nilptr, .new _ _ => some false
  | .ptr, .av .nilptr, .pto n _ _ => some n
  | .slice, .slc s, .av .nilslice => some s.nil
  | .slice, .sln _ _ _, .av .nilslice => some false
  | .slice, .av .nilslice, .slc s => some s.nil
  | .fn, .fn _ _, .av .nilfn => some false
  | .map, .mpn _, .av .nilmap => some false
  | _, _, _ => none

def evs (t : List SV) : List MO → Option (List SV)
  | [] => some []
  | x :: l => match x.ev t, evs t l with
    | .bad, _ => none
    | v, some vs => some (v :: vs)
    | _, none => none

/-- What an operation yields that leaves the heap and asks nothing. -/
def pureS (A : Nat → Nat) (t : List SV) : MOp → Option SV
  | .mov x => some (x.ev t)
  | .pick c a b => match c.ev t with
    | .av (.bool true) => some (a.ev t)
    | .av (.bool false) => some (b.ev t)
    | _ => none
  | .build z ps => (fillS (z.map .av) (ps.map fun p => (p.1, p.2.1, p.2.2.ev t))).map .agg
  | .nilCheck x => match x.ev t with
    | .new s o => some (.new s o)
    | .nix s o => some (.nix s o)
    | .av (.ptr b o) => some (.av (.ptr b o))
    | _ => none
  | .bin op x y => match x.ev t, y.ev t with
    | .av a, .av b => (binAV op a b).map .av
    | _, _ => none
  | .eqv k neg x y => (eqS k (x.ev t) (y.ev t)).map fun r => .av (.bool (r != neg))
  | .eqAgg ks neg x y => match x.ev t, y.ev t with
    | .agg a, .agg b => (cksEq ks (concs A a) (concs A b)).map fun r => .av (.bool (r != neg))
    | _, _ => none
  | .isNil neg x => match x.ev t with
    | .av .niliface => some (.av (.bool (!neg)))
    | .av (.iface _ _) => some (.av (.bool neg))
    | .ifc _ _ => some (.av (.bool neg))
    | .err n _ _ => some (.av (.bool (n != neg)))
    | _ => none
  | .un op x => match x.ev t with
    | .av a => (unAV op a).map .av
    | _ => none
  | .convInt k x => match x.ev t with
    | .av (.int _ n) => some (.av (.int k (k.wrap n)))
    | _ => none
  | .convStr x => match x.ev t with
    | .av (.str s) => some (.av (.str s))
    | _ => none
  | .mkIface ty x => match x.ev t with
    | .bad => none
    | v => some (.ifc ty v)
  | .mkFn f cap => (evs t cap).map (.fn f)
  | .fieldAddr off x => match x.ev t with
    | .new s o => some (.new s (o + off))
    | .nix s o => some (.nix s (o + off))
    | .av (.ptr b o) => some (.av (.ptr b (o + off)))
    | _ => none
  | .field off agg x => match x.ev t with
    | .agg l => partS agg l off
    | .av (.agg l) => (partOf agg l off).map .av
    | _ => none
  | .lenStr x => match x.ev t with
    | .av (.str s) => some (.av (.int .i64 s.length))
    | _ => none
  | .lenSlc x => match x.ev t with
    | .slc s => some (.av (.int .i64 s.len))
    | .sln _ _ n => some (.av (.int .i64 n))
    | .av .nilslice => some (.av (.int .i64 0))
    | .av (.slice _ _ n) => some (.av (.int .i64 n))
    | _ => none
  | .lenConst n => some (.av (.int .i64 n))
  | .mini x y => match x.ev t, y.ev t with
    | .av (.int k a), .av (.int _ b) => some (.av (.int k (if b < a then b else a)))
    | _, _ => none
  | .maxi x y => match x.ev t, y.ev t with
    | .av (.int k a), .av (.int _ b) => some (.av (.int k (if b > a then b else a)))
    | _, _ => none
  | .extract i x => match x.ev t with
    | .tup l => l[i]?
    | .av (.tuple l) => (l[i]?).map .av
    | _ => none
  | _ => none

/-- One bound of x[lo:hi]. -/
def bndS (d : Int) : Option SV → Option Int
  | none => some d
  | some (.av (.int _ i)) => some i
  | some _ => none

/-- A call that only adds to the heap. -/
def CallE (M : Model) (g : Nat) (args : List AV) (h : Heap) (P : AV → Heap → Prop) : Prop := ∀ Q : AV → Heap → Prop, (∀ v tail, P v tail → Q v (h ++ tail)) → Runs M (.call g args Q) h
/-- A call that keeps the first part of the heap. -/
def CallP (M : Model) (g : Nat) (args : List AV) (p r : Heap) (P : AV → Heap → Prop) : Prop := ∀ Q : AV → Heap → Prop, (∀ v rest, P v rest → Q v (p ++ rest)) → Runs M (.call g args Q) (p ++ r)

def mapEs (A : Nat → Nat) (H : List Seg) (q : Nat) : SV → (List (AV × AV) → Prop) → Prop
  | .mpn s, f => match H[s]? with
    | some (.obj (.map es)) => f es
    | _ => False
  | .av .nilmap, f => f []
  | .av (.map r), f => ∃ es, (flat A (H.take q))[r]? = some (.map es) ∧ f es
  | _, _ => False

/-- The row that an append begins with: its cells, its length, and the heap behind the taking. -/
def takeS (z : Nat) (W : List Nat) (A : Nat → Nat) (H : List Seg) (q es : Nat) : SV → (Sum (List SV) (List AV) → Nat → List Seg → Prop) → Prop
  | .av .nilslice, f => f (.inl []) 0 H
  | .sln s o n, f => match H[s]? with
    | some (.con c es') => if wr z W s = true ∧ es' = es ∧ o + n * es ≤ c.length then f (.inl ((c.drop o).take (n * es))) n (H.set s (.obj .dead)) else False
    | some (.row c es') => if wr z W s = true ∧ es' = es then o + n * es ≤ c.length ∧ f (.inr ((c.drop o).take (n * es))) n (H.set s (.obj .dead)) else False
    | _ => False
  | .slc s, f => if wr z W q = true then (match H[q]? with
    | some (.sym g) =>
      ∃ old g', ((s.nil = true ∧ old = [] ∧ g' = g) ∨ (s.nil = false ∧ ∃ k c, s.b = A q + k ∧ g[k]? = some (.arr c es false) ∧ s.o + s.n * es ≤ c.length ∧ old = (c.drop s.o).take (s.n * es) ∧ g' = g.set k .dead)) ∧ f (.inr old) s.len (H.set q (.sym g'))
    | _ => False) else False
  | _, _ => False

/-- The cells of what is appended, and how many elements; none at all is told apart. -/
def newS (A : Nat → Nat) (H : List Seg) (q es : Nat) : SV → (Sum (List SV) (List AV) → Nat → Prop) → Prop
  | .sln s o n, f => match H[s]? with
    | some (.con c es') => if es' = es ∧ 0 < n ∧ o + n * es ≤ c.length then f (.inl ((c.drop o).take (n * es))) n else False
    | some (.row c es') => if es' = es then 0 < n ∧ o + n * es ≤ c.length ∧ f (.inr ((c.drop o).take (n * es))) n else False
    | _ => False
  | .slc s, f => 0 < s.len ∧ ∃ new, rowOf (flat A (H.take q)) es s.av = some new ∧ f (.inr new) s.len
  | _, _ => False

def joinRow (A : Nat → Nat) (es : Nat) : Sum (List SV) (List AV) → Sum (List SV) (List AV) → Seg
  | .inl a, .inl b => .con (a ++ b) es
  | .inl a, .inr b => .row (concs A a ++ b) es
  | .inr a, .inl b => .row (a ++ concs A b) es
  | .inr a, .inr b => .row (a ++ b) es

section
variable (M : Model) (z : Nat) (W : List Nat)

def wpOp (hi : OH) (o : MOp) (t : List SV) (H : List Seg) (K : SV → List SV → List Seg → Prop) : Prop :=
  match o with
  | .alloc zs es => K (.new H.length 0) t (H ++ [.con (zs.map .av) es])
  | .box n x => match (x.ev t).cells with
    | some cs => if cs.length = n then K (.new H.length 0) t (H ++ [.con cs n]) else False
    | none => False
  | .buildSlice n es zs ps => match fillS (zs.map .av) (ps.map fun p => (p.1, p.2.1, p.2.2.ev t)) with
    | some l => K (.sln H.length 0 n) t (H ++ [.con l es])
    | none => False
  | .load agg a => match a.ev t with
    | .new s o => (match H[s]? with
      | some (.con c es) => (match partS agg c o with
        | some v => K v t H
        | none => False)
      | some (.row c es) => hi.sh.ex fun v => partOf agg c o = some (conc (addr H) v) ∧ K v t H
      | _ => False)
    | .nix s o => (match H[s]? with
      | some (.con c es) => hi.sh.ex fun v => partOf agg (concs (addr H) c) o = some (conc (addr H) v) ∧ K v t H
      | some (.row c es) => hi.sh.ex fun v => partOf agg c o = some (conc (addr H) v) ∧ K v t H
      | _ => False)
    | .av (.ptr b o) => hi.sh.ex fun v => rdVar (flat (addr H) (H.take hi.seg)) agg b o = some (conc (addr H) v) ∧ K v t H
    | _ => False
  | .store n a x => match (x.ev t).cells with
    | none => False
    | some cs => if cs.length = n then (match a.ev t with
      | .new s o => if wr z W s = true then (match H[s]? with
        | some (.con c es) => if o + n ≤ c.length then K (.av .undef) t (H.set s (.con (setCells c o cs) es)) else False
        | some (.row c es) => o + n ≤ c.length ∧ K (.av .undef) t (H.set s (.row (setCells c o (concs (addr H) cs)) es))
        | _ => False) else False
      | .nix s o => if wr z W s = true then (match H[s]? with
        | some (.con c es) => o + n ≤ (concs (addr H) c).length ∧ K (.av .undef) t (H.set s (.row (setCells (concs (addr H) c) o (concs (addr H) cs)) es))
        | some (.row c es) => o + n ≤ c.length ∧ K (.av .undef) t (H.set s (.row (setCells c o (concs (addr H) cs)) es))
        | _ => False) else False
      | .av (.ptr b o) => if wr z W hi.seg = true then (match H[hi.seg]? with
        | some (.sym g) => ∃ k g', b = addr H hi.seg + k ∧ wrCells g k o (concs (addr H) cs) = some g' ∧ K (.av .undef) t (H.set hi.seg (.sym g'))
        | _ => False) else False
      | _ => False) else False
  | .indexAddr es x i => match x.ev t, i.ev t with
    | .sln s o n, .av (.int _ j) => if hi.mode = 0 then (if 0 ≤ j ∧ j < n then K (.new s (o + j.toNat * es)) t H else False) else (0 ≤ j ∧ j < (n : Int)) ∧ K (.nix s (o + j.toNat * es)) t H
    | .slc s, .av (.int _ j) => (0 ≤ j ∧ j < (s.len : Int)) ∧ K (.av (.ptr s.b (s.o + j.toNat * es))) t H
    | _, _ => False
  | .indexArr es n x i => match x.ev t, i.ev t with
    | .new s o, .av (.int _ j) => if hi.mode = 0 then (if 0 ≤ j ∧ j < n then K (.new s (o + j.toNat * es)) t H else False) else (0 ≤ j ∧ j < (n : Int)) ∧ K (.nix s (o + j.toNat * es)) t H
    | .nix s o, .av (.int _ j) => (0 ≤ j ∧ j < (n : Int)) ∧ K (.nix s (o + j.toNat * es)) t H
    | .av (.ptr b o), .av (.int _ j) => (0 ≤ j ∧ j < (n : Int)) ∧ K (.av (.ptr b (o + j.toNat * es))) t H
    | _, _ => False
  | .indexStr x i => match x.ev t, i.ev t with
    | .av (.str s), .av (.int _ j) => if hi.mode = 0 then (match s[j.toNat]? with
      | some c => if 0 ≤ j then K (.av (.int .u8 c.toNat)) t H else False
      | none => False) else ∃ c, (0 ≤ j ∧ s[j.toNat]? = some c) ∧ K (.av (.int .u8 (c.toNat : Nat))) t H
    | _, _ => False
  | .indexAgg es agg n x i => match x.ev t, i.ev t with
    | .agg l, .av (.int _ j) => if hi.mode = 0 then (if 0 ≤ j ∧ j < n then (match partS agg l (j.toNat * es) with
      | some v => K v t H
      | none => False) else False) else hi.sh.ex fun v => ((0 ≤ j ∧ j < (n : Int)) ∧ partOf agg (concs (addr H) l) (j.toNat * es) = some (conc (addr H) v)) ∧ K v t H
    | .av (.agg l), .av (.int _ j) => hi.sh.ex fun v => ((0 ≤ j ∧ j < (n : Int)) ∧ partOf agg l (j.toNat * es) = some (conc (addr H) v)) ∧ K v t H
    | _, _ => False
  | .sliceStr x lo hi' => match x.ev t, bndS 0 (lo.map (·.ev t)) with
    | .av (.str s), some l => (match bndS s.length (hi'.map (·.ev t)) with
      | some e => (0 ≤ l ∧ l ≤ e ∧ e ≤ (s.length : Int)) ∧ K (.av (.str ((s.drop l.toNat).take (e.toNat - l.toNat)))) t H
      | none => False)
    | _, _ => False
  | .sliceSlc es x lo hi' => match x.ev t, bndS 0 (lo.map (·.ev t)) with
    | .slc s, some l => (match bndS s.len (hi'.map (·.ev t)) with
      | some e => (s.nil = false → ∃ c ro, (flat (addr H) (H.take hi.seg))[s.b]? = some (.arr c es ro)) ∧ (0 ≤ l ∧ l ≤ e ∧ e ≤ (s.len : Int)) ∧ K (.slc ⟨s.b, s.o + l.toNat * es, e.toNat - l.toNat, s.nil⟩) t H
      | none => False)
    | .sln q o n, some l => (match bndS n (hi'.map (·.ev t)) with
      | some e => (match H[q]? with
        | some (.con c es') => if es' = es then (0 ≤ l ∧ l ≤ e ∧ e ≤ (n : Int)) ∧ K (.sln q (o + l.toNat * es) (e.toNat - l.toNat)) t H else False
        | some (.row c es') => if es' = es then (0 ≤ l ∧ l ≤ e ∧ e ≤ (n : Int)) ∧ K (.sln q (o + l.toNat * es) (e.toNat - l.toNat)) t H else False
        | _ => False)
      | none => False)
    | _, _ => False
  | .bin op x y => if hi.mode = 0 then (match pureS (addr H) t (.bin op x y) with
      | some v => K v t H
      | none => False) else (match op, x.ev t, y.ev t with
    | .quo, .av (.int k a), .av (.int k' b) => if k = k' then b ≠ 0 ∧ K (.av (.int k (k.wrap (a.tdiv b)))) t H else False
    | .rem, .av (.int k a), .av (.int k' b) => if k = k' then b ≠ 0 ∧ K (.av (.int k (a.tmod b))) t H else False
    | .add, .av (.str a), .av (.str b) => ((a.length + b.length : Nat) : Int) ≤ 9223372036854775807 ∧ K (.av (.str (a ++ b))) t H
    | _, _, _ => False)
  | .mkMap => K (.mpn H.length) t (H ++ [.obj (.map [])])
  | .mkSlice zs bytes len cap => match len.ev t, cap.ev t with
    | .av (.int .i64 l), .av (.int .i64 c) => (0 ≤ l ∧ l = c ∧ l * bytes ≤ 140737488355328) ∧ (if hi.mode = 0 then K (.sln H.length 0 l.toNat) t (H ++ [.con ((List.flatten (List.replicate l.toNat zs)).map .av) zs.length]) else K (.sln H.length 0 l.toNat) t (H ++ [.row (List.flatten (List.replicate l.toNat zs)) zs.length]))
    | _, _ => False
  | .lookup zv ok m k => match k.ev t with
    | .av kv => mapEs (addr H) H hi.seg (m.ev t) fun es => hi.sh.ex fun v => (∃ r, keyOk kv = true ∧ findKey kv es = some r ∧ conc (addr H) v = if ok then AV.tuple [r.getD zv, .bool r.isSome] else r.getD zv) ∧ K v t H
    | _ => False
  | .mapUpdate m k x => match m.ev t, k.ev t with
    | .mpn s, .av kv => if wr z W s = true ∧ (conc (addr H) (x.ev t)).cells.isSome then (match H[s]? with
      | some (.obj (.map es)) => ∃ es', (keyOk kv = true ∧ setKey kv (conc (addr H) (x.ev t)) es = some es') ∧ K (.av .undef) t (H.set s (.obj (.map es')))
      | _ => False) else False
    | .av (.map r), .av kv => if wr z W hi.seg = true then (match H[hi.seg]? with
      | some (.sym g) => ∃ i es es', (x.ev t ≠ .bad ∧ r = addr H hi.seg + i ∧ g[i]? = some (.map es) ∧ keyOk kv = true ∧ setKey kv (conc (addr H) (x.ev t)) es = some es') ∧ K (.av .undef) t (H.set hi.seg (.sym (g.set i (.map es'))))
      | _ => False) else False
    | _, _ => False
  | .mapDelete m k => match m.ev t, k.ev t with
    | .mpn s, .av kv => if wr z W s = true then (match H[s]? with
      | some (.obj (.map es)) => ∃ es', (keyOk kv = true ∧ delKey kv es = some es') ∧ K (.av .undef) t (H.set s (.obj (.map es')))
      | _ => False) else False
    | .av (.map r), .av kv => if wr z W hi.seg = true then (match H[hi.seg]? with
      | some (.sym g) => ∃ i es es', (r = addr H hi.seg + i ∧ g[i]? = some (.map es) ∧ keyOk kv = true ∧ delKey kv es = some es') ∧ K (.av .undef) t (H.set hi.seg (.sym (g.set i (.map es'))))
      | _ => False) else False
    | _, _ => False
  | .lenMap m => mapEs (addr H) H hi.seg (m.ev t) fun es => K (.av (.int .i64 es.length)) t H
  | .append es bytes s x => newS (addr H) H hi.seg es (x.ev t) fun new n => takeS z W (addr H) H hi.seg es (s.ev t) fun old l H1 =>
      (l + n) * bytes ≤ 140737488355328 ∧ K (.sln H1.length 0 (l + n)) t (H1 ++ [joinRow (addr H) es old new])
  | .appendStr s x => match x.ev t with
    | .av (.str y) => 0 < y.length ∧ takeS z W (addr H) H hi.seg 1 (s.ev t) fun old l H1 =>
      (l + y.length) * 1 ≤ 140737488355328 ∧ K (.sln H1.length 0 (l + y.length)) t (H1 ++ [joinRow (addr H) 1 old (.inr (y.map fun c => .int .u8 c.toNat))])
    | _ => False
  | .rangeStr x => match x.ev t with
    | .av (.str s) => K (.new H.length 0) t (H ++ [.obj (.iter s 0)])
    | _ => False
  | .call f args => match evs t args with
    | none => False
    | some as =>
      let go : Nat → List AV → Prop := fun g l => if hi.mode = 0 then CallE M g l (flat (addr H) H) (fun v tail => hi.sh.ex fun x => v = conc (addr H) x ∧ K x t (H ++ [.sym tail]))
        else (if z ≤ hi.seg ∧ hi.seg ≤ H.length then CallP M g l (flat (addr H) (H.take hi.seg)) (flat (addr H) (H.drop hi.seg)) (fun v rest => hi.sh.ex fun x => v = conc (addr H) x ∧ K x (t.map (dem (addr H) hi.seg)) ((H.take hi.seg).map (Seg.dem (addr H) hi.seg) ++ [.sym rest])) else False)
      match f.ev t with
      | .av (.fn g cap) => go g (concs (addr H) as ++ cap)
      | .fn g cap => go g (concs (addr H) as ++ concs (addr H) cap)
      | _ => False
  | o => match pureS (addr H) t o with
    | some v => K v t H
    | none => False

/-- The next sign of a string: there is one, or there is none. -/
def wpNext (x : MO) (t : List SV) (H : List Seg) (K K2 : SV → List SV → List Seg → Prop) : Prop :=
  match x.ev t with
  | .new s 0 => if wr z W s = true then (match H[s]? with
    | some (.obj (.iter y p)) => (p < y.length → K (.tup [.av (.bool true), .av (.int .i64 p), .av (.int .i32 (Utf8.decode ⟨y.toArray⟩ p).1)]) t (H.set s (.obj (.iter y (p + (Utf8.decode ⟨y.toArray⟩ p).2))))) ∧ (¬ p < y.length → K2 (.tup [.av (.bool false)]) t H)
    | _ => False) else False
  | _ => False
end
end Go.Abs
