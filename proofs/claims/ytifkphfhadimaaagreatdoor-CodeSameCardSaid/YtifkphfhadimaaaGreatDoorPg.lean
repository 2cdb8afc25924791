import Derived.Test.YtifkphfhadimaaaGreatDoorAbsG10
set_option linter.unusedVariables false
set_option maxRecDepth 100000
namespace Go.Proofs.YtifkphfhadimaaaGreatDoor.Mini
open Go.Abs
abbrev Rout := List UInt8 × List (List Int)
def insV (l : List Int) : List AV := match l with
  | op :: star :: r => .int .i64 op :: .bool (star == 1) :: r.map fun x => .int .i64 x
  | _ => []
def codeV (c : List (List Int)) : List AV := c.flatMap insV
def routsV : Nat → List Rout → List AV
  | _, [] => []
  | i, r :: l => .str r.1 :: .slice i 0 r.2.length :: routsV (i + 1) l
def progV (p : List UInt8 × Int × List Rout) : AV := .tuple [.agg [.str p.1, .int .i64 p.2.1, .slice 0 0 p.2.2.length], .int .i64 0, .int .i64 0]
def progL (p : List UInt8 × Int × List Rout) : List (List AV × Nat) := (routsV 1 p.2.2, 2) :: p.2.2.map fun r => (codeV r.2, 11)
def basesV : List AV → List Nat
  | .str _ :: .slice b _ _ :: r => b :: basesV r
  | _ => []
noncomputable def basesR (x : Option TRes) : List Nat := match x with
  | some (.val (.tuple [.agg [_, _, .slice b _ _], _, _]) n H) => b :: (match H.at b with
    | some (.arr c _ _) => basesV c
    | _ => [])
  | _ => []
end Go.Proofs.YtifkphfhadimaaaGreatDoor.Mini

