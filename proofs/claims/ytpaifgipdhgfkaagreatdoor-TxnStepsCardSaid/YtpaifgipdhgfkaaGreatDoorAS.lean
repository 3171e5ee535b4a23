/- Specs of functions that range over maps, and of what Go's library does with slices. -/
import Derived.Test.YtpaifgipdhgfkaaGreatDoorPS
namespace Go.Proofs.YtpaifgipdhgfkaaGreatDoorV
open Go
abbrev Rs := List (List PV)
abbrev Cs := List PV
abbrev Kv := List (PV × PV)
/-- A number's digits (by a test that the kernel reckons). -/
def sItoaQ (n : Int) : Option ByteArray := cond (Nat.ble n.natAbs 9223372036854775807) (some (text (dig n))) none
/-- A slice's clone has the same elements (of n cells, b bytes each). -/
def sClone (n b : Nat) (es : List (List PV)) : Option (List (List PV)) := if allLen n es = true ∧ es.length * b ≤ 140737488355328 then some es else none
/-- Elements ahead of a place. -/
def sInsert (es : List (List PV)) (i : Int) (vs : List (List PV)) : Option (List (List PV)) :=
  if 0 ≤ i ∧ i ≤ es.length ∧ vs.length ≠ 0 ∧ (es.length + vs.length) * 8 ≤ 140737488355328 then some (es.take i.toNat ++ vs ++ es.drop i.toNat) else none
def ins (k : Int) : List Int → List Int
  | [] => [k]
  | x :: l => if x < k then x :: ins k l else k :: x :: l
def sortI (l : List Int) : List Int := l.foldl (fun o k => ins k o) []
/-- A map of numbers to yes or no. -/
def decSet : List (PV × PV) → Option (List (Int × Bool))
  | [] => some []
  | (.int .i64 n, .bool b) :: l => (decSet l).bind fun r => some ((n, b) :: r)
  | _ => none
def encI (l : List Int) : List (List PV) := l.map fun n => [.int .i64 n]
def sRising (p : PV) : Option (List (List PV)) :=
  p.asMp.bind fun kvs => if kvs.length * 8 ≤ 140737488355328 then (decSet kvs).bind fun l => some (encI (sortI ((l.filter (·.2)).map (·.1)))) else none
/-- The numbers of a row. -/
def decRows : List (List PV) → Option (List Int)
  | [] => some []
  | [.int .i64 n] :: r => (decRows r).bind fun l => some (n :: l)
  | _ => none
def decTurns : List (List PV) → Option (List (List Int × List Int))
  | [] => some []
  | [_, .fs b, .fs a] :: r => (decRows b).bind fun x => (decRows a).bind fun y => (decTurns r).bind fun l => some ((x, y) :: l)
  | _ => none
def addI (o : List Int) (x : Int) : List Int := if o.contains x then o else o ++ [x]
def dedI (l : List Int) : List Int := l.foldl addI []
/-- Stops that are on a route behind an edit, and were on none ahead of it, or the other way round; in order. -/
def sRMoved (d1 _ _ : List (List PV)) : Option (List (List PV)) :=
  (decTurns d1).bind fun ts =>
    if d1.length ≤ 4611686018427387904 ∧ (ts.all fun t => decide (t.1.length ≤ 4611686018427387904 ∧ t.2.length ≤ 4611686018427387904)) = true ∧ ((dedI (ts.flatMap (·.1))).length + (dedI (ts.flatMap (·.2))).length) * 8 ≤ 140737488355328 then
      some (encI (sortI ((dedI (ts.flatMap (·.1))).filter (fun x => !(dedI (ts.flatMap (·.2))).contains x) ++ (dedI (ts.flatMap (·.2))).filter (fun x => !(dedI (ts.flatMap (·.1))).contains x))))
    else none
def sMoved (_ _ _ : List (List PV)) : Option (List (List PV)) := none
def sStill (_ _ _ _ _ _ : List (List PV)) (_ : Int) : PV → Option Bool
  | .fm [] => some true
  | _ => none
end Go.Proofs.YtpaifgipdhgfkaaGreatDoorV
