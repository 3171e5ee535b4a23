/- Problems: which may be; plans; mates: definitions alone. -/
import Derived.Test.YtpaifgipdhgfkaaSI
namespace Go.Proofs.YtpaifgipdhgfkaaV
open Go

def inR (n lo hi : Int) : Bool := decide (lo ≤ n) && decide (n ≤ hi)
def carOk (c : Car) : Bool := inR c.1 0 60 && (inR c.2.1 0 c.2.2 && decide (c.2.2 ≤ 1000))
def stpOk (s : Stp) : Bool := inR s.1 (-20) 20 && (inR s.2.1 0 s.2.2.1 && (decide (s.2.2.1 ≤ 1000) && inR s.2.2.2 0 1000))
def demandAt (s : List Stp) (n : Int) : Int := (s.getD (n - 1).toNat (0, 0, 0, 0)).1
def fresh (s : List Stp) (had : List Int) (x : Int) : Bool := inR x 1 s.length && !had.contains x
def pairsOk (s : List Stp) : List (Int × Int) → List Int → Bool
  | [], _ => true
  | p :: r, had => fresh s had p.1 && (fresh s (had ++ [p.1]) p.2 && (decide (0 ≤ demandAt s p.1) && (decide (demandAt s p.2 = -demandAt s p.1) && pairsOk s r (had ++ [p.1, p.2]))))
def cellOk (a b : Nat) (t : Int) : Bool := inR t 0 1000 && !(a == b && t != 0)
def cellsOk (a : Nat) : Nat → List Int → Bool
  | _, [] => true
  | b, t :: r => cellOk a b t && cellsOk a (b + 1) r
def rowsOk (size : Nat) : Nat → List (List Int) → Bool
  | _, [] => true
  | a, r :: rs => decide (r.length = size) && (cellsOk a 0 r && rowsOk size (a + 1) rs)
def checkI (i : Inst) : Bool := inR i.cars.length 1 3 && (decide (i.stops.length ≤ 10) && (decide (i.travel.length = i.stops.length + 1) && (i.cars.all carOk && (i.stops.all stpOk && (pairsOk i.stops i.pairs [] && rowsOk i.travel.length 0 i.travel)))))
def smallI (i : Inst) : Bool := decide (i.cars.length ≤ big) && (decide (i.stops.length ≤ big) && (decide (i.pairs.length ≤ big) && (decide (i.travel.length ≤ big) && i.travel.all fun r => decide (r.length ≤ big))))
def sCheckInst (a b c d : List (List PV)) : Option Bool := (unInst a b c d).bind fun i => if smallI i = true then some (checkI i) else none
def sFilled (n x : Int) : Option (List (List PV)) := if 0 ≤ n ∧ n ≤ 1000 ∧ inI x = true then some (iRow (List.replicate n.toNat x)) else none
/-- A plan: of each car its route; locks, ices, and what is counted. -/
structure Plan where
  routes : List (List Int)
  lock : List Int
  ice : List Int
  rv : List Int
  sv : List Int
  iv : List Int
  pv : Int
def newPlan (i : Inst) : Plan := if checkI i = true then ⟨List.replicate i.cars.length [], List.replicate (i.stops.length + 1) (-1), List.replicate i.cars.length (-1), List.replicate i.cars.length 0, List.replicate (i.stops.length + 1) 0, List.replicate i.cars.length 0, 0⟩ else ⟨[], [], [], [], [], [], 0⟩
def sNewPlan (a b c d : List (List PV)) : Option (List (List PV) × List (List PV) × List (List PV) × List (List PV) × List (List PV) × List (List PV) × Int) := (unInst a b c d).bind fun i => if smallI i = true then
  some (trRow (newPlan i).routes, iRow (newPlan i).lock, iRow (newPlan i).ice, iRow (newPlan i).rv, iRow (newPlan i).sv, iRow (newPlan i).iv, (newPlan i).pv) else none
def mateOf : List (Int × Int) → Int → Int
  | [], _ => 0
  | p :: r, s => if p.1 = s then p.2 else if p.2 = s then p.1 else mateOf r s
def firstOf (l : List (Int × Int)) (s : Int) : Bool := l.any fun p => p.1 == s
def sMate (a b c d : List (List PV)) (s : Int) : Option Int := (unInst a b c d).bind fun i => if smallI i = true then some (mateOf i.pairs s) else none
def sFirst (a b c d : List (List PV)) (s : Int) : Option Bool := (unInst a b c d).bind fun i => if smallI i = true then some (firstOf i.pairs s) else none
end Go.Proofs.YtpaifgipdhgfkaaV
