/- What the functions of chapter 3 are claimed to come to: definitions alone. -/
import Derived.Test.YtkeklbicmfhemabGreatDoorSI2
import Derived.Test.YtkeklbicmfhemabGreatDoorQ02p
namespace Go.Proofs.YtkeklbicmfhemabGreatDoorV
open Go

def sAllCar (a : List (List PV)) : Option Bool := (unCar a).bind fun l => if l.length ≤ big then some (l.all carOk) else none
def sAllStop (a : List (List PV)) : Option Bool := (unStp a).bind fun l => if l.length ≤ big then some (l.all stpOk) else none
def sIPairs (a b c d : List (List PV)) : Option Bool := (unInst a b c d).bind fun i => if smallI i = true then some (pairsOk i.stops i.pairs []) else none
def sITravel (a b c d : List (List PV)) : Option Bool := (unInst a b c d).bind fun i => if smallI i = true then some (decide (i.travel.length = i.stops.length + 1) && rowsOk (i.stops.length + 1) 0 i.travel) else none
def sILine (w : ByteArray) (l : List (List PV)) : Option ByteArray := (unI l).bind fun ns => if w.size + 21 * ns.length ≤ 1000000000000 then some (text (w.data.toList ++ tailW ns ++ [10])) else none
/-- A text's lines, each as its words; none if one is not as it must be. -/
def linesF : Nat → List UInt8 → List (List (List UInt8)) → Option (List (List (List UInt8)))
  | 0, _, _ => none
  | f + 1, l, out => if l = [] then some out else
    if (cutAt 10 l).2.2 = true ∧ words (cutAt 10 l).1 ≠ [] ∧ joinB (words (cutAt 10 l).1) = (cutAt 10 l).1 then linesF f (cutAt 10 l).2.1 (out ++ [words (cutAt 10 l).1]) else none
def linesV (l : List UInt8) : Option (List (List (List UInt8))) := linesF (l.length + 1) l []
def wRow (ws : List (List (List UInt8))) : List (List PV) := ws.map fun w => [.fs (sRow (w.map text))]
def sILines (s : ByteArray) : Option (List (List PV) × Bool) := if s.size ≤ lim then some (match linesV s.data.toList with | some ws => (wRow ws, true) | none => ([], false)) else none
/-- The numbers of the first line, if it begins with a word (and has so many). -/
def nextV (ws : List (List (List UInt8))) (word : List UInt8) (many : Int) : Option (List Int) :=
  match ws with
  | [] => none
  | w :: _ => if w.head? = some word ∧ (0 ≤ many → (w.length : Int) = many + 1) ∧ 2 ≤ w.length then numsV w.tail else none
def unW1 : List PV → Option (List (List UInt8)) | [.fs r] => (unS r).bind fun ss => some (ss.map fun s => s.data.toList) | _ => none
def unW : List (List PV) → Option (List (List (List UInt8))) | [] => some [] | e :: es => (unW1 e).bind fun a => (unW es).bind fun l => some (a :: l)
def okHead : List (List (List UInt8)) → Bool | [] => true | w :: _ => !w.isEmpty && (decide (w.length ≤ lim + 1) && w.all fun x => decide (x.length ≤ lim))
def sINext (r : List (List PV)) (word : ByteArray) (many : Int) : Option (List (List PV) × Bool × List (List PV)) := (unW r).bind fun ws =>
  if ws.length ≤ big ∧ -1 ≤ many ∧ many ≤ 1000 ∧ okHead ws = true then some (match nextV ws word.data.toList many with | some ns => (iRow ns, true, wRow ws.tail) | none => ([], false, wRow ws)) else none
/-- All that begin with a word; what is left. -/
def takeV (word : List UInt8) (many : Int) : List (List (List UInt8)) → List (List Int) × List (List (List UInt8))
  | [] => ([], [])
  | w :: ws => match nextV (w :: ws) word many with | some ns => (ns :: (takeV word many ws).1, (takeV word many ws).2) | none => ([], w :: ws)
def wCar : List UInt8 := [99, 97, 114]
def wStop : List UInt8 := [115, 116, 111, 112]
def wPair : List UInt8 := [112, 97, 105, 114]
def wRowW : List UInt8 := [114, 111, 119]
def toCar (l : List Int) : Car := (l.getD 0 0, l.getD 1 0, l.getD 2 0)
def toStp (l : List Int) : Stp := (l.getD 0 0, l.getD 1 0, l.getD 2 0, l.getD 3 0)
def toPair (l : List Int) : Int × Int := (l.getD 0 0, l.getD 1 0)
def instW (ws : List (List (List UInt8))) : Inst × List (List (List UInt8)) :=
  let a := takeV wCar 3 ws; let b := takeV wStop 4 a.2; let c := takeV wPair 2 b.2; let d := takeV wRowW (-1) c.2
  (⟨a.1.map toCar, b.1.map toStp, c.1.map toPair, d.1⟩, d.2)
def noInst : Inst := ⟨[], [], [], []⟩
def parseI (l : List UInt8) : Inst × Int :=
  match linesV l with
  | none => (noInst, 2)
  | some ws => if (instW ws).2 ≠ [] then (noInst, 2) else if checkI (instW ws).1 = true then ((instW ws).1, 0) else (noInst, 1)
def sIParse (s : ByteArray) : Option (List (List PV) × List (List PV) × List (List PV) × List (List PV) × Int) :=
  if s.size ≤ lim then some (carRow (parseI s.data.toList).1.cars, stpRow (parseI s.data.toList).1.stops, prRow (parseI s.data.toList).1.pairs, trRow (parseI s.data.toList).1.travel, (parseI s.data.toList).2) else none
def lineN (w : List UInt8) (ns : List Int) : List UInt8 := w ++ tailW ns ++ [10]
def instText (i : Inst) : List UInt8 := (i.cars.map fun c => lineN wCar [c.1, c.2.1, c.2.2]).flatten ++ (i.stops.map fun s => lineN wStop [s.1, s.2.1, s.2.2.1, s.2.2.2]).flatten ++ (i.pairs.map fun p => lineN wPair [p.1, p.2]).flatten ++ (i.travel.map fun r => lineN wRowW r).flatten
def sIPrint (a b c d : List (List PV)) : Option (ByteArray × Int) := (unInst a b c d).bind fun i => if smallI i = true then some (if checkI i = true then (text (instText i), 0) else (text [], 1)) else none
def sSameCar (a b : List (List PV)) : Option Bool := (unCar a).bind fun a => (unCar b).bind fun b => if a.length ≤ big then some (decide (a = b)) else none
def sSameStop (a b : List (List PV)) : Option Bool := (unStp a).bind fun a => (unStp b).bind fun b => if a.length ≤ big then some (decide (a = b)) else none
def sSamePair (a b : List (List PV)) : Option Bool := (unPr a).bind fun a => (unPr b).bind fun b => if a.length ≤ big then some (decide (a = b)) else none
def sameI3 (i j : Inst) : Bool := decide (i.cars = j.cars) && (decide (i.stops = j.stops) && (decide (i.pairs = j.pairs) && decide (i.travel = j.travel)))
def sSameInst (a b c d e f g h : List (List PV)) : Option Bool := (unInst a b c d).bind fun i => (unInst e f g h).bind fun j => if smallI i = true ∧ smallI j = true then some (sameI3 i j) else none
def sInstBack (l : List (List PV)) : Option Bool := (unI l).bind fun l => if l.length ≤ maxLen then some true else none
end Go.Proofs.YtkeklbicmfhemabGreatDoorV
