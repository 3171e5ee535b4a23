/- Which problem may be, as the functions of chapter 3 are claimed to say: definitions alone. -/
import Derived.Test.YtpaifgipdhgfkaaSI2
namespace Go.Proofs.YtpaifgipdhgfkaaV
open Go

def sAllCar (a : List (List PV)) : Option Bool := (unCar a).bind fun l => if l.length ≤ big then some (l.all carOk) else none
def sAllStop (a : List (List PV)) : Option Bool := (unStp a).bind fun l => if l.length ≤ big then some (l.all stpOk) else none
def sIPairs (a b c d : List (List PV)) : Option Bool := (unInst a b c d).bind fun i => if smallI i = true then some (pairsOk i.stops i.pairs []) else none
def sITravel (a b c d : List (List PV)) : Option Bool := (unInst a b c d).bind fun i => if smallI i = true then some (decide (i.travel.length = i.stops.length + 1) && rowsOk (i.stops.length + 1) 0 i.travel) else none
end Go.Proofs.YtpaifgipdhgfkaaV
