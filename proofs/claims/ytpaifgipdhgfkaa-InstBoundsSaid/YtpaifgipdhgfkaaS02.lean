/- What the functions of chapter 2 are claimed to come to: definitions alone. -/
import Derived.Test.YtpaifgipdhgfkaaSL
namespace Go.Proofs.YtpaifgipdhgfkaaV
open Go

def intV (l : List UInt8) : Int × Bool := match intOf l with | some n => (n, true) | none => (0, false)
def sWords (s : ByteArray) : Option (List (List PV)) := if s.size ≤ lim then some (sRow ((words s.data.toList).map text)) else none
def sRWords (s : ByteArray) : Option (List (List PV)) := sWords s
noncomputable def sRDigits (n : Int) : Option ByteArray := sItoa n
def sRInt (s : ByteArray) : Option (Int × Bool) := if s.size ≤ lim then some (intV s.data.toList) else none
def big : Nat := 1099511627776
def sSameS (a b : List (List PV)) : Option Bool := (unS a).bind fun a => (unS b).bind fun b => if a.length ≤ big then some (decide (a = b)) else none
def sSameI (a b : List (List PV)) : Option Bool := (unI a).bind fun a => (unI b).bind fun b => if a.length ≤ big then some (decide (a = b)) else none
def sScanDigits (n at' c : Int) : Option Bool := if inI n = true ∧ inI at' = true ∧ 0 ≤ c ∧ c < 256 then some true else none
def sScanForms (n : Int) : Option Bool := if inI n = true then some true else none
def mega : Nat := 1048576
def sScanJoins (s t : ByteArray) : Option Bool := if s.size ≤ mega ∧ t.size ≤ mega then some true else none
def sScanTells (s : ByteArray) (n : Int) : Option Bool := if s.size ≤ mega ∧ inI n = true then some true else none
def sScanBack (n : Int) (l : List (List PV)) (k : Int) : Option Bool := (unS l).bind fun l => if inI n = true ∧ inI k = true ∧ l.length ≤ mega ∧ ∀ s ∈ l, s.size ≤ mega then some true else none
end Go.Proofs.YtpaifgipdhgfkaaV
