/- What sums, products, picks are claimed to come to: definitions alone. -/
import Derived.Test.YtgpjnppakffoiaaPK
import Derived.Test.YtgpjnppakffoiaaS01
namespace Go.Proofs.YtgpjnppakffoiaaV
open Go

def addV (a b : Int) : Int × Bool := if inI (a + b) = true then (a + b, true) else (0, false)
def mulV (a b : Int) : Int × Bool := if inI (a * b) = true then (a * b, true) else (0, false)
def sAdd (a b : Int) : Option (Int × Bool) := if inI a = true ∧ inI b = true then some (addV a b) else none
def sMul (a b : Int) : Option (Int × Bool) := if inI a = true ∧ inI b = true then some (mulV a b) else none
def sMul64 (x y : Int) : Option (Int × Int) := if (0 ≤ x ∧ x < 18446744073709551616) ∧ 0 ≤ y ∧ y < 18446744073709551616 then some (x * y / 18446744073709551616, x * y % 18446744073709551616) else none
def inU (x : Int) : Bool := decide (0 ≤ x ∧ x < 4294967296)
def pickV (x n : Int) : Int := if n < 1 then 0 else x % n
def sPick (x n : Int) : Option Int := if inU x = true ∧ inI n = true then some (pickV x n) else none
def sNumSums (a b c : Int) : Option Bool := if inI a = true ∧ inI b = true ∧ inI c = true then some true else none
def sNumForms (n : Int) : Option Bool := if inI n = true then some true else none
def sNumTells (a b x n : Int) : Option Bool := if inI a = true ∧ inI b = true ∧ inU x = true ∧ inI n = true then some true else none
def sNumLaws (a b x y n : Int) : Option Bool := if inI a = true ∧ inI b = true ∧ inU x = true ∧ inU y = true ∧ inI n = true then some true else none
end Go.Proofs.YtgpjnppakffoiaaV
