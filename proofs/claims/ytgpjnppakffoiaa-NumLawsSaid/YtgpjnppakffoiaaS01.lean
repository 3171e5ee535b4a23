/- What the functions of chapter 1 are claimed to come to. -/
import Derived.Test.YtgpjnppakffoiaaVA
namespace Go.Proofs.YtgpjnppakffoiaaV
open Go

def bxor (k : IntKind) (a b : Int) : Int := k.wrap ((BitVec.ofInt k.bits a ^^^ BitVec.ofInt k.bits b).toNat : Nat)
/-- The draw behind a number. -/
def drawOf (x : Int) : Int :=
  cond (x == 0) 2463534242
    (let a := bxor .u32 x (IntKind.wrap .u32 (x * 2 ^ 13))
     let b := bxor .u32 a (Int.fdiv a (2 ^ 17))
     bxor .u32 b (IntKind.wrap .u32 (b * 2 ^ 5)))
def sNumDraws (x n : Int) : Option Bool := if 0 ≤ x ∧ x < 4294967296 ∧ -9223372036854775808 ≤ n ∧ n < 9223372036854775808 then some true else none
end Go.Proofs.YtgpjnppakffoiaaV
