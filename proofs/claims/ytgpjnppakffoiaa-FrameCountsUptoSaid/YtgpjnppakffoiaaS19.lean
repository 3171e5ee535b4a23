/- What the functions of chapter 19 are claimed to come to: definitions alone. -/
import Derived.Test.YtgpjnppakffoiaaPK
namespace Go.Proofs.YtgpjnppakffoiaaV
open Go

def text (f : List UInt8) : ByteArray := ⟨f.toArray⟩
def lRow (l : List (ByteArray × Bool)) : List (List PV) := l.map fun x => [.str x.1, .bool x.2]
def unL1 : List PV → Option (ByteArray × Bool)
  | [.str s, .bool b] => some (s, b)
  | _ => none
def unL : List (List PV) → Option (List (ByteArray × Bool))
  | [] => some []
  | e :: es => (unL1 e).bind fun x => (unL es).bind fun l => some (x :: l)

/-- A line of what stands ahead of its end. -/
def lineOf (f : List UInt8) : ByteArray × Bool := if 48 < f.length then (text [], true) else (text f, false)
/-- Bytes that are fed: lines, and what is left. -/
def feed : List UInt8 → List UInt8 → List (ByteArray × Bool) × List UInt8
  | f, [] => ([], f)
  | f, c :: b =>
    if c = 10 then (lineOf f :: (feed [] b).1, (feed [] b).2)
    else if f.length ≤ 48 then feed (f ++ [c]) b
    else feed f b
/-- Lines of bytes, with all that stands between their ends. -/
def lines : List UInt8 → List UInt8 → List (ByteArray × Bool) × List UInt8
  | f, [] => ([], f)
  | f, c :: b => if c = 10 then (lineOf f :: (lines [] b).1, (lines [] b).2) else lines (f ++ [c]) b

def big : Nat := 1099511627776
def sFeed (f b : List (List PV)) : Option (List (List PV) × List (List PV)) :=
  (unB f).bind fun f => (unB b).bind fun b => if f.length ≤ 49 ∧ b.length ≤ big then some (lRow (feed f b).1, bRow (feed f b).2) else none
def sSameL (a b : List (List PV)) : Option Bool :=
  (unL a).bind fun a => (unL b).bind fun b => if a.length ≤ big then some (decide (a = b)) else none
def sLines (b : List (List PV)) : Option (List (List PV) × Int) :=
  (unB b).bind fun b => if b.length ≤ big then some (lRow (lines [] b).1, (min (lines [] b).2.length 49 : Nat)) else none

/-- Bytes of a number. -/
def chunk (raw : List UInt8) (v : Int) : List UInt8 :=
  if v % 5 = 0 then [10] else if v % 5 = 1 then raw else (List.range ((Int.tdiv v 5) % 30).toNat).map fun j => UInt8.ofNat (97 + j)
def sBytesL (l raw : List (List PV)) : Option (List (List PV)) :=
  (unI l).bind fun l => (unB raw).bind fun raw => if raw.length ≤ 17179869184 then some (bRow ((l.take 40).flatMap (chunk raw))) else none

def sFrameOrder (l : List (List PV)) (cut : Int) : Option Bool := (unS l).bind fun l => if l.length ≤ maxLen ∧ inI cut = true then some true else none
def sFrameBytes (l raw : List (List PV)) : Option Bool := (unI l).bind fun _ => (unB raw).bind fun raw => if raw.length ≤ 1048576 then some true else none
def sFrameTells (l raw cuts : List (List PV)) : Option Bool := (unI l).bind fun _ => (unB raw).bind fun raw => (unI cuts).bind fun cuts => if raw.length ≤ 1048576 ∧ cuts.length ≤ maxLen then some true else none
def sFrameLong (n c cut : Int) : Option Bool := if inI n = true ∧ (0 ≤ c ∧ c < 256) ∧ inI cut = true then some true else none
def sFrameCounts (l raw : List (List PV)) : Option Bool := (unI l).bind fun _ => (unB raw).bind fun raw => if raw.length ≤ 1048576 then some true else none
end Go.Proofs.YtgpjnppakffoiaaV
