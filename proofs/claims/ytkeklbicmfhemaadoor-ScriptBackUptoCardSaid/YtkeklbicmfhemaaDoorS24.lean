/- What the functions of chapter 24 are claimed to come to: definitions alone. -/
import Derived.Test.YtkeklbicmfhemaaDoorS02
namespace Go.Proofs.YtkeklbicmfhemaaDoorV
open Go

/-- Something that is done: its kind, its session, its text. -/
abbrev Act := Int × Int × ByteArray
def aRow (l : List Act) : List (List PV) := l.map fun a => [.int .i64 a.1, .int .i64 a.2.1, .str a.2.2]
def unA1 : List PV → Option Act
  | [.int .i64 a, .int .i64 b, .str s] => some (a, b, s)
  | _ => none
def unA : List (List PV) → Option (List Act)
  | [] => some []
  | e :: es => (unA1 e).bind fun a => (unA es).bind fun l => some (a :: l)
def kindWords : List (List UInt8) := [[111, 112, 101, 110], [99, 108, 111, 115, 101], [115, 97, 121], [98, 121, 116, 101, 115], [112, 105, 99, 107], [114, 117, 110]]
def kindFrom : Nat → List (List UInt8) → List UInt8 → Option Nat
  | _, [], _ => none
  | j, x :: xs, w => if x = w then some j else kindFrom (j + 1) xs w
def textK (k : Int) : Bool := k == 3 || k == 4
/-- A line's act, and whether it is one. -/
def actOf (k : Nat) (r : List UInt8) : Act × Bool :=
  (((k : Int) + 1, (intV (cutAt 32 r).1).1, text (cutAt 32 r).2.1), (intV (cutAt 32 r).1).2 && (decide (0 ≤ (intV (cutAt 32 r).1).1) && (decide ((intV (cutAt 32 r).1).1 ≤ 9999) && ((cutAt 32 r).2.2 == textK ((k : Int) + 1)))))
def actV (l : List UInt8) : Act × Bool :=
  match (if (cutAt 32 l).2.2 = true then kindFrom 0 kindWords (cutAt 32 l).1 else none) with
  | none => ((0, 0, text []), false)
  | some k => actOf k (cutAt 32 l).2.1
def sScAct (s : ByteArray) : Option (Int × Int × ByteArray × Bool) := if s.size ≤ lim then some ((actV s.data.toList).1.1, (actV s.data.toList).1.2.1, (actV s.data.toList).1.2.2, (actV s.data.toList).2) else none
/-- The acts of a text. -/
def parseF : Nat → List UInt8 → List Act → Option (List Act)
  | 0, _, _ => none
  | n + 1, l, acc => if l = [] then some acc else if (cutAt 10 l).2.2 = true ∧ (actV (cutAt 10 l).1).2 = true then parseF n (cutAt 10 l).2.1 (acc ++ [(actV (cutAt 10 l).1).1]) else none
def parseV (l : List UInt8) : Option (List Act) := parseF (l.length + 1) l []
def parseR (l : List UInt8) : List (List PV) × Int := match parseV l with | some a => (aRow a, 0) | none => ([], 2)
def sScParse (s : ByteArray) : Option (List (List PV) × Int) := if s.size ≤ lim then some (parseR s.data.toList) else none
/-- An act's line. -/
def lineV (a : Act) : List UInt8 := if 1 ≤ a.1 ∧ a.1 ≤ 6 then (kindWords.getD (a.1 - 1).toNat []) ++ 32 :: dig a.2.1 ++ (if textK a.1 = true then 32 :: a.2.2.data.toList else []) else []
def sScLine (a1 a2 : Int) (a3 : ByteArray) : Option ByteArray := if inI a2 = true ∧ a3.size ≤ 2 * mega then some (text (lineV (a1, a2, a3))) else none
def goodA (a : Act) : Bool := (actV (lineV a)).2 && (decide ((actV (lineV a)).1 = a) && !(lineV a).contains 10)
def printF : List Act → List UInt8 → Option (List UInt8)
  | [], out => some out
  | a :: r, out => if goodA a = true then printF r (out ++ lineV a ++ [10]) else none
def printR (l : List Act) : ByteArray × Int := match printF l [] with | some o => (text o, 0) | none => (text [], 1)
def okA (a : Act) : Bool := inI a.1 && (inI a.2.1 && decide (a.2.2.size ≤ 2 * mega))
def sScPrint (es : List (List PV)) : Option (ByteArray × Int) := (unA es).bind fun l => if l.length ≤ 1000 ∧ l.all okA = true then some (printR l) else none
def sSameA (a b : List (List PV)) : Option Bool := (unA a).bind fun a => (unA b).bind fun b => if a.length ≤ big then some (decide (a = b)) else none
def sScriptForms (n : Int) : Option Bool := if inI n = true then some true else none
end Go.Proofs.YtkeklbicmfhemaaDoorV
