/- What the functions of chapter 16 are claimed to come to: definitions alone. -/
import Derived.Test.YtkeklbicmfhemabDoorQ02p
namespace Go.Proofs.YtkeklbicmfhemabDoorV
open Go

/-- A text's place in a row (-1: none). -/
def posOf (ss : List ByteArray) (v : ByteArray) : Int := match ss.findIdx? (fun x => x.data.toList == v.data.toList) with | some j => j | none => -1
def sSlIndexS (l : List (List PV)) (v : ByteArray) : Option Int := (unS l).bind fun ss => if ss.length ≤ big then some (posOf ss v) else none
/-- The words of errors. -/
def errWords : List (List UInt8) := [[97, 114, 103], [102, 111, 114, 109], [108, 111, 110, 103], [115, 116, 111, 112], [99, 97, 114], [112, 108, 97, 99, 101], [112, 97, 105, 114], [116, 104, 101, 114, 101], [103, 111, 110, 101], [115, 97, 109, 101], [105, 99, 101, 100], [104, 101, 108, 100], [102, 105, 116], [110, 111, 110, 101], [99, 111, 110, 102, 108, 105, 99, 116], [98, 117, 115, 121]]
def errNone : List UInt8 := [119, 104, 97, 116]
def noW (e : Int) : List UInt8 := 110 :: 111 :: 32 :: (if 1 ≤ e ∧ e ≤ 16 then errWords.getD (e - 1).toNat [] else errNone)
def sSayList (w : ByteArray) (l : List (List PV)) : Option ByteArray := (unI l).bind fun ns => if w.size + 21 * ns.length ≤ 1000000000000 then some (text (w.data.toList ++ tailW ns)) else none
def numsV : List (List UInt8) → Option (List Int)
  | [] => some []
  | w :: ws => if (intV w).2 = true then (numsV ws).bind fun ns => some ((intV w).1 :: ns) else none
/-- A line's word and numbers. -/
def readL (l : List UInt8) : Option (List UInt8 × List Int) :=
  match words l with
  | [] => none
  | w :: ws =>
    if joinB (w :: ws) = l then
      if w = [110, 111] then (match ws with | [x] => if (errWords ++ [errNone]).contains x = true then some (l, []) else none | _ => none)
      else (numsV ws).bind fun ns => some (w, ns)
    else none
def sSayRead (s : ByteArray) : Option (ByteArray × List (List PV) × Int) :=
  if s.size ≤ lim then some (match readL s.data.toList with | some x => (text x.1, iRow x.2, 0) | none => (text [], [], 2)) else none
def sSameI (a b : List (List PV)) : Option Bool := (unI a).bind fun a => (unI b).bind fun b => if a.length ≤ big then some (decide (a = b)) else none
def sSayForms (n : Int) : Option Bool := if inI n = true then some true else none
def sSayBack (l : List (List PV)) (which : Int) : Option Bool := (unI l).bind fun l => if inI which = true ∧ l.length ≤ mega then some true else none
def sSayOnly (l : List (List PV)) (which at' : Int) (s : ByteArray) : Option Bool := (unI l).bind fun l => if inI which = true ∧ inI at' = true ∧ l.length ≤ mega ∧ s.size ≤ mega then some true else none
end Go.Proofs.YtkeklbicmfhemabDoorV
