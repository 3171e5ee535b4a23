/- What the functions of chapter 15 are claimed to come to: definitions alone. -/
import Derived.Test.YtkeklbicmfhemaaDoorS02
namespace Go.Proofs.YtkeklbicmfhemaaDoorV
open Go

/-- A command: what is done; its stop, car, place, mate, budget, seed, other car. -/
abbrev Cm := Int × Int × Int × Int × Int × Int × Int × Int
def zeroC : Cm := (0, 0, 0, 0, 0, 0, 0, 0)
def newC (op : Int) : Cm := (op, 0, 0, 0, -1, 0, 0, -1)
def putC (c : Cm) (b : UInt8) (n : Int) : Cm :=
  if b = 115 then (c.1, n, c.2.2) else if b = 99 then (c.1, c.2.1, n, c.2.2.2) else if b = 97 then (c.1, c.2.1, c.2.2.1, n, c.2.2.2.2) else if b = 109 then (c.1, c.2.1, c.2.2.1, c.2.2.2.1, n, c.2.2.2.2.2)
  else if b = 98 then (c.1, c.2.1, c.2.2.1, c.2.2.2.1, c.2.2.2.2.1, n, c.2.2.2.2.2.2) else if b = 120 then (c.1, c.2.1, c.2.2.1, c.2.2.2.1, c.2.2.2.2.1, c.2.2.2.2.2.1, n, c.2.2.2.2.2.2.2)
  else (c.1, c.2.1, c.2.2.1, c.2.2.2.1, c.2.2.2.2.1, c.2.2.2.2.2.1, c.2.2.2.2.2.2.1, n)
def getC (c : Cm) (b : UInt8) : Int :=
  if b = 115 then c.2.1 else if b = 99 then c.2.2.1 else if b = 97 then c.2.2.2.1 else if b = 109 then c.2.2.2.2.1 else if b = 98 then c.2.2.2.2.2.1 else if b = 120 then c.2.2.2.2.2.2.1 else c.2.2.2.2.2.2.2
/-- A form: its word, what it does, where its numbers go. -/
abbrev Form := List UInt8 × Int × List UInt8
def fAdd : List UInt8 := [97, 100, 100]
def fMov : List UInt8 := [109, 111, 118]
def fOpt : List UInt8 := [111, 112, 116]
def formsL : List Form := [(fAdd, 1, [115, 99, 97]), (fAdd, 1, [115, 99, 97, 109]), ([100, 101, 108], 2, [115]), (fMov, 3, [115, 99, 97]), (fMov, 3, [115, 99, 97, 109]), ([108, 111, 99, 107], 4, [115]), ([102, 114, 101, 101], 5, [115]), ([105, 99, 101], 6, [99]), ([116, 104, 97, 119], 7, [99]), (fOpt, 8, [98, 120, 99]), (fOpt, 8, [98, 120, 99, 111]), ([117, 110, 100, 111], 9, []), ([114, 101, 100, 111], 10, []), ([115, 104, 111, 119], 11, [99]), ([112, 111, 111, 108], 12, []), ([99, 111, 115, 116], 13, [])]
def fRow (l : List Form) : List (List PV) := l.map fun f => [.str (text f.1), .int .i64 f.2.1, .str (text f.2.2)]
def numW (w : List UInt8) : Option Int := if (intV w).2 = true ∧ 0 ≤ (intV w).1 ∧ (intV w).1 ≤ 999 then some (intV w).1 else none
def fillC : List UInt8 → List (List UInt8) → Cm → Option Cm
  | [], _, c => some c
  | _ :: _, [], _ => none
  | b :: to, w :: ws, c => (numW w).bind fun n => fillC to ws (putC c b n)
def readC (f : Form) (ws : List (List UInt8)) : Option Cm :=
  if ws.head? = some f.1 ∧ ws.length = 1 + f.2.2.length then (fillC f.2.2 ws.tail (newC f.2.1)).bind fun c => if c.1 = 8 ∧ (c.2.2.2.2.2.1 < 1 ∨ 20 < c.2.2.2.2.2.1) then none else some c else none
def parseW (ws : List (List UInt8)) : Option Cm := formsL.findSome? fun f => readC f ws
def parseC (l : List UInt8) : Option Cm := parseW (words l)
def lineC (f : Form) (c : Cm) : List UInt8 := f.1 ++ (f.2.2.map fun b => 32 :: dig (getC c b)).flatten
/-- Are two commands alike? -/
def eqC (a b : Cm) : Bool := (a.1 == b.1) && ((a.2.1 == b.2.1) && ((a.2.2.1 == b.2.2.1) && ((a.2.2.2.1 == b.2.2.2.1) && ((a.2.2.2.2.1 == b.2.2.2.2.1) && ((a.2.2.2.2.2.1 == b.2.2.2.2.2.1) && ((a.2.2.2.2.2.2.1 == b.2.2.2.2.2.2.1) && ((a.2.2.2.2.2.2.2 == b.2.2.2.2.2.2.2) && true)))))))
theorem eqC_iff (a b : Cm) : eqC a b = true ↔ a = b := by
  obtain ⟨a1, a2, a3, a4, a5, a6, a7, a8⟩ := a
  obtain ⟨b1, b2, b3, b4, b5, b6, b7, b8⟩ := b
  simp [eqC]
/-- Is a form's line parsed back? -/
def backC (f : Form) (c : Cm) : Bool := match parseC (lineC f c) with | some d => eqC d c | none => false
def printC (c : Cm) : Option (List UInt8) := formsL.findSome? fun f => if backC f c = true then some (lineC f c) else none
abbrev Cm9 := Int × Int × Int × Int × Int × Int × Int × Int × Int
def cmE (c : Cm) (e : Int) : Cm9 := (c.1, c.2.1, c.2.2.1, c.2.2.2.1, c.2.2.2.2.1, c.2.2.2.2.2.1, c.2.2.2.2.2.2.1, c.2.2.2.2.2.2.2, e)
def sCParse (s : ByteArray) : Option Cm9 := if s.size ≤ lim then some (match parseC s.data.toList with | some c => cmE c 0 | none => cmE zeroC 2) else none
abbrev CmB := Int × Int × Int × Int × Int × Int × Int × Int × Bool
def cmB (c : Cm) (b : Bool) : CmB := (c.1, c.2.1, c.2.2.1, c.2.2.2.1, c.2.2.2.2.1, c.2.2.2.2.2.1, c.2.2.2.2.2.2.1, c.2.2.2.2.2.2.2, b)
def sCRead (f1 : ByteArray) (op : Int) (f3 : ByteArray) (w : List (List PV)) : Option CmB := (unS w).bind fun ws =>
  if ws ≠ [] ∧ inI op = true ∧ f3.size ≤ 100 ∧ (f3.data.toList.all fun b => decide (b.toNat < 128)) = true ∧ ws.length ≤ big ∧ (∀ w ∈ ws, w.size ≤ lim) then
    some (match readC (f1.data.toList, op, f3.data.toList) (ws.map fun w => w.data.toList) with | some c => cmB c true | none => cmB zeroC false) else none
def inC (c : Cm) : Bool := inI c.1 && (inI c.2.1 && (inI c.2.2.1 && (inI c.2.2.2.1 && (inI c.2.2.2.2.1 && (inI c.2.2.2.2.2.1 && (inI c.2.2.2.2.2.2.1 && inI c.2.2.2.2.2.2.2))))))
def sCPrint (a b c d e f g h : Int) : Option (ByteArray × Int) := if inC (a, b, c, d, e, f, g, h) = true then some (match printC (a, b, c, d, e, f, g, h) with | some l => (text l, 0) | none => (text [], 1)) else none
/-- What is told of a command made of numbers: they are numbers. -/
def ofP (_ : Int) (_ : List (List PV)) (_ : Int) (y : Cm) : Prop := inC y = true
def sCmdForms (n : Int) : Option Bool := if inI n = true then some true else none
def sCmdBack (op : Int) (l : List (List PV)) (how blanks : Int) : Option Bool := (unI l).bind fun l => if inI op = true ∧ inI how = true ∧ inI blanks = true then some true else none
def sCmdNumbers (op : Int) (l : List (List PV)) : Option Bool := (unI l).bind fun l => if inI op = true then some true else none
end Go.Proofs.YtkeklbicmfhemaaDoorV
