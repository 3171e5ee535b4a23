/- Lines and acts made of numbers: what is said of them. -/
import Derived.Test.YtkeklbicmfhemaaDoorSI2
import Derived.Test.YtkeklbicmfhemaaDoorS24
namespace Go.Proofs.YtkeklbicmfhemaaDoorV
open Go

/-- A text that is made beside another: not much longer; a line's end in it stands in the other, too. -/
def beside (s t : ByteArray) : Prop := t.size ≤ s.size + 400 ∧ (10 ∈ t.data.toList → 10 ∈ s.data.toList)
def lineP (_ _ _ _ _ _ _ _ _ _ : List (List PV)) (_ _ _ _ : Int) (s t : ByteArray) : Prop := beside s t
def actP (s : ByteArray) (a : Act) : Prop := 1 ≤ a.1 ∧ a.1 ≤ 6 ∧ 0 ≤ a.2.1 ∧ a.2.1 ≤ 9999 ∧ (textK a.1 = false → a.2.2 = text []) ∧ beside s a.2.2
def actsP (_ _ _ _ _ : List (List PV)) (s : ByteArray) (y : List (List PV)) : Prop := ∃ l : List Act, y = aRow l ∧ l.length ≤ 20 ∧ ∀ a ∈ l, actP s a
def sScriptBack (l a b : List (List PV)) (s : ByteArray) : Option Bool := (unI l).bind fun l => (unI a).bind fun a => (unI b).bind fun b => if l.length ≤ mega ∧ a.length ≤ mega ∧ b.length ≤ mega ∧ s.size ≤ mega then some true else none
def sScriptTells (l m : List (List PV)) (s : ByteArray) (how x at' : Int) (_ : Bool) : Option Bool := (unI l).bind fun l => (unI m).bind fun m => if l.length ≤ mega ∧ m.length ≤ mega ∧ s.size ≤ mega ∧ inI how = true ∧ inI x = true ∧ inI at' = true then some true else none
def sRPrint24 (es : List (List PV)) : Option (ByteArray × Bool) := (unA es).bind fun l => if l.length ≤ 1000 ∧ l.all okA = true then some (match printF l [] with | some o => (text o, true) | none => (text [], false)) else none
def sRParse24 (s : ByteArray) : Option (List (List PV) × Bool) := if s.size ≤ lim then some (match parseV s.data.toList with | some a => (aRow a, true) | none => ([], false)) else none
end Go.Proofs.YtkeklbicmfhemaaDoorV
