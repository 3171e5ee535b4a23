/- What Go's library is asked: definitions alone. -/
import Derived.Test.YtpaifgipdhgfkaaGreatDoorPS
namespace Go.Proofs.YtpaifgipdhgfkaaGreatDoorV
open Go

def lim : Nat := 4294967280
/-- (Its test is none that the kernel reckons: held against a great number it would count.) -/
noncomputable def sItoa (n : Int) : Option ByteArray := @ite _ (inI n = true) (Classical.propDecidable _) (some (text (dig n))) none
def sAtoi (s : ByteArray) : Option (Int × PV) :=
  if s.size ≤ lim then some (match Lib.atoiAll s.data.toList with | .ok v => (v, .nilif) | .range => (Lib.atoiSat s.data.toList, .err) | _ => (0, .err)) else none
def sCut (s sep : ByteArray) : Option (ByteArray × ByteArray × Bool) :=
  if s.size ≤ lim then some (text (Lib.cut s.data.toList sep.data.toList).1, text (Lib.cut s.data.toList sep.data.toList).2.1, (Lib.cut s.data.toList sep.data.toList).2.2) else none
def sContains (s sub : ByteArray) : Option Bool := if s.size ≤ lim then some (Lib.contains s.data.toList sub.data.toList) else none
def sSplit (s sep : ByteArray) : Option (List (List PV)) := if s.size ≤ lim ∧ sep.data.toList = [32] then some (sRow ((splitOn 32 s.data.toList).map text)) else none
def sJoin (l : List (List PV)) (sep : ByteArray) : Option ByteArray := (unS l).bind fun ss =>
  if ss.length ≤ 140737488355328 ∧ (Lib.join (ss.map fun s => s.data.toList) sep.data.toList).length ≤ 140737488355328 then some (text (Lib.join (ss.map fun s => s.data.toList) sep.data.toList)) else none
def sTrim (s cs : ByteArray) : Option ByteArray :=
  if s.size ≤ lim ∧ cs.size ≤ lim ∧ cs.data.toList.all (fun b => decide (b.toNat < 128)) = true then some (text (Lib.trimS s.data.toList cs.data.toList)) else none
end Go.Proofs.YtpaifgipdhgfkaaGreatDoorV
