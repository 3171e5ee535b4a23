/- What Go's library is asked: definitions alone. -/
import Derived.Test.YtkeklbicmfhemaaDoorPS
namespace Go.Proofs.YtkeklbicmfhemaaDoorV
open Go

def lim : Nat := 4294967280
def sItoa (n : Int) : Option ByteArray := if inI n = true then some (text (dig n)) else none
def sAtoi (s : ByteArray) : Option (Int × PV) :=
  if s.size ≤ lim then some (match Lib.atoiAll s.data.toList with | .ok v => (v, .nilif) | .range => (Lib.atoiSat s.data.toList, .err) | _ => (0, .err)) else none
def sCut (s sep : ByteArray) : Option (ByteArray × ByteArray × Bool) :=
  if s.size ≤ lim then some (text (Lib.cut s.data.toList sep.data.toList).1, text (Lib.cut s.data.toList sep.data.toList).2.1, (Lib.cut s.data.toList sep.data.toList).2.2) else none
def sContains (s sub : ByteArray) : Option Bool := if s.size ≤ lim then some (Lib.contains s.data.toList sub.data.toList) else none
def sSplit (s sep : ByteArray) : Option (List (List PV)) := if s.size ≤ lim ∧ sep.data.toList = [32] then some (sRow ((splitOn 32 s.data.toList).map text)) else none
def sTrim (s cs : ByteArray) : Option ByteArray :=
  if s.size ≤ lim ∧ cs.size ≤ lim ∧ cs.data.toList.all (fun b => decide (b.toNat < 128)) = true then some (text (Lib.trimS s.data.toList cs.data.toList)) else none
end Go.Proofs.YtkeklbicmfhemaaDoorV
