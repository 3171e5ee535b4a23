/- What the functions of the program come to, as the reading machine has it: printed by dec.py. -/
import Derived.Test.YtpaifgipdhgfkaaGreatDoorVTab
import Derived.Test.YtpaifgipdhgfkaaGreatDoorSL
namespace Go.Proofs.YtpaifgipdhgfkaaGreatDoorV
open Go
set_option maxRecDepth 100000
set_option linter.unusedVariables false
set_option linter.unusedSimpArgs false
noncomputable section
/-! ## strconv.Itoa -/
def itoaS_E (y : ByteArray) : PV × List PV := ((PV.str y), [])
def itoaS_D : List PV → Option (ByteArray)
  | [(PV.int .i64 i1)] => sItoa i1
  | _ => none
def itoaS_C : Ctr := ⟨[none], ByteArray, itoaS_D, itoaS_E, true, .d⟩

end
end Go.Proofs.YtpaifgipdhgfkaaGreatDoorV
