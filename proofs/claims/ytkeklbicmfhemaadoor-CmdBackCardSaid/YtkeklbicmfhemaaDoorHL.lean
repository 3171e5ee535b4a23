/- What the functions are claimed to come to holds of the program. -/
import Derived.Test.YtkeklbicmfhemaaDoorLH
import Derived.Test.YtkeklbicmfhemaaDoorDL
namespace Go.Proofs.YtkeklbicmfhemaaDoorV
open Go
set_option maxRecDepth 100000
theorem hasPre_all : Holds Tryd.prog G0 74 hasPre_C := hasPre_holds trivial
theorem trimPre0_all : Holds Tryd.prog G0 53 trimPre0_C := trimPre0_holds (by simp only [trimPre0_Γ, HoldsAll, CalOk]; exact ⟨hasPre_all, trivial⟩)
theorem trimPre_all : Holds Tryd.prog G0 36 trimPre_C := trimPre_holds (by simp only [trimPre_Γ, HoldsAll, CalOk]; exact ⟨trimPre0_all, trivial⟩)
end Go.Proofs.YtkeklbicmfhemaaDoorV
