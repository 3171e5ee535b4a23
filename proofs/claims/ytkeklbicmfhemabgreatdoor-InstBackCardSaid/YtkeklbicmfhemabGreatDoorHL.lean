/- What the functions are claimed to come to holds of the program. -/
import Derived.Test.YtkeklbicmfhemabGreatDoorLH
import Derived.Test.YtkeklbicmfhemabGreatDoorDL
namespace Go.Proofs.YtkeklbicmfhemabGreatDoorV
open Go
set_option maxRecDepth 100000
theorem hasPre_all : Holds Tryz.prog G0 67 hasPre_C := hasPre_holds trivial
theorem trimPre0_all : Holds Tryz.prog G0 47 trimPre0_C := trimPre0_holds (by simp only [trimPre0_Γ, HoldsAll, CalOk]; exact ⟨hasPre_all, trivial⟩)
theorem trimPre_all : Holds Tryz.prog G0 39 trimPre_C := trimPre_holds (by simp only [trimPre_Γ, HoldsAll, CalOk]; exact ⟨trimPre0_all, trivial⟩)
end Go.Proofs.YtkeklbicmfhemabGreatDoorV
