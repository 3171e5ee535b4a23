/- What the functions are claimed to come to holds of the program. -/
import Derived.Test.YtkeklbicmfhemaaDoorH24
import Derived.Test.YtkeklbicmfhemaaDoorQ24c
import Derived.Test.YtkeklbicmfhemaaDoorDP
import Derived.Test.YtkeklbicmfhemaaDoorDI
import Derived.Test.YtkeklbicmfhemaaDoorD24p
import Derived.Test.YtkeklbicmfhemaaDoorD24c
namespace Go.Proofs.YtkeklbicmfhemaaDoorV
open Go
set_option maxRecDepth 100000
theorem pNum_all : Holds Tryd.prog G0 43 pNum_C := pNum_holds trivial
theorem pInst_all : Holds Tryd.prog G0 22 pInst_C := pInst_holds (by simp only [pInst_Γ, HoldsAll, CalOk]; exact ⟨pNum_all, within_all, trivial⟩) pInst_ok
theorem rWithin_all : Holds Tryd.prog G0 85 rWithin_C := rWithin_holds trivial
theorem rCheckInst_all : Holds Tryd.prog G0 67 rCheckInst_C := rCheckInst_holds (by simp only [rCheckInst_Γ, HoldsAll, CalOk]; exact ⟨rWithin_all, trivial⟩) rCheckInst_ok
theorem rFilled_all : Holds Tryd.prog G0 68 rFilled_C := rFilled_holds trivial rFilled_ok rFilled_no
theorem rNewPlan_all : Holds Tryd.prog G0 44 rNewPlan_C := rNewPlan_holds (by simp only [rNewPlan_Γ, HoldsAll, CalOk]; exact ⟨rCheckInst_all, rFilled_all, trivial⟩) rNewPlan_ok
theorem rMate_all : Holds Tryd.prog G0 69 rMate_C := rMate_holds trivial rMate_ok
theorem rFirst_all : Holds Tryd.prog G0 70 rFirst_C := rFirst_holds trivial rFirst_ok
theorem pLine_all : Holds Tryd.prog G0 45 pLine_C := pLine_holds (by simp only [pLine_Γ, HoldsAll, CalOk]; exact ⟨within_all, rDigits_all, rMate_all, rFirst_all, trivial⟩) pLine_ok
theorem acts24_all : Holds Tryd.prog G0 23 acts24_C := acts24_holds (by simp only [acts24_Γ, HoldsAll, CalOk]; exact ⟨rNewPlan_all, within_all, pLine_all, trivial⟩) acts24_ok acts24_no
theorem scriptBack_all : Holds Tryd.prog G0 5 scriptBack_C := scriptBack_holds (by simp only [scriptBack_Γ, HoldsAll, CalOk]; exact ⟨pInst_all, acts24_all, scPrint_all, scParse_all, sameA_all, wakes24_all, trivial⟩) scriptBack_ok
end Go.Proofs.YtkeklbicmfhemaaDoorV
