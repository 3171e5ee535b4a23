/- What the functions are claimed to come to holds of the program. -/
import Derived.Test.YtpaifgipdhgfkaaGreatDoorTQ
import Derived.Test.YtpaifgipdhgfkaaGreatDoorTX0
import Derived.Test.YtpaifgipdhgfkaaGreatDoorTX1
import Derived.Test.YtpaifgipdhgfkaaGreatDoorTX2
import Derived.Test.YtpaifgipdhgfkaaGreatDoorTX3
import Derived.Test.YtpaifgipdhgfkaaGreatDoorTX4
import Derived.Test.YtpaifgipdhgfkaaGreatDoorTX5
namespace Go.Proofs.YtpaifgipdhgfkaaGreatDoorV
open Go
set_option maxRecDepth 100000
theorem aDraymankeepWithin_all : Holds Tryz.prog G0 4 aDraymankeepWithin_C := aDraymankeepWithin_holds trivial
theorem aTxnSteps_all : Holds Tryz.prog G0 5 aTxnSteps_C := aTxnSteps_holds (by simp only [aTxnSteps_Γ, HoldsAll, CalOk]; exact ⟨ro_all, trivial⟩)
theorem aPNum_all : Holds Tryz.prog G0 13 aPNum_C := aPNum_holds trivial
theorem aPInst_all : Holds Tryz.prog G0 7 aPInst_C := aPInst_holds (by simp only [aPInst_Γ, HoldsAll, CalOk]; exact ⟨aPNum_all, aDraymankeepWithin_all, trivial⟩) aPInst_ok
theorem aTxnNew_all : Holds Tryz.prog G0 8 aTxnNew_C := aTxnNew_holds (by simp only [aTxnNew_Γ, HoldsAll, CalOk]; exact ⟨ro_all, ro_all, trivial⟩)
theorem aStackNew_all : Holds Tryz.prog G0 9 aStackNew_C := aStackNew_holds trivial
theorem aTxnTxnAttempt_all : Holds Tryz.prog G0 10 aTxnTxnAttempt_C := aTxnTxnAttempt_holds trivial
theorem aRWithin_all : Holds Tryz.prog G0 19 aRWithin_C := aRWithin_holds trivial
theorem aRCheckInst_all : Holds Tryz.prog G0 14 aRCheckInst_C := aRCheckInst_holds (by simp only [aRCheckInst_Γ, HoldsAll, CalOk]; exact ⟨aRWithin_all, ro_all, trivial⟩) aRCheckInst_ok
theorem aRFilled_all : Holds Tryz.prog G0 15 aRFilled_C := aRFilled_holds trivial aRFilled_ok
theorem aRNewPlan_all : Holds Tryz.prog G0 11 aRNewPlan_C := aRNewPlan_holds (by simp only [aRNewPlan_Γ, HoldsAll, CalOk]; exact ⟨aRCheckInst_all, aRFilled_all, ro_all, trivial⟩) aRNewPlan_ok
theorem aSlicesClone_all : Holds Tryz.prog G0 30 aSlicesClone_C := aSlicesClone_holds trivial aSlicesClone_ok
theorem aPlanCopy_all : Holds Tryz.prog G0 20 aPlanCopy_C := aPlanCopy_holds (by simp only [aPlanCopy_Γ, HoldsAll, CalOk]; exact ⟨aSlicesClone_all, ro_all, trivial⟩) aPlanCopy_ok
theorem aStackStackTop_all : Holds Tryz.prog G0 40 aStackStackTop_C := aStackStackTop_holds trivial
theorem aInstMate_all : Holds Tryz.prog G0 62 aInstMate_C := aInstMate_holds (by simp only [aInstMate_Γ, HoldsAll, CalOk]; exact ⟨ro_all, trivial⟩) aInstMate_ok
theorem aSeenEdit_all : Holds Tryz.prog G0 67 aSeenEdit_C := aSeenEdit_holds (by simp only [aSeenEdit_Γ, HoldsAll, CalOk]; exact ⟨ro_all, ro_all, trivial⟩) aSeenEdit_ok
theorem aSeenAll_all : Holds Tryz.prog G0 33 aSeenAll_C := aSeenAll_holds (by simp only [aSeenAll_Γ, HoldsAll, CalOk]; exact ⟨aInstMate_all, aSeenEdit_all, ro_all, ro_all, ro_all, ro_all, trivial⟩) aSeenAll_ok
theorem aSeenAt_all : Holds Tryz.prog G0 60 aSeenAt_C := aSeenAt_holds trivial
theorem aSeenVersion_all : Holds Tryz.prog G0 31 aSeenVersion_C := aSeenVersion_holds (by simp only [aSeenVersion_Γ, HoldsAll, CalOk]; exact ⟨aSeenAt_all, ro_all, ro_all, trivial⟩)
theorem aSeenOf1c1_all : Holds Tryz.prog G0 34 aSeenOf1c1_C := aSeenOf1c1_holds (by simp only [aSeenOf1c1_Γ, HoldsAll, CalOk]; exact ⟨aSeenVersion_all, ro_all, trivial⟩)
theorem aSlicesIndexFunc_all : Holds Tryz.prog G0 61 aSlicesIndexFunc_C := aSlicesIndexFunc_holds (by simp only [aSlicesIndexFunc_Γ, HoldsAll, CalOk]; exact ⟨aSeenOf1c1_all, trivial⟩) aSlicesIndexFunc_ok
theorem aSlicesDeleteFunc_all : Holds Tryz.prog G0 32 aSlicesDeleteFunc_C := aSlicesDeleteFunc_holds (by simp only [aSlicesDeleteFunc_Γ, HoldsAll, CalOk]; exact ⟨aSlicesIndexFunc_all, aSeenOf1c1_all, trivial⟩) aSlicesDeleteFunc_ok
theorem aBitsLen64_all : Holds Tryz.prog G0 117 aBitsLen64_C := aBitsLen64_holds trivial aBitsLen64_ok
theorem aBitsLen_all : Holds Tryz.prog G0 70 aBitsLen_C := aBitsLen_holds (by simp only [aBitsLen_Γ, HoldsAll, CalOk]; exact ⟨aBitsLen64_all, trivial⟩)
theorem aCmpIsNaN_all : Holds Tryz.prog G0 71 aCmpIsNaN_C := aCmpIsNaN_holds trivial
theorem aCmpCompare_all : Holds Tryz.prog G0 38 aCmpCompare_C := aCmpCompare_holds (by simp only [aCmpCompare_Γ, HoldsAll, CalOk]; exact ⟨aCmpIsNaN_all, trivial⟩)
theorem aCmpOr_all : Holds Tryz.prog G0 37 aCmpOr_C := aCmpOr_holds trivial aCmpOr_ok
theorem aSeenOf2c2_all : Holds Tryz.prog G0 36 aSeenOf2c2_C := aSeenOf2c2_holds (by simp only [aSeenOf2c2_Γ, HoldsAll, CalOk]; exact ⟨aCmpCompare_all, aCmpOr_all, ro_all, ro_all, trivial⟩)
theorem aSlicesInsertionSortCmpFunc_all : Holds Tryz.prog G0 108 aSlicesInsertionSortCmpFunc_C := aSlicesInsertionSortCmpFunc_holds (by simp only [aSlicesInsertionSortCmpFunc_Γ, HoldsAll, CalOk]; exact ⟨aSeenOf2c2_all, trivial⟩) aSlicesInsertionSortCmpFunc_ok
theorem aSlicesPdqsortCmpFunc_all : Holds Tryz.prog G0 69 aSlicesPdqsortCmpFunc_C := aSlicesPdqsortCmpFunc_holds (by simp only [aSlicesPdqsortCmpFunc_Γ, HoldsAll, CalOk]; exact ⟨aSlicesInsertionSortCmpFunc_all, trivial⟩) aSlicesPdqsortCmpFunc_ok
theorem aSlicesSortFunc_all : Holds Tryz.prog G0 35 aSlicesSortFunc_C := aSlicesSortFunc_holds (by simp only [aSlicesSortFunc_Γ, HoldsAll, CalOk]; exact ⟨aBitsLen_all, aSlicesPdqsortCmpFunc_all, trivial⟩)
theorem aSlicesCompact_all : Holds Tryz.prog G0 39 aSlicesCompact_C := aSlicesCompact_holds trivial aSlicesCompact_ok
theorem aSeenOf_all : Holds Tryz.prog G0 22 aSeenOf_C := aSeenOf_holds (by simp only [aSeenOf_Γ, HoldsAll, CalOk]; exact ⟨aSeenAll_all, aSlicesDeleteFunc_all, aSlicesSortFunc_all, aSlicesCompact_all, ro_all, ro_all, ro_all, ro_all, trivial⟩)
theorem aSeenLook_all : Holds Tryz.prog G0 21 aSeenLook_C := aSeenLook_holds (by simp only [aSeenLook_Γ, HoldsAll, CalOk]; exact ⟨aSeenVersion_all, ro_all, trivial⟩) aSeenLook_ok
theorem aTxnTxnEdit_all : CalOk Tryz.prog G0 23 aTxnTxnEdit_I := aTxnTxnEdit_holds (by simp only [aTxnTxnEdit_Γ, HoldsAll, CalOk]; exact ⟨aStackStackTop_all, trivial⟩)
theorem aTxnTxnLook_all : Holds Tryz.prog G0 16 aTxnTxnLook_C := aTxnTxnLook_holds (by simp only [aTxnTxnLook_Γ, HoldsAll, CalOk]; exact ⟨aPlanCopy_all, aTxnTxnEdit_all, aSeenOf_all, aSeenLook_all, ro_all, trivial⟩) aTxnTxnLook_ok
theorem aSeenStill_all : Holds Tryz.prog G0 25 aSeenStill_C := aSeenStill_holds (by simp only [aSeenStill_Γ, HoldsAll, CalOk]; exact ⟨aSeenVersion_all, ro_all, trivial⟩) aSeenStill_ok
theorem aSayWords_all : Holds Tryz.prog G0 46 aSayWords_C := aSayWords_holds trivial
theorem aSayNo_all : Holds Tryz.prog G0 27 aSayNo_C := aSayNo_holds (by simp only [aSayNo_Γ, HoldsAll, CalOk]; exact ⟨aSayWords_all, trivial⟩)
theorem aTxnTxnDecide_all : Holds Tryz.prog G0 17 aTxnTxnDecide_C := aTxnTxnDecide_holds (by simp only [aTxnTxnDecide_Γ, HoldsAll, CalOk]; exact ⟨aSeenStill_all, aSayNo_all, ro_all, trivial⟩) aTxnTxnDecide_ok
theorem aWorkAgain_all : Holds Tryz.prog G0 48 aWorkAgain_C := aWorkAgain_holds (by simp only [aWorkAgain_Γ, HoldsAll, CalOk]; exact ⟨aStackStackTop_all, aSayNo_all, aSeenStill_all, ro_all, trivial⟩)
theorem aWorkDo_all : Holds Tryz.prog G0 28 aWorkDo_C := aWorkDo_holds (by simp only [aWorkDo_Γ, HoldsAll, CalOk]; exact ⟨aWorkAgain_all, ro_all, ro_all, ro_all, trivial⟩) aWorkDo_ok
theorem aTxnTxnWork_all : Holds Tryz.prog G0 18 aTxnTxnWork_C := aTxnTxnWork_holds (by simp only [aTxnTxnWork_Γ, HoldsAll, CalOk]; exact ⟨aWorkDo_all, trivial⟩) aTxnTxnWork_ok
theorem aTxnTxnStep_all : Holds Tryz.prog G0 12 aTxnTxnStep_C := aTxnTxnStep_holds (by simp only [aTxnTxnStep_Γ, HoldsAll, CalOk]; exact ⟨aTxnTxnLook_all, aTxnSteps_all, aTxnTxnDecide_all, aTxnTxnWork_all, ro_all, trivial⟩) aTxnTxnStep_ok
theorem aW18Wakes_all : Holds Tryz.prog G0 6 aW18Wakes_C := aW18Wakes_holds (by simp only [aW18Wakes_Γ, HoldsAll, CalOk]; exact ⟨aPInst_all, aTxnNew_all, aStackNew_all, aTxnTxnAttempt_all, aTxnSteps_all, aRNewPlan_all, aTxnTxnStep_all, trivial⟩) aW18Wakes_ok
theorem aW18TxnSteps_all : Holds Tryz.prog G0 3 aW18TxnSteps_C := aW18TxnSteps_holds (by simp only [aW18TxnSteps_Γ, HoldsAll, CalOk]; exact ⟨aDraymankeepWithin_all, aTxnSteps_all, aW18Wakes_all, trivial⟩) aW18TxnSteps_ok
end Go.Proofs.YtpaifgipdhgfkaaGreatDoorV
