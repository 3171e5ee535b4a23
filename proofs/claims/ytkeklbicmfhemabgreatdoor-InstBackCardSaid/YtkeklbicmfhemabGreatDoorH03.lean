/- What the functions are claimed to come to holds of the program. -/
import Derived.Test.YtkeklbicmfhemabGreatDoorHL
import Derived.Test.YtkeklbicmfhemabGreatDoorQ03b
import Derived.Test.YtkeklbicmfhemabGreatDoorD00
import Derived.Test.YtkeklbicmfhemabGreatDoorD02
import Derived.Test.YtkeklbicmfhemabGreatDoorDP
import Derived.Test.YtkeklbicmfhemabGreatDoorD03
import Derived.Test.YtkeklbicmfhemabGreatDoorDSI
import Derived.Test.YtkeklbicmfhemabGreatDoorD03p
import Derived.Test.YtkeklbicmfhemabGreatDoorD03b
namespace Go.Proofs.YtkeklbicmfhemabGreatDoorV
open Go
set_option maxRecDepth 100000
theorem within_all : Holds Tryz.prog G0 12 within_C := within_holds trivial
theorem digits_all : Holds Tryz.prog G0 28 digits_C := digits_holds (by simp only [digits_Γ, HoldsAll, CalOk]; exact ⟨itoaS_all, trivial⟩)
theorem sInt_all : Holds Tryz.prog G0 32 sInt_C := sInt_holds (by simp only [sInt_Γ, HoldsAll, CalOk]; exact ⟨trimPre_all, trimS_all, atoiS_all, digits_all, trivial⟩)
theorem wordsS_all : Holds Tryz.prog G0 30 wordsS_C := wordsS_holds (by simp only [wordsS_Γ, HoldsAll, CalOk]; exact ⟨splitS_all, trivial⟩) wordsS_ok wordsS_no
theorem pNum_all : Holds Tryz.prog G0 13 pNum_C := pNum_holds trivial
theorem pInst_all : Holds Tryz.prog G0 4 pInst_C := pInst_holds (by simp only [pInst_Γ, HoldsAll, CalOk]; exact ⟨pNum_all, within_all, trivial⟩) pInst_ok
theorem iWithin_all : Holds Tryz.prog G0 21 iWithin_C := iWithin_holds trivial
theorem iCar_all : Holds Tryz.prog G0 23 iCar_C := iCar_holds (by simp only [iCar_Γ, HoldsAll, CalOk]; exact ⟨iWithin_all, trivial⟩)
theorem iStop_all : Holds Tryz.prog G0 25 iStop_C := iStop_holds (by simp only [iStop_Γ, HoldsAll, CalOk]; exact ⟨iWithin_all, trivial⟩)
theorem allCar_all : Holds Tryz.prog G0 22 allCar_C := allCar_holds (by simp only [allCar_Γ, HoldsAll, CalOk]; exact ⟨iCar_all, trivial⟩) allCar_ok
theorem allStop_all : Holds Tryz.prog G0 24 allStop_C := allStop_holds (by simp only [allStop_Γ, HoldsAll, CalOk]; exact ⟨iStop_all, trivial⟩) allStop_ok
theorem iPairs_all : Holds Tryz.prog G0 26 iPairs_C := iPairs_holds (by simp only [iPairs_Γ, HoldsAll, CalOk]; exact ⟨iWithin_all, trivial⟩) iPairs_ok
theorem iTravel_all : Holds Tryz.prog G0 27 iTravel_C := iTravel_holds (by simp only [iTravel_Γ, HoldsAll, CalOk]; exact ⟨iWithin_all, trivial⟩) iTravel_ok
theorem iCheck_all : Holds Tryz.prog G0 8 iCheck_C := iCheck_holds (by simp only [iCheck_Γ, HoldsAll, CalOk]; exact ⟨iWithin_all, allCar_all, allStop_all, iPairs_all, iTravel_all, trivial⟩)
theorem iMate_all : Holds Tryz.prog G0 9 iMate_C := iMate_holds trivial iMate_ok
theorem iFirst_all : Holds Tryz.prog G0 10 iFirst_C := iFirst_holds trivial iFirst_ok
theorem sameI_all : Holds Tryz.prog G0 20 sameI_C := sameI_holds trivial sameI_ok
theorem iLine_all : Holds Tryz.prog G0 14 iLine_C := iLine_holds (by simp only [iLine_Γ, HoldsAll, CalOk]; exact ⟨digits_all, trivial⟩) iLine_ok
theorem iLines_all : Holds Tryz.prog G0 15 iLines_C := iLines_holds (by simp only [iLines_Γ, HoldsAll, CalOk]; exact ⟨cutS_all, wordsS_all, joinS_all, trivial⟩) iLines_ok
theorem iNext_all : Holds Tryz.prog G0 16 iNext_C := iNext_holds (by simp only [iNext_Γ, HoldsAll, CalOk]; exact ⟨sInt_all, trivial⟩) iNext_ok
theorem iParse_all : Holds Tryz.prog G0 6 iParse_C := iParse_holds (by simp only [iParse_Γ, HoldsAll, CalOk]; exact ⟨iLines_all, iNext_all, iCheck_all, trivial⟩) iParse_ok
theorem iPrint_all : Holds Tryz.prog G0 5 iPrint_C := iPrint_holds (by simp only [iPrint_Γ, HoldsAll, CalOk]; exact ⟨iCheck_all, iLine_all, trivial⟩) iPrint_ok
theorem sameCar_all : Holds Tryz.prog G0 17 sameCar_C := sameCar_holds trivial sameCar_ok
theorem sameStop_all : Holds Tryz.prog G0 18 sameStop_C := sameStop_holds trivial sameStop_ok
theorem samePair_all : Holds Tryz.prog G0 19 samePair_C := samePair_holds trivial samePair_ok
theorem sameInst_all : Holds Tryz.prog G0 7 sameInst_C := sameInst_holds (by simp only [sameInst_Γ, HoldsAll, CalOk]; exact ⟨sameCar_all, sameStop_all, samePair_all, sameI_all, trivial⟩) sameInst_ok
theorem wakes03_all : Holds Tryz.prog G0 11 wakes03_C := wakes03_holds (by simp only [wakes03_Γ, HoldsAll, CalOk]; exact ⟨iCheck_all, trivial⟩)
theorem instBack_all : Holds Tryz.prog G0 3 instBack_C := instBack_holds (by simp only [instBack_Γ, HoldsAll, CalOk]; exact ⟨pInst_all, iPrint_all, iParse_all, sameInst_all, iCheck_all, wakes03_all, iMate_all, iFirst_all, trivial⟩) instBack_ok
end Go.Proofs.YtkeklbicmfhemabGreatDoorV
