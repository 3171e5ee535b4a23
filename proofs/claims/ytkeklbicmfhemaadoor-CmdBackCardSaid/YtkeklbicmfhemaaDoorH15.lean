/- What the functions are claimed to come to holds of the program. -/
import Derived.Test.YtkeklbicmfhemaaDoorH02
import Derived.Test.YtkeklbicmfhemaaDoorQ15e
import Derived.Test.YtkeklbicmfhemaaDoorD15
import Derived.Test.YtkeklbicmfhemaaDoorD15b
namespace Go.Proofs.YtkeklbicmfhemaaDoorV
open Go
set_option maxRecDepth 100000
theorem cForms_all : Holds Tryd.prog G0 48 cForms_C := cForms_holds trivial
theorem cNumber_all : Holds Tryd.prog G0 72 cNumber_C := cNumber_holds (by simp only [cNumber_Γ, HoldsAll, CalOk]; exact ⟨sInt_all, trivial⟩)
theorem cPlace_all : CalOk Tryd.prog G0 50 cPlace_I := cPlace_holds trivial
theorem cRead_all : Holds Tryd.prog G0 49 cRead_C := cRead_holds (by simp only [cRead_Γ, HoldsAll, CalOk]; exact ⟨cNumber_all, cPlace_all, trivial⟩) cRead_ok
theorem cParse_all : Holds Tryd.prog G0 31 cParse_C := cParse_holds (by simp only [cParse_Γ, HoldsAll, CalOk]; exact ⟨wordsS_all, cForms_all, cRead_all, trivial⟩) cParse_ok
theorem cPrint_all : Holds Tryd.prog G0 32 cPrint_C := cPrint_holds (by simp only [cPrint_Γ, HoldsAll, CalOk]; exact ⟨cForms_all, cParse_all, cPlace_all, digits_all, trivial⟩) cPrint_ok
theorem wakes15_all : Holds Tryd.prog G0 33 wakes15_C := wakes15_holds (by simp only [wakes15_Γ, HoldsAll, CalOk]; exact ⟨cParse_all, trivial⟩)
theorem num15_all : Holds Tryd.prog G0 51 num15_C := num15_holds (by simp only [num15_Γ, HoldsAll, CalOk]; exact ⟨within_all, trivial⟩)
theorem of15_all : Holds Tryd.prog G0 34 of15_C := of15_holds (by simp only [of15_Γ, HoldsAll, CalOk]; exact ⟨within_all, num15_all, trivial⟩) of15_ok
theorem cmdForms_all : Holds Tryd.prog G0 11 cmdForms_C := cmdForms_holds (by simp only [cmdForms_Γ, HoldsAll, CalOk]; exact ⟨within_all, cParse_all, cPrint_all, wakes15_all, trivial⟩) cmdForms_ok
theorem cmdBack_all : Holds Tryd.prog G0 12 cmdBack_C := cmdBack_holds (by simp only [cmdBack_Γ, HoldsAll, CalOk]; exact ⟨of15_all, cPrint_all, wakes15_all, cParse_all, within_all, trivial⟩) cmdBack_ok
theorem cmdNumbers_all : Holds Tryd.prog G0 13 cmdNumbers_C := cmdNumbers_holds (by simp only [cmdNumbers_Γ, HoldsAll, CalOk]; exact ⟨within_all, cParse_all, rDigits_all, cPrint_all, wakes15_all, trivial⟩) cmdNumbers_ok
end Go.Proofs.YtkeklbicmfhemaaDoorV
