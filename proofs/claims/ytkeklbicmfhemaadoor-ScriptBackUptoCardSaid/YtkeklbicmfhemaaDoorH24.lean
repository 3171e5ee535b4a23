/- What the functions are claimed to come to holds of the program. -/
import Derived.Test.YtkeklbicmfhemaaDoorH02
import Derived.Test.YtkeklbicmfhemaaDoorQ24b
import Derived.Test.YtkeklbicmfhemaaDoorD24
namespace Go.Proofs.YtkeklbicmfhemaaDoorV
open Go
set_option maxRecDepth 100000
theorem scWords_all : Holds Tryd.prog G0 64 scWords_C := scWords_holds trivial
theorem scText_all : Holds Tryd.prog G0 65 scText_C := scText_holds trivial
theorem scAct_all : Holds Tryd.prog G0 40 scAct_C := scAct_holds (by simp only [scAct_Γ, HoldsAll, CalOk]; exact ⟨cutS_all, scWords_all, sInt_all, scText_all, trivial⟩) scAct_ok
theorem scParse_all : Holds Tryd.prog G0 18 scParse_C := scParse_holds (by simp only [scParse_Γ, HoldsAll, CalOk]; exact ⟨cutS_all, scAct_all, trivial⟩) scParse_ok scParse_no
theorem scLine_all : Holds Tryd.prog G0 41 scLine_C := scLine_holds (by simp only [scLine_Γ, HoldsAll, CalOk]; exact ⟨scWords_all, digits_all, scText_all, trivial⟩) scLine_ok
theorem scPrint_all : Holds Tryd.prog G0 19 scPrint_C := scPrint_holds (by simp only [scPrint_Γ, HoldsAll, CalOk]; exact ⟨scLine_all, scAct_all, containsS_all, trivial⟩) scPrint_ok
theorem sameA_all : Holds Tryd.prog G0 20 sameA_C := sameA_holds trivial sameA_ok
theorem wakes24_all : Holds Tryd.prog G0 21 wakes24_C := wakes24_holds (by simp only [wakes24_Γ, HoldsAll, CalOk]; exact ⟨scParse_all, sameA_all, trivial⟩)
theorem scriptForms_all : Holds Tryd.prog G0 4 scriptForms_C := scriptForms_holds (by simp only [scriptForms_Γ, HoldsAll, CalOk]; exact ⟨scParse_all, scPrint_all, sameA_all, within_all, wakes24_all, trivial⟩) scriptForms_ok
end Go.Proofs.YtkeklbicmfhemaaDoorV
