/- What the functions are claimed to come to holds of the program. -/
import Derived.Test.YtkeklbicmfhemabDoorHL
import Derived.Test.YtkeklbicmfhemabDoorQ16b
import Derived.Test.YtkeklbicmfhemabDoorD00
import Derived.Test.YtkeklbicmfhemabDoorD02
import Derived.Test.YtkeklbicmfhemabDoorD16
import Derived.Test.YtkeklbicmfhemabDoorD16b
namespace Go.Proofs.YtkeklbicmfhemabDoorV
open Go
set_option maxRecDepth 100000
theorem within_all : Holds Tryd.prog G0 12 within_C := within_holds trivial
theorem digits_all : Holds Tryd.prog G0 26 digits_C := digits_holds (by simp only [digits_Γ, HoldsAll, CalOk]; exact ⟨itoaS_all, trivial⟩)
theorem sInt_all : Holds Tryd.prog G0 30 sInt_C := sInt_holds (by simp only [sInt_Γ, HoldsAll, CalOk]; exact ⟨trimPre_all, trimS_all, atoiS_all, digits_all, trivial⟩)
theorem wordsS_all : Holds Tryd.prog G0 27 wordsS_C := wordsS_holds (by simp only [wordsS_Γ, HoldsAll, CalOk]; exact ⟨splitS_all, trivial⟩) wordsS_ok wordsS_no
theorem rDigits_all : Holds Tryd.prog G0 14 rDigits_C := rDigits_holds trivial rDigits_ok
theorem slIndexS_all : Holds Tryd.prog G0 46 slIndexS_C := slIndexS_holds trivial slIndexS_ok
theorem slContainsS_all : Holds Tryd.prog G0 29 slContainsS_C := slContainsS_holds (by simp only [slContainsS_Γ, HoldsAll, CalOk]; exact ⟨slIndexS_all, trivial⟩)
theorem sayWords_all : Holds Tryd.prog G0 25 sayWords_C := sayWords_holds trivial
theorem sayNo_all : Holds Tryd.prog G0 7 sayNo_C := sayNo_holds (by simp only [sayNo_Γ, HoldsAll, CalOk]; exact ⟨sayWords_all, trivial⟩)
theorem sayList_all : Holds Tryd.prog G0 9 sayList_C := sayList_holds (by simp only [sayList_Γ, HoldsAll, CalOk]; exact ⟨digits_all, trivial⟩) sayList_ok
theorem sayOk_all : Holds Tryd.prog G0 8 sayOk_C := sayOk_holds (by simp only [sayOk_Γ, HoldsAll, CalOk]; exact ⟨sayList_all, trivial⟩)
theorem sayRead_all : Holds Tryd.prog G0 10 sayRead_C := sayRead_holds (by simp only [sayRead_Γ, HoldsAll, CalOk]; exact ⟨wordsS_all, joinS_all, sInt_all, sayWords_all, slContainsS_all, trivial⟩) sayRead_ok sayRead_no
theorem sameI_all : Holds Tryd.prog G0 11 sameI_C := sameI_holds trivial sameI_ok
theorem wakes16_all : Holds Tryd.prog G0 13 wakes16_C := wakes16_holds (by simp only [wakes16_Γ, HoldsAll, CalOk]; exact ⟨sayOk_all, sayNo_all, trivial⟩)
theorem sayForms_all : Holds Tryd.prog G0 3 sayForms_C := sayForms_holds (by simp only [sayForms_Γ, HoldsAll, CalOk]; exact ⟨sayNo_all, sayOk_all, sayList_all, sayRead_all, sameI_all, within_all, wakes16_all, trivial⟩) sayForms_ok
theorem sayBack_all : Holds Tryd.prog G0 4 sayBack_C := sayBack_holds (by simp only [sayBack_Γ, HoldsAll, CalOk]; exact ⟨within_all, sayList_all, sayRead_all, sameI_all, sayNo_all, rDigits_all, wakes16_all, trivial⟩) sayBack_ok
theorem sayOnly_all : Holds Tryd.prog G0 5 sayOnly_C := sayOnly_holds (by simp only [sayOnly_Γ, HoldsAll, CalOk]; exact ⟨within_all, sayList_all, sayRead_all, sameI_all, wakes16_all, rDigits_all, trivial⟩) sayOnly_ok
end Go.Proofs.YtkeklbicmfhemabDoorV
