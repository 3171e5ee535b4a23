/- What the functions are claimed to come to holds of the program. -/
import Derived.Test.YtkeklbicmfhemaaDoorHL
import Derived.Test.YtkeklbicmfhemaaDoorQ02c
import Derived.Test.YtkeklbicmfhemaaDoorD00
import Derived.Test.YtkeklbicmfhemaaDoorD02
import Derived.Test.YtkeklbicmfhemaaDoorD02b
namespace Go.Proofs.YtkeklbicmfhemaaDoorV
open Go
set_option maxRecDepth 100000
theorem within_all : Holds Tryd.prog G0 16 within_C := within_holds trivial
theorem digits_all : Holds Tryd.prog G0 14 digits_C := digits_holds (by simp only [digits_Γ, HoldsAll, CalOk]; exact ⟨itoaS_all, trivial⟩)
theorem sInt_all : Holds Tryd.prog G0 17 sInt_C := sInt_holds (by simp only [sInt_Γ, HoldsAll, CalOk]; exact ⟨trimPre_all, trimS_all, atoiS_all, digits_all, trivial⟩)
theorem wordsS_all : Holds Tryd.prog G0 27 wordsS_C := wordsS_holds (by simp only [wordsS_Γ, HoldsAll, CalOk]; exact ⟨splitS_all, trivial⟩) wordsS_ok wordsS_no
theorem wakes02_all : Holds Tryd.prog G0 15 wakes02_C := wakes02_holds (by simp only [wakes02_Γ, HoldsAll, CalOk]; exact ⟨sInt_all, trivial⟩)
theorem rDigits_all : Holds Tryd.prog G0 28 rDigits_C := rDigits_holds trivial rDigits_ok
theorem rInt_all : Holds Tryd.prog G0 29 rInt_C := rInt_holds trivial rInt_ok
theorem rWords_all : Holds Tryd.prog G0 30 rWords_C := rWords_holds trivial rWords_ok rWords_no
theorem sameS_all : Holds Tryd.prog G0 26 sameS_C := sameS_holds trivial sameS_ok
theorem scanDigits_all : Holds Tryd.prog G0 3 scanDigits_C := scanDigits_holds (by simp only [scanDigits_Γ, HoldsAll, CalOk]; exact ⟨digits_all, within_all, sInt_all, wakes02_all, trivial⟩) scanDigits_ok
theorem scanForms_all : Holds Tryd.prog G0 7 scanForms_C := scanForms_holds (by simp only [scanForms_Γ, HoldsAll, CalOk]; exact ⟨within_all, sInt_all, digits_all, wordsS_all, sameS_all, wakes02_all, trivial⟩) scanForms_ok
theorem scanJoins_all : Holds Tryd.prog G0 8 scanJoins_C := scanJoins_holds (by simp only [scanJoins_Γ, HoldsAll, CalOk]; exact ⟨wordsS_all, sameS_all, wakes02_all, trivial⟩) scanJoins_ok
theorem scanTells_all : Holds Tryd.prog G0 9 scanTells_C := scanTells_holds (by simp only [scanTells_Γ, HoldsAll, CalOk]; exact ⟨rDigits_all, digits_all, wakes02_all, sInt_all, rInt_all, wordsS_all, rWords_all, sameS_all, trivial⟩) scanTells_ok
theorem scanBack_all : Holds Tryd.prog G0 10 scanBack_C := scanBack_holds (by simp only [scanBack_Γ, HoldsAll, CalOk]; exact ⟨digits_all, sInt_all, rWords_all, within_all, wordsS_all, sameS_all, wakes02_all, trivial⟩) scanBack_ok
end Go.Proofs.YtkeklbicmfhemaaDoorV
