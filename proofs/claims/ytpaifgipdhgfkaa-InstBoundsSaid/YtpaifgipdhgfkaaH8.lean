/- What the functions are claimed to come to holds of the program. -/
import Derived.Test.YtpaifgipdhgfkaaQ8
import Derived.Test.YtpaifgipdhgfkaaD00
import Derived.Test.YtpaifgipdhgfkaaD8
import Derived.Test.YtpaifgipdhgfkaaD8b
namespace Go.Proofs.YtpaifgipdhgfkaaV
open Go
set_option maxRecDepth 100000
theorem within_all : Holds Try.prog G0 4 within_C := within_holds trivial
theorem iWithin_all : Holds Try.prog G0 8 iWithin_C := iWithin_holds trivial
theorem iCar_all : Holds Try.prog G0 10 iCar_C := iCar_holds (by simp only [iCar_Γ, HoldsAll, CalOk]; exact ⟨iWithin_all, trivial⟩)
theorem iStop_all : Holds Try.prog G0 12 iStop_C := iStop_holds (by simp only [iStop_Γ, HoldsAll, CalOk]; exact ⟨iWithin_all, trivial⟩)
theorem allCar_all : Holds Try.prog G0 9 allCar_C := allCar_holds (by simp only [allCar_Γ, HoldsAll, CalOk]; exact ⟨iCar_all, trivial⟩) allCar_ok
theorem allStop_all : Holds Try.prog G0 11 allStop_C := allStop_holds (by simp only [allStop_Γ, HoldsAll, CalOk]; exact ⟨iStop_all, trivial⟩) allStop_ok
theorem iPairs_all : Holds Try.prog G0 13 iPairs_C := iPairs_holds (by simp only [iPairs_Γ, HoldsAll, CalOk]; exact ⟨iWithin_all, trivial⟩) iPairs_ok
theorem iTravel_all : Holds Try.prog G0 14 iTravel_C := iTravel_holds (by simp only [iTravel_Γ, HoldsAll, CalOk]; exact ⟨iWithin_all, trivial⟩) iTravel_ok
theorem iCheck_all : Holds Try.prog G0 6 iCheck_C := iCheck_holds (by simp only [iCheck_Γ, HoldsAll, CalOk]; exact ⟨iWithin_all, allCar_all, allStop_all, iPairs_all, iTravel_all, trivial⟩)
theorem wakes03_all : Holds Try.prog G0 7 wakes03_C := wakes03_holds (by simp only [wakes03_Γ, HoldsAll, CalOk]; exact ⟨iCheck_all, trivial⟩)
theorem small03_all : CalOk Try.prog G0 5 small03_I := small03_holds (by simp only [small03_Γ, HoldsAll, CalOk]; exact ⟨ro_all, trivial⟩)
theorem instBounds_all : Holds Try.prog G0 3 instBounds_C := instBounds_holds (by simp only [instBounds_Γ, HoldsAll, CalOk]; exact ⟨within_all, small03_all, iCheck_all, wakes03_all, trivial⟩) instBounds_ok
end Go.Proofs.YtpaifgipdhgfkaaV
