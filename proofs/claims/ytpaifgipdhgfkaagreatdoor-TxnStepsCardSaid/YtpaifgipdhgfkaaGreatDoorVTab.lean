/- The printed table of types is the program's. -/
import Derived.Test.YtpaifgipdhgfkaaGreatDoorVF
import Derived.Test.YtpaifgipdhgfkaaGreatDoorVT
import Derived.Test.YtpaifgipdhgfkaaGreatDoorProg
import Derived.KernelRfl
namespace Go.Proofs.YtpaifgipdhgfkaaGreatDoorV
open Go
set_option maxRecDepth 100000
theorem tOk : TOk Tryz.prog T := tOk_of (tab := Ttab) (fun t => rfl) (by kernel_rfl)
theorem mixed : Tryz.prog.follows .mixedOrders = true := by kernel_rfl
end Go.Proofs.YtpaifgipdhgfkaaGreatDoorV
