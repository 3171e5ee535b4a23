/- The printed table of types is the program's. -/
import Derived.Test.YtkeklbicmfhemaaDoorVF
import Derived.Test.YtkeklbicmfhemaaDoorVT
import Derived.Test.YtkeklbicmfhemaaDoorProg
import Derived.KernelRfl
namespace Go.Proofs.YtkeklbicmfhemaaDoorV
open Go
set_option maxRecDepth 100000
theorem tOk : TOk Tryd.prog T := tOk_of (tab := Ttab) (fun t => rfl) (by kernel_rfl)
theorem mixed : Tryd.prog.follows .mixedOrders = true := by kernel_rfl
end Go.Proofs.YtkeklbicmfhemaaDoorV
