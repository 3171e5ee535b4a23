/- The printed table of types is the program's. -/
import Derived.Test.YtkeklbicmfhemabDoorVF
import Derived.Test.YtkeklbicmfhemabDoorVT
import Derived.Test.YtkeklbicmfhemabDoorProg
import Derived.KernelRfl
namespace Go.Proofs.YtkeklbicmfhemabDoorV
open Go
set_option maxRecDepth 100000
theorem tOk : TOk Tryd.prog T := tOk_of (tab := Ttab) (fun t => rfl) (by kernel_rfl)
theorem mixed : Tryd.prog.follows .mixedOrders = true := by kernel_rfl
end Go.Proofs.YtkeklbicmfhemabDoorV
