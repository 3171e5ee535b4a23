/- The printed table of types is the program's. -/
import Derived.Test.YtkeklbicmfhemabGreatDoorVF
import Derived.Test.YtkeklbicmfhemabGreatDoorVT
import Derived.Test.YtkeklbicmfhemabGreatDoorProg
import Derived.KernelRfl
namespace Go.Proofs.YtkeklbicmfhemabGreatDoorV
open Go
set_option maxRecDepth 100000
theorem tOk : TOk Tryz.prog T := tOk_of (tab := Ttab) (fun t => rfl) (by kernel_rfl)
theorem mixed : Tryz.prog.follows .mixedOrders = true := by kernel_rfl
end Go.Proofs.YtkeklbicmfhemabGreatDoorV
