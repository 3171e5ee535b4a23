/- Of this claim's texts what it needs, part 5. -/
import Derived.Test.YtgpjfmihogaooaaGreatDoorProg
import Derived.KernelRfl
import Derived.Test.YtgpjfmihogaooaaGreatDoorKWorkErrorsRow4
namespace Go.Proofs.YtgpjfmihogaooaaGreatDoorV
open Go
set_option maxRecDepth 100000
theorem tOk:TOk Tryz.prog T:=tOk_of (tab:=Ttab) (fun t=>rfl) (by kernel_rfl)
theorem mixed:Tryz.prog.follows .mixedOrders=true:=by kernel_rfl
end Go.Proofs.YtgpjfmihogaooaaGreatDoorV
