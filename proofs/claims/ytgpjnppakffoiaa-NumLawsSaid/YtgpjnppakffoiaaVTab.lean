/- The printed table of types is the program's. -/
import Derived.Test.YtgpjnppakffoiaaVF
import Derived.Test.YtgpjnppakffoiaaVT
import Derived.Test.YtgpjnppakffoiaaProg
import Derived.KernelRfl
namespace Go.Proofs.YtgpjnppakffoiaaV
open Go
set_option maxRecDepth 100000
theorem tOk : TOk Try.prog T := tOk_of (tab := Ttab) (fun t => rfl) (by kernel_rfl)
theorem mixed : Try.prog.follows .mixedOrders = true := by kernel_rfl
end Go.Proofs.YtgpjnppakffoiaaV
