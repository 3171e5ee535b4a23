/- The printed table of types is the program's. -/
import Derived.Test.YtpaifgipdhgfkaaVF
import Derived.Test.YtpaifgipdhgfkaaVT
import Derived.Test.YtpaifgipdhgfkaaProg
import Derived.KernelRfl
namespace Go.Proofs.YtpaifgipdhgfkaaV
open Go
set_option maxRecDepth 100000
theorem tOk : TOk Try.prog T := tOk_of (tab := Ttab) (fun t => rfl) (by kernel_rfl)
theorem mixed : Try.prog.follows .mixedOrders = true := by kernel_rfl
end Go.Proofs.YtpaifgipdhgfkaaV
