/- InstBounds: of whatever number it comes to true. -/
import Derived.Test.YtpaifgipdhgfkaaH8
namespace Go.Proofs.YtpaifgipdhgfkaaV
open Go
theorem instBounds_arg {n : Int} (_ : (Lit.int .i64 n).wf = true) : instBounds_C.F [PV.int .i64 n] = some (.bool true, []) := by
  show Option.bind (sInstBounds n) _ = _
  rfl
end Go.Proofs.YtpaifgipdhgfkaaV
