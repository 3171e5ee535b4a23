/- Draws: what their functions are claimed to come to holds of the program. -/
import Derived.Test.YtgpjnppakffoiaaQ01
import Derived.Test.YtgpjnppakffoiaaArg
namespace Go.Proofs.YtgpjnppakffoiaaV
open Go

theorem draw_all : Holds Try.prog G0 15 draw_C := draw_holds trivial draw_ok
theorem within_all : Holds Try.prog G0 14 within_C := within_holds trivial
theorem wakes01_all : Holds Try.prog G0 16 wakes01_C := wakes01_holds ⟨draw_all, trivial⟩
theorem numDraws_all : Holds Try.prog G0 3 numDraws_C := numDraws_holds (by simp only [numDraws_Γ, HoldsAll]; simp only [draw_all, within_all, wakes01_all, and_self]) numDraws_ok
theorem numDraws_arg {x n : Int} (h1 : (Lit.int .u32 x).wf = true) (h2 : (Lit.int .i64 n).wf = true) : numDraws_C.F [PV.int .u32 x, PV.int .i64 n] = some (.bool true, []) := by
  have e : sNumDraws x n = some true := by
    unfold sNumDraws
    rw [if_pos ⟨(wf_u32 h1).1, (wf_u32 h1).2, (wf_i64 h2).1, (wf_i64 h2).2⟩]
  show Option.bind (sNumDraws _ _) _ = _
  rw [e]
  rfl
end Go.Proofs.YtgpjnppakffoiaaV
