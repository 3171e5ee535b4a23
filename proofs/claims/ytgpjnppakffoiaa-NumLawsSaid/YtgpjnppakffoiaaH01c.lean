/- Sums, products, picks: the laws of all of them hold of the program. -/
import Derived.Test.YtgpjnppakffoiaaQ01c
import Derived.Test.YtgpjnppakffoiaaH01b
namespace Go.Proofs.YtgpjnppakffoiaaV
open Go

theorem numTells_all : Holds Try.prog G0 12 numTells_C := numTells_holds (by simp only [numTells_Γ, HoldsAll]; simp only [nAdd_all, nMul_all, nPick_all, draw_all, rDraw_all, rPick_all, wakes01_all, and_self]) numTells_ok
theorem numLaws_all : Holds Try.prog G0 13 numLaws_C := numLaws_holds (by simp only [numLaws_Γ, HoldsAll]; simp only [nAdd_all, nMul_all, nPick_all, draw_all, wakes01_all, and_self]) numLaws_ok

theorem numTells_arg {a b x n : Int} (h1 : (Lit.int .i64 a).wf = true) (h2 : (Lit.int .i64 b).wf = true) (h3 : (Lit.int .u32 x).wf = true) (h4 : (Lit.int .i64 n).wf = true) : numTells_C.F [PV.int .i64 a, PV.int .i64 b, PV.int .u32 x, PV.int .i64 n] = some (.bool true, []) := by
  have e : sNumTells a b x n = some true := if_pos ⟨inI_arg h1, inI_arg h2, inU_arg h3, inI_arg h4⟩
  show Option.bind (sNumTells _ _ _ _) _ = _
  rw [e]
  rfl
theorem numLaws_arg {a b x y n : Int} (h1 : (Lit.int .i64 a).wf = true) (h2 : (Lit.int .i64 b).wf = true) (h3 : (Lit.int .u32 x).wf = true) (h5 : (Lit.int .u32 y).wf = true) (h4 : (Lit.int .i64 n).wf = true) : numLaws_C.F [PV.int .i64 a, PV.int .i64 b, PV.int .u32 x, PV.int .u32 y, PV.int .i64 n] = some (.bool true, []) := by
  have e : sNumLaws a b x y n = some true := if_pos ⟨inI_arg h1, inI_arg h2, inU_arg h3, inU_arg h5, inI_arg h4⟩
  show Option.bind (sNumLaws _ _ _ _ _) _ = _
  rw [e]
  rfl
end Go.Proofs.YtgpjnppakffoiaaV
