/- Sums, products, picks: what their functions are claimed to come to holds of the program. -/
import Derived.Test.YtgpjnppakffoiaaQ01b
import Derived.Test.YtgpjnppakffoiaaH01
namespace Go.Proofs.YtgpjnppakffoiaaV
open Go

theorem nSize_all : Holds Try.prog G0 35 nSize_C := nSize_holds trivial
theorem mul64_all : Holds Try.prog G0 36 mul64_C := mul64_holds trivial mul64_ok
theorem nAdd_all : Holds Try.prog G0 25 nAdd_C := nAdd_holds trivial nAdd_ok
theorem nMul_all : Holds Try.prog G0 26 nMul_C := nMul_holds (by simp only [nMul_Γ, HoldsAll]; simp only [nSize_all, mul64_all, and_self]) nMul_ok
theorem nPick_all : Holds Try.prog G0 30 nPick_C := nPick_holds trivial nPick_ok
theorem rDraw_all : Holds Try.prog G0 31 rDraw_C := rDraw_holds trivial rDraw_ok
theorem rPick_all : Holds Try.prog G0 32 rPick_C := rPick_holds trivial rPick_ok
theorem numSums_all : Holds Try.prog G0 9 numSums_C := numSums_holds (by simp only [numSums_Γ, HoldsAll]; simp only [nAdd_all, nMul_all, wakes01_all, and_self]) numSums_ok
theorem numForms_all : Holds Try.prog G0 11 numForms_C := numForms_holds (by simp only [numForms_Γ, HoldsAll]; simp only [nAdd_all, nMul_all, nPick_all, draw_all, within_all, wakes01_all, and_self]) numForms_ok
theorem inU_arg {x : Int} (h : (Lit.int .u32 x).wf = true) : inU x = true := by
  have := wf_u32 h
  simp [inU, this]
theorem numSums_arg {a b c : Int} (h1 : (Lit.int .i64 a).wf = true) (h2 : (Lit.int .i64 b).wf = true) (h3 : (Lit.int .i64 c).wf = true) : numSums_C.F [PV.int .i64 a, PV.int .i64 b, PV.int .i64 c] = some (.bool true, []) := by
  have e : sNumSums a b c = some true := if_pos ⟨inI_arg h1, inI_arg h2, inI_arg h3⟩
  show Option.bind (sNumSums _ _ _) _ = _
  rw [e]
  rfl
theorem numForms_arg {n : Int} (h1 : (Lit.int .i64 n).wf = true) : numForms_C.F [PV.int .i64 n] = some (.bool true, []) := by
  have e : sNumForms n = some true := if_pos (inI_arg h1)
  show Option.bind (sNumForms _) _ = _
  rw [e]
  rfl
end Go.Proofs.YtgpjnppakffoiaaV
