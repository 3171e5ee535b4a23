/- What the functions of the program come to, as the reading machine has it: printed by dec.py. -/
import Derived.Test.YtpaifgipdhgfkaaVTab
import Derived.Test.YtpaifgipdhgfkaaPK
namespace Go.Proofs.YtpaifgipdhgfkaaV
open Go
set_option maxRecDepth 100000
set_option linter.unusedVariables false
set_option linter.unusedSimpArgs false
noncomputable section
/-! ## drayman/draymankeep.Within -/
def within_b {R : Type} (v1 : Int) (n2 : Int) (k : Int → Option R) : Option R :=
  cond (decide (n2 < (1 : Int))) (
    k 0) (
    if n2 = 0 then none else
    cond (decide ((Int.tmod v1 n2) < (0 : Int))) (
      k (IntKind.i64.wrap ((Int.tmod v1 n2) + n2))) (
      k (Int.tmod v1 n2)))
def within_E (y : Int) : PV × List PV := ((PV.int .i64 y), [])
def within_d (v1 : Int) (n2 : Int) : Option (Int) := within_b v1 n2 fun a0 => some a0
def within_D : List PV → Option (Int)
  | [(PV.int .i64 v1), (PV.int .i64 n2)] => within_d v1 n2
  | _ => none
def within_Γ : List (Nat × Cal) := []
def within_C : Ctr := ⟨[none, none], Int, within_D, within_E, true, .d⟩
theorem within_eq (v1 : Int) (n2 : Int) :
    funK T G0 (ctrOf within_Γ) noL .d true [none, none] (funOf Try.f4) [(PV.int .i64 v1), (PV.int .i64 n2)] = within_b  v1 n2 (fun a0 => some (within_E a0)) := by kernel_rfl
theorem within_inv {ps : List PV} {y : Int} (h : within_D ps = some y) : ∃ (v1 : Int) (n2 : Int), ps = [(PV.int .i64 v1), (PV.int .i64 n2)] := by
  unfold within_D at h
  split at h
  · exact ⟨_, _, rfl⟩
  · cases h
theorem within_nat {R : Type} (v1 : Int) (n2 : Int) (k : Int → Option R) : within_b v1 n2 k = Option.bind (within_b v1 n2 fun a0 => some a0) fun y => k y := by
  unfold within_b
  first | rfl | simp only [Option.bind_assoc, bind_cond, bind_ite, Option.bind_some, Option.bind_none]
theorem within_holds (hΓ : HoldsAll Try.prog G0 within_Γ) : Holds Try.prog G0 4 within_C := by
  refine fun_ok mixed tOk (ctrOf_ok hΓ) Try.func4 rfl rfl rfl rfl (F := funOf Try.f4) (fun ps x h => ?_)
  obtain ⟨y, hy, hx⟩ := bind_inv h
  cases hx
  obtain ⟨v1, n2, rfl⟩ := within_inv hy
  have hy' : within_d v1 n2 = some y := hy
  refine ⟨noL, noL_ok _, (within_eq v1 n2).trans ?_⟩
  unfold within_d at hy'
  rw [within_nat, hy']
  rfl

end
end Go.Proofs.YtpaifgipdhgfkaaV
