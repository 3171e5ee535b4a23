/- What the functions of the program come to, as the reading machine has it: printed by dec.py. -/
import Derived.Test.YtgpjnppakffoiaaVTab
import Derived.Test.YtgpjnppakffoiaaS01b
import Derived.Test.YtgpjnppakffoiaaD01
namespace Go.Proofs.YtgpjnppakffoiaaV
open Go
set_option maxRecDepth 100000
set_option linter.unusedVariables false
set_option linter.unusedSimpArgs false
noncomputable section
/-! ## drayman/num.size -/
def nSize_b {R : Type} (a1 : Int) (k : Int → Bool → Option R) : Option R :=
  cond (decide (a1 < (0 : Int))) (
    k (IntKind.u64.wrap (0 - (IntKind.u64.wrap a1))) true) (
    k (IntKind.u64.wrap a1) false)
def nSize_E (y : Int × Bool) : PV × List PV := ((PV.tuple [(PV.int .u64 y.1), (PV.bool y.2)]), [])
def nSize_d (a1 : Int) : Option (Int × Bool) := nSize_b a1 fun a0 a1 => some (a0, a1)
def nSize_D : List PV → Option (Int × Bool)
  | [(PV.int .i64 a1)] => nSize_d a1
  | _ => none
def nSize_Γ : List (Nat × Ctr) := []
def nSize_C : Ctr := ⟨[none], Int × Bool, nSize_D, nSize_E, true, .d⟩
theorem nSize_eq (a1 : Int) :
    funK T G0 (ctrOf nSize_Γ) noL .d true [none] (funOf Try.f35) [(PV.int .i64 a1)] = nSize_b  a1 (fun a0 a1 => some (nSize_E (a0, a1))) := by kernel_rfl
theorem nSize_inv {ps : List PV} {y : Int × Bool} (h : nSize_D ps = some y) : ∃ (a1 : Int), ps = [(PV.int .i64 a1)] := by
  unfold nSize_D at h
  split at h
  · exact ⟨_, rfl⟩
  · cases h
theorem nSize_nat {R : Type} (a1 : Int) (k : Int → Bool → Option R) : nSize_b a1 k = Option.bind (nSize_b a1 fun a0 a1 => some (a0, a1)) fun y => k y.1 y.2 := by
  unfold nSize_b
  first | rfl | simp only [Option.bind_assoc, bind_cond, bind_ite, Option.bind_some, Option.bind_none]
theorem nSize_holds (hΓ : HoldsAll Try.prog G0 nSize_Γ) : Holds Try.prog G0 35 nSize_C := by
  refine fun_ok mixed tOk (ctrOf_ok hΓ) Try.func35 rfl rfl rfl rfl (F := funOf Try.f35) (fun ps x h => ?_)
  obtain ⟨y, hy, hx⟩ := bind_inv h
  cases hx
  obtain ⟨a1, rfl⟩ := nSize_inv hy
  have hy' : nSize_d a1 = some y := hy
  refine ⟨noL, noL_ok _, (nSize_eq a1).trans ?_⟩
  unfold nSize_d at hy'
  rw [nSize_nat, hy']
  rfl

/-! ## math/bits.Mul64 -/
def mul64_b {R : Type} (x1 : Int) (y2 : Int) (k : Int → Int → Option R) : Option R :=
  k (IntKind.u64.wrap ((IntKind.u64.wrap ((IntKind.u64.wrap ((Int.fdiv x1 (2 ^ 32)) * (Int.fdiv y2 (2 ^ 32)))) + (Int.fdiv (IntKind.u64.wrap ((IntKind.u64.wrap ((Int.fdiv x1 (2 ^ 32)) * (IntKind.u64.wrap (((BitVec.ofInt IntKind.u64.bits y2) &&& (BitVec.ofInt IntKind.u64.bits (4294967295 : Int))).toNat : Nat)))) + (Int.fdiv (IntKind.u64.wrap ((IntKind.u64.wrap (((BitVec.ofInt IntKind.u64.bits x1) &&& (BitVec.ofInt IntKind.u64.bits (4294967295 : Int))).toNat : Nat)) * (IntKind.u64.wrap (((BitVec.ofInt IntKind.u64.bits y2) &&& (BitVec.ofInt IntKind.u64.bits (4294967295 : Int))).toNat : Nat)))) (2 ^ 32)))) (2 ^ 32)))) + (Int.fdiv (IntKind.u64.wrap ((IntKind.u64.wrap (((BitVec.ofInt IntKind.u64.bits (IntKind.u64.wrap ((IntKind.u64.wrap ((Int.fdiv x1 (2 ^ 32)) * (IntKind.u64.wrap (((BitVec.ofInt IntKind.u64.bits y2) &&& (BitVec.ofInt IntKind.u64.bits (4294967295 : Int))).toNat : Nat)))) + (Int.fdiv (IntKind.u64.wrap ((IntKind.u64.wrap (((BitVec.ofInt IntKind.u64.bits x1) &&& (BitVec.ofInt IntKind.u64.bits (4294967295 : Int))).toNat : Nat)) * (IntKind.u64.wrap (((BitVec.ofInt IntKind.u64.bits y2) &&& (BitVec.ofInt IntKind.u64.bits (4294967295 : Int))).toNat : Nat)))) (2 ^ 32))))) &&& (BitVec.ofInt IntKind.u64.bits (4294967295 : Int))).toNat : Nat)) + (IntKind.u64.wrap ((IntKind.u64.wrap (((BitVec.ofInt IntKind.u64.bits x1) &&& (BitVec.ofInt IntKind.u64.bits (4294967295 : Int))).toNat : Nat)) * (Int.fdiv y2 (2 ^ 32)))))) (2 ^ 32)))) (IntKind.u64.wrap (x1 * y2))
def mul64_E (y : Int × Int) : PV × List PV := ((PV.tuple [(PV.int .u64 y.1), (PV.int .u64 y.2)]), [])
def mul64_D : List PV → Option (Int × Int)
  | [(PV.int .u64 x1), (PV.int .u64 y2)] => sMul64 x1 y2
  | _ => none
def mul64_Γ : List (Nat × Ctr) := []
def mul64_C : Ctr := ⟨[none, none], Int × Int, mul64_D, mul64_E, true, .d⟩
theorem mul64_eq (x1 : Int) (y2 : Int) :
    funK T G0 (ctrOf mul64_Γ) noL .d true [none, none] (funOf Try.f36) [(PV.int .u64 x1), (PV.int .u64 y2)] = mul64_b  x1 y2 (fun a0 a1 => some (mul64_E (a0, a1))) := by kernel_rfl
theorem mul64_inv {ps : List PV} {y : Int × Int} (h : mul64_D ps = some y) : ∃ (x1 : Int) (y2 : Int), ps = [(PV.int .u64 x1), (PV.int .u64 y2)] := by
  unfold mul64_D at h
  split at h
  · exact ⟨_, _, rfl⟩
  · cases h
theorem mul64_holds (hΓ : HoldsAll Try.prog G0 mul64_Γ) (hok : ∀ (x1 : Int) (y2 : Int) (y : Int × Int), sMul64 x1 y2 = some y → ∀ (R : Type) (k : Int → Int → Option R), mul64_b  x1 y2 k = k y.1 y.2) : Holds Try.prog G0 36 mul64_C := by
  refine fun_ok mixed tOk (ctrOf_ok hΓ) Try.func36 rfl rfl rfl rfl (F := funOf Try.f36) (fun ps x h => ?_)
  obtain ⟨y, hy, hx⟩ := bind_inv h
  cases hx
  obtain ⟨x1, y2, rfl⟩ := mul64_inv hy
  refine ⟨noL, noL_ok _, (mul64_eq x1 y2).trans (hok x1 y2 y hy _ _)⟩

/-! ## drayman/num.Add -/
def nAdd_b {R : Type} (a1 : Int) (b2 : Int) (k : Int → Bool → Option R) : Option R :=
  cond (decide (b2 > (0 : Int))) (
    cond (decide (a1 > (IntKind.i64.wrap ((9223372036854775807 : Int) - b2)))) (
      k 0 false) (
      cond (decide (b2 < (0 : Int))) (
        cond (decide (a1 < (IntKind.i64.wrap ((-9223372036854775808 : Int) - b2)))) (
          k 0 false) (
          k (IntKind.i64.wrap (a1 + b2)) true)) (
        k (IntKind.i64.wrap (a1 + b2)) true))) (
    cond (decide (b2 < (0 : Int))) (
      cond (decide (a1 < (IntKind.i64.wrap ((-9223372036854775808 : Int) - b2)))) (
        k 0 false) (
        k (IntKind.i64.wrap (a1 + b2)) true)) (
      k (IntKind.i64.wrap (a1 + b2)) true))
def nAdd_E (y : Int × Bool) : PV × List PV := ((PV.tuple [(PV.int .i64 y.1), (PV.bool y.2)]), [])
def nAdd_D : List PV → Option (Int × Bool)
  | [(PV.int .i64 a1), (PV.int .i64 b2)] => sAdd a1 b2
  | _ => none
def nAdd_Γ : List (Nat × Ctr) := []
def nAdd_C : Ctr := ⟨[none, none], Int × Bool, nAdd_D, nAdd_E, true, .d⟩
theorem nAdd_eq (a1 : Int) (b2 : Int) :
    funK T G0 (ctrOf nAdd_Γ) noL .d true [none, none] (funOf Try.f25) [(PV.int .i64 a1), (PV.int .i64 b2)] = nAdd_b  a1 b2 (fun a0 a1 => some (nAdd_E (a0, a1))) := by kernel_rfl
theorem nAdd_inv {ps : List PV} {y : Int × Bool} (h : nAdd_D ps = some y) : ∃ (a1 : Int) (b2 : Int), ps = [(PV.int .i64 a1), (PV.int .i64 b2)] := by
  unfold nAdd_D at h
  split at h
  · exact ⟨_, _, rfl⟩
  · cases h
theorem nAdd_holds (hΓ : HoldsAll Try.prog G0 nAdd_Γ) (hok : ∀ (a1 : Int) (b2 : Int) (y : Int × Bool), sAdd a1 b2 = some y → ∀ (R : Type) (k : Int → Bool → Option R), nAdd_b  a1 b2 k = k y.1 y.2) : Holds Try.prog G0 25 nAdd_C := by
  refine fun_ok mixed tOk (ctrOf_ok hΓ) Try.func25 rfl rfl rfl rfl (F := funOf Try.f25) (fun ps x h => ?_)
  obtain ⟨y, hy, hx⟩ := bind_inv h
  cases hx
  obtain ⟨a1, b2, rfl⟩ := nAdd_inv hy
  refine ⟨noL, noL_ok _, (nAdd_eq a1 b2).trans (hok a1 b2 y hy _ _)⟩

/-! ## drayman/num.Mul -/
def nMul_b {R : Type} (a1 : Int) (b2 : Int) (k : Int → Bool → Option R) : Option R :=
  Option.bind (nSize_d a1) fun y3 =>
  Option.bind (nSize_d b2) fun y4 =>
  Option.bind (sMul64 y3.1 y4.1) fun y5 =>
  cond (y3.2 != y4.2) (
    cond (decide (y5.1 > (0 : Int))) (
      k 0 false) (
      cond (decide (y5.2 > (9223372036854775808 : Int))) (
        k 0 false) (
        cond (y3.2 != y4.2) (
          k (IntKind.i64.wrap (IntKind.u64.wrap (0 - y5.2))) true) (
          k (IntKind.i64.wrap y5.2) true)))) (
    cond (decide (y5.1 > (0 : Int))) (
      k 0 false) (
      cond (decide (y5.2 > (9223372036854775807 : Int))) (
        k 0 false) (
        cond (y3.2 != y4.2) (
          k (IntKind.i64.wrap (IntKind.u64.wrap (0 - y5.2))) true) (
          k (IntKind.i64.wrap y5.2) true))))
def nMul_E (y : Int × Bool) : PV × List PV := ((PV.tuple [(PV.int .i64 y.1), (PV.bool y.2)]), [])
def nMul_D : List PV → Option (Int × Bool)
  | [(PV.int .i64 a1), (PV.int .i64 b2)] => sMul a1 b2
  | _ => none
def nMul_Γ : List (Nat × Ctr) := [(35, nSize_C), (36, mul64_C)]
def nMul_C : Ctr := ⟨[none, none], Int × Bool, nMul_D, nMul_E, true, .d⟩
theorem nMul_eq (a1 : Int) (b2 : Int) :
    funK T G0 (ctrOf nMul_Γ) noL .d true [none, none] (funOf Try.f26) [(PV.int .i64 a1), (PV.int .i64 b2)] = nMul_b  a1 b2 (fun a0 a1 => some (nMul_E (a0, a1))) := by kernel_rfl
theorem nMul_inv {ps : List PV} {y : Int × Bool} (h : nMul_D ps = some y) : ∃ (a1 : Int) (b2 : Int), ps = [(PV.int .i64 a1), (PV.int .i64 b2)] := by
  unfold nMul_D at h
  split at h
  · exact ⟨_, _, rfl⟩
  · cases h
theorem nMul_holds (hΓ : HoldsAll Try.prog G0 nMul_Γ) (hok : ∀ (a1 : Int) (b2 : Int) (y : Int × Bool), sMul a1 b2 = some y → ∀ (R : Type) (k : Int → Bool → Option R), nMul_b  a1 b2 k = k y.1 y.2) : Holds Try.prog G0 26 nMul_C := by
  refine fun_ok mixed tOk (ctrOf_ok hΓ) Try.func26 rfl rfl rfl rfl (F := funOf Try.f26) (fun ps x h => ?_)
  obtain ⟨y, hy, hx⟩ := bind_inv h
  cases hx
  obtain ⟨a1, b2, rfl⟩ := nMul_inv hy
  refine ⟨noL, noL_ok _, (nMul_eq a1 b2).trans (hok a1 b2 y hy _ _)⟩

/-! ## drayman/num.Pick -/
def nPick_b {R : Type} (x1 : Int) (n2 : Int) (k : Int → Option R) : Option R :=
  cond (decide (n2 < (1 : Int))) (
    k 0) (
    if (IntKind.u64.wrap n2) = 0 then none else
    k (IntKind.i64.wrap (Int.tmod (IntKind.u64.wrap x1) (IntKind.u64.wrap n2))))
def nPick_E (y : Int) : PV × List PV := ((PV.int .i64 y), [])
def nPick_D : List PV → Option (Int)
  | [(PV.int .u32 x1), (PV.int .i64 n2)] => sPick x1 n2
  | _ => none
def nPick_Γ : List (Nat × Ctr) := []
def nPick_C : Ctr := ⟨[none, none], Int, nPick_D, nPick_E, true, .d⟩
theorem nPick_eq (x1 : Int) (n2 : Int) :
    funK T G0 (ctrOf nPick_Γ) noL .d true [none, none] (funOf Try.f30) [(PV.int .u32 x1), (PV.int .i64 n2)] = nPick_b  x1 n2 (fun a0 => some (nPick_E a0)) := by kernel_rfl
theorem nPick_inv {ps : List PV} {y : Int} (h : nPick_D ps = some y) : ∃ (x1 : Int) (n2 : Int), ps = [(PV.int .u32 x1), (PV.int .i64 n2)] := by
  unfold nPick_D at h
  split at h
  · exact ⟨_, _, rfl⟩
  · cases h
theorem nPick_holds (hΓ : HoldsAll Try.prog G0 nPick_Γ) (hok : ∀ (x1 : Int) (n2 : Int) (y : Int), sPick x1 n2 = some y → ∀ (R : Type) (k : Int → Option R), nPick_b  x1 n2 k = k y) : Holds Try.prog G0 30 nPick_C := by
  refine fun_ok mixed tOk (ctrOf_ok hΓ) Try.func30 rfl rfl rfl rfl (F := funOf Try.f30) (fun ps x h => ?_)
  obtain ⟨y, hy, hx⟩ := bind_inv h
  cases hx
  obtain ⟨x1, n2, rfl⟩ := nPick_inv hy
  refine ⟨noL, noL_ok _, (nPick_eq x1 n2).trans (hok x1 n2 y hy _ _)⟩

/-! ## drayman/draymanref01.Draw -/
def rDraw_b {R : Type} (x1 : Int) (k : Int → Option R) : Option R :=
  cond (x1 == (0 : Int)) (
    k 2463534242) (
    k (IntKind.u32.wrap (((BitVec.ofInt IntKind.u32.bits (IntKind.u32.wrap (((BitVec.ofInt IntKind.u32.bits (IntKind.u32.wrap (((BitVec.ofInt IntKind.u32.bits x1) ^^^ (BitVec.ofInt IntKind.u32.bits (IntKind.u32.wrap (x1 * 2 ^ 13)))).toNat : Nat))) ^^^ (BitVec.ofInt IntKind.u32.bits (Int.fdiv (IntKind.u32.wrap (((BitVec.ofInt IntKind.u32.bits x1) ^^^ (BitVec.ofInt IntKind.u32.bits (IntKind.u32.wrap (x1 * 2 ^ 13)))).toNat : Nat)) (2 ^ 17)))).toNat : Nat))) ^^^ (BitVec.ofInt IntKind.u32.bits (IntKind.u32.wrap ((IntKind.u32.wrap (((BitVec.ofInt IntKind.u32.bits (IntKind.u32.wrap (((BitVec.ofInt IntKind.u32.bits x1) ^^^ (BitVec.ofInt IntKind.u32.bits (IntKind.u32.wrap (x1 * 2 ^ 13)))).toNat : Nat))) ^^^ (BitVec.ofInt IntKind.u32.bits (Int.fdiv (IntKind.u32.wrap (((BitVec.ofInt IntKind.u32.bits x1) ^^^ (BitVec.ofInt IntKind.u32.bits (IntKind.u32.wrap (x1 * 2 ^ 13)))).toNat : Nat)) (2 ^ 17)))).toNat : Nat)) * 2 ^ 5)))).toNat : Nat)))
def rDraw_E (y : Int) : PV × List PV := ((PV.int .u32 y), [])
def rDraw_D : List PV → Option (Int)
  | [(PV.int .u32 x1)] => some (drawOf x1)
  | _ => none
def rDraw_Γ : List (Nat × Ctr) := []
def rDraw_C : Ctr := ⟨[none], Int, rDraw_D, rDraw_E, true, .d⟩
theorem rDraw_eq (x1 : Int) :
    funK T G0 (ctrOf rDraw_Γ) noL .d true [none] (funOf Try.f31) [(PV.int .u32 x1)] = rDraw_b  x1 (fun a0 => some (rDraw_E a0)) := by kernel_rfl
theorem rDraw_inv {ps : List PV} {y : Int} (h : rDraw_D ps = some y) : ∃ (x1 : Int), ps = [(PV.int .u32 x1)] := by
  unfold rDraw_D at h
  split at h
  · exact ⟨_, rfl⟩
  · cases h
theorem rDraw_holds (hΓ : HoldsAll Try.prog G0 rDraw_Γ) (hok : ∀ (x1 : Int) (R : Type) (k : Int → Option R), rDraw_b  x1 k = k (drawOf x1)) : Holds Try.prog G0 31 rDraw_C := by
  refine fun_ok mixed tOk (ctrOf_ok hΓ) Try.func31 rfl rfl rfl rfl (F := funOf Try.f31) (fun ps x h => ?_)
  obtain ⟨y, hy, hx⟩ := bind_inv h
  cases hx
  obtain ⟨x1, rfl⟩ := rDraw_inv hy
  cases hy
  refine ⟨noL, noL_ok _, (rDraw_eq x1).trans (hok x1 _ _)⟩

/-! ## drayman/draymanref01.Pick -/
def rPick_b {R : Type} (x1 : Int) (n2 : Int) (k : Int → Option R) : Option R :=
  cond (decide (n2 < (1 : Int))) (
    k 0) (
    if (IntKind.u64.wrap n2) = 0 then none else
    k (IntKind.i64.wrap (Int.tmod (IntKind.u64.wrap x1) (IntKind.u64.wrap n2))))
def rPick_E (y : Int) : PV × List PV := ((PV.int .i64 y), [])
def rPick_D : List PV → Option (Int)
  | [(PV.int .u32 x1), (PV.int .i64 n2)] => sPick x1 n2
  | _ => none
def rPick_Γ : List (Nat × Ctr) := []
def rPick_C : Ctr := ⟨[none, none], Int, rPick_D, rPick_E, true, .d⟩
theorem rPick_eq (x1 : Int) (n2 : Int) :
    funK T G0 (ctrOf rPick_Γ) noL .d true [none, none] (funOf Try.f32) [(PV.int .u32 x1), (PV.int .i64 n2)] = rPick_b  x1 n2 (fun a0 => some (rPick_E a0)) := by kernel_rfl
theorem rPick_inv {ps : List PV} {y : Int} (h : rPick_D ps = some y) : ∃ (x1 : Int) (n2 : Int), ps = [(PV.int .u32 x1), (PV.int .i64 n2)] := by
  unfold rPick_D at h
  split at h
  · exact ⟨_, _, rfl⟩
  · cases h
theorem rPick_holds (hΓ : HoldsAll Try.prog G0 rPick_Γ) (hok : ∀ (x1 : Int) (n2 : Int) (y : Int), sPick x1 n2 = some y → ∀ (R : Type) (k : Int → Option R), rPick_b  x1 n2 k = k y) : Holds Try.prog G0 32 rPick_C := by
  refine fun_ok mixed tOk (ctrOf_ok hΓ) Try.func32 rfl rfl rfl rfl (F := funOf Try.f32) (fun ps x h => ?_)
  obtain ⟨y, hy, hx⟩ := bind_inv h
  cases hx
  obtain ⟨x1, n2, rfl⟩ := rPick_inv hy
  refine ⟨noL, noL_ok _, (rPick_eq x1 n2).trans (hok x1 n2 y hy _ _)⟩

/-! ## drayman/draymanlaw01.NumSums -/
def numSums_b {R : Type} (a1 : Int) (b2 : Int) (c3 : Int) (k : Bool → Option R) : Option R :=
  Option.bind (sAdd a1 b2) fun y4 =>
  Option.bind (sAdd y4.1 c3) fun y5 =>
  Option.bind (sAdd b2 c3) fun y6 =>
  Option.bind (sAdd a1 y6.1) fun y7 =>
  cond y4.2 (
    cond y5.2 (
      cond y6.2 (
        cond (!y7.2) (
          k false) (
          cond (y5.1 != y7.1) (
            k false) (
            Option.bind (sMul a1 c3) fun y8 =>
            Option.bind (sMul b2 c3) fun y9 =>
            Option.bind (sAdd y8.1 y9.1) fun y10 =>
            Option.bind (sMul y4.1 c3) fun y11 =>
            cond (!y4.2) (
              Option.bind (wakes01_d) fun y12 =>
              k y12) (
              cond (!y8.2) (
                Option.bind (wakes01_d) fun y13 =>
                k y13) (
                cond (!y9.2) (
                  Option.bind (wakes01_d) fun y14 =>
                  k y14) (
                  cond (!y10.2) (
                    Option.bind (wakes01_d) fun y15 =>
                    k y15) (
                    cond y11.2 (
                      cond (y10.1 == y11.1) (
                        Option.bind (wakes01_d) fun y16 =>
                        k y16) (
                        k false)) (
                      k false)))))))) (
        Option.bind (sMul a1 c3) fun y17 =>
        Option.bind (sMul b2 c3) fun y18 =>
        Option.bind (sAdd y17.1 y18.1) fun y19 =>
        Option.bind (sMul y4.1 c3) fun y20 =>
        cond (!y4.2) (
          Option.bind (wakes01_d) fun y21 =>
          k y21) (
          cond (!y17.2) (
            Option.bind (wakes01_d) fun y22 =>
            k y22) (
            cond (!y18.2) (
              Option.bind (wakes01_d) fun y23 =>
              k y23) (
              cond (!y19.2) (
                Option.bind (wakes01_d) fun y24 =>
                k y24) (
                cond y20.2 (
                  cond (y19.1 == y20.1) (
                    Option.bind (wakes01_d) fun y25 =>
                    k y25) (
                    k false)) (
                  k false))))))) (
      Option.bind (sMul a1 c3) fun y26 =>
      Option.bind (sMul b2 c3) fun y27 =>
      Option.bind (sAdd y26.1 y27.1) fun y28 =>
      Option.bind (sMul y4.1 c3) fun y29 =>
      cond (!y4.2) (
        Option.bind (wakes01_d) fun y30 =>
        k y30) (
        cond (!y26.2) (
          Option.bind (wakes01_d) fun y31 =>
          k y31) (
          cond (!y27.2) (
            Option.bind (wakes01_d) fun y32 =>
            k y32) (
            cond (!y28.2) (
              Option.bind (wakes01_d) fun y33 =>
              k y33) (
              cond y29.2 (
                cond (y28.1 == y29.1) (
                  Option.bind (wakes01_d) fun y34 =>
                  k y34) (
                  k false)) (
                k false))))))) (
    Option.bind (sMul a1 c3) fun y35 =>
    Option.bind (sMul b2 c3) fun y36 =>
    Option.bind (sAdd y35.1 y36.1) fun y37 =>
    Option.bind (sMul y4.1 c3) fun y38 =>
    cond (!y4.2) (
      Option.bind (wakes01_d) fun y39 =>
      k y39) (
      cond (!y35.2) (
        Option.bind (wakes01_d) fun y40 =>
        k y40) (
        cond (!y36.2) (
          Option.bind (wakes01_d) fun y41 =>
          k y41) (
          cond (!y37.2) (
            Option.bind (wakes01_d) fun y42 =>
            k y42) (
            cond y38.2 (
              cond (y37.1 == y38.1) (
                Option.bind (wakes01_d) fun y43 =>
                k y43) (
                k false)) (
              k false))))))
def numSums_E (y : Bool) : PV × List PV := ((PV.bool y), [])
def numSums_D : List PV → Option (Bool)
  | [(PV.int .i64 a1), (PV.int .i64 b2), (PV.int .i64 c3)] => sNumSums a1 b2 c3
  | _ => none
def numSums_Γ : List (Nat × Ctr) := [(25, nAdd_C), (26, nMul_C), (16, wakes01_C)]
def numSums_C : Ctr := ⟨[none, none, none], Bool, numSums_D, numSums_E, true, .d⟩
theorem numSums_eq (a1 : Int) (b2 : Int) (c3 : Int) :
    funK T G0 (ctrOf numSums_Γ) noL .d true [none, none, none] (funOf Try.f9) [(PV.int .i64 a1), (PV.int .i64 b2), (PV.int .i64 c3)] = numSums_b  a1 b2 c3 (fun a0 => some (numSums_E a0)) := by kernel_rfl
theorem numSums_inv {ps : List PV} {y : Bool} (h : numSums_D ps = some y) : ∃ (a1 : Int) (b2 : Int) (c3 : Int), ps = [(PV.int .i64 a1), (PV.int .i64 b2), (PV.int .i64 c3)] := by
  unfold numSums_D at h
  split at h
  · exact ⟨_, _, _, rfl⟩
  · cases h
theorem numSums_holds (hΓ : HoldsAll Try.prog G0 numSums_Γ) (hok : ∀ (a1 : Int) (b2 : Int) (c3 : Int) (y : Bool), sNumSums a1 b2 c3 = some y → ∀ (R : Type) (k : Bool → Option R), numSums_b  a1 b2 c3 k = k y) : Holds Try.prog G0 9 numSums_C := by
  refine fun_ok mixed tOk (ctrOf_ok hΓ) Try.func9 rfl rfl rfl rfl (F := funOf Try.f9) (fun ps x h => ?_)
  obtain ⟨y, hy, hx⟩ := bind_inv h
  cases hx
  obtain ⟨a1, b2, c3, rfl⟩ := numSums_inv hy
  refine ⟨noL, noL_ok _, (numSums_eq a1 b2 c3).trans (hok a1 b2 c3 y hy _ _)⟩

/-! ## drayman/draymanlaw01.NumForms -/
def numForms_l2 {R : Type} : Nat → Int → Int → Int → List (List PV) → (Bool → Option R) → (Int → Option R) → Option R
  | 0, _, _, _, _, _, _ => none
  | n + 1, n11, i12, i13, es14, k0, k1 =>
    cond (decide (i13 < i12)) (
      if 0 ≤ i13 ∧ i13 < (es14.length : Int) then
        Option.bind (es14[(Int.toNat i13)]?) fun e15 =>
        Option.bind (subAgg e15 0 6) fun p16 =>
        if (PV.isAgg p16 6) = true then
          Option.bind ((PV.cells p16)[0]?) fun c17 =>
          Option.bind (PV.asI .i64 c17) fun n18 =>
          Option.bind ((PV.cells p16)[1]?) fun c19 =>
          Option.bind (PV.asI .i64 c19) fun n20 =>
          Option.bind (sAdd n18 n20) fun y21 =>
          Option.bind ((PV.cells p16)[0]?) fun c22 =>
          Option.bind (PV.asI .i64 c22) fun n23 =>
          Option.bind ((PV.cells p16)[1]?) fun c24 =>
          Option.bind (PV.asI .i64 c24) fun n25 =>
          Option.bind (sMul n23 n25) fun y26 =>
          Option.bind ((PV.cells p16)[4]?) fun c27 =>
          Option.bind (PV.asB c27) fun b28 =>
          cond (y21.2 != b28) (
            k0 false) (
            Option.bind ((PV.cells p16)[5]?) fun c29 =>
            Option.bind (PV.asB c29) fun b30 =>
            cond (y26.2 != b30) (
              k0 false) (
              Option.bind ((PV.cells p16)[2]?) fun c31 =>
              Option.bind (PV.asI .i64 c31) fun n32 =>
              cond (y21.1 != n32) (
                k0 false) (
                Option.bind ((PV.cells p16)[3]?) fun c33 =>
                Option.bind (PV.asI .i64 c33) fun n34 =>
                cond (y26.1 != n34) (
                  k0 false) (
                  numForms_l2 n n11 i12 (IntKind.i64.wrap (i13 + (1 : Int))) es14 k0 k1))))
        else none
      else none) (
      k1 n11)
def numForms_b {R : Type} (n : Nat) (n1 : Int) (k : Bool → Option R) : Option R :=
  numForms_l2 n n1 13 0 [[(PV.int .i64 3), (PV.int .i64 4), (PV.int .i64 7), (PV.int .i64 12), (PV.bool true), (PV.bool true)], [(PV.int .i64 9223372036854775807), (PV.int .i64 1), (PV.int .i64 0), (PV.int .i64 9223372036854775807), (PV.bool false), (PV.bool true)], [(PV.int .i64 9223372036854775807), (PV.int .i64 (-1)), (PV.int .i64 9223372036854775806), (PV.int .i64 (-9223372036854775807)), (PV.bool true), (PV.bool true)], [(PV.int .i64 (-9223372036854775808)), (PV.int .i64 (-1)), (PV.int .i64 0), (PV.int .i64 0), (PV.bool false), (PV.bool false)], [(PV.int .i64 (-9223372036854775808)), (PV.int .i64 1), (PV.int .i64 (-9223372036854775807)), (PV.int .i64 (-9223372036854775808)), (PV.bool true), (PV.bool true)], [(PV.int .i64 (-9223372036854775808)), (PV.int .i64 0), (PV.int .i64 (-9223372036854775808)), (PV.int .i64 0), (PV.bool true), (PV.bool true)], [(PV.int .i64 4294967296), (PV.int .i64 2147483648), (PV.int .i64 6442450944), (PV.int .i64 0), (PV.bool true), (PV.bool false)], [(PV.int .i64 2147483648), (PV.int .i64 2147483648), (PV.int .i64 4294967296), (PV.int .i64 4611686018427387904), (PV.bool true), (PV.bool true)], [(PV.int .i64 (-4294967296)), (PV.int .i64 2147483648), (PV.int .i64 (-2147483648)), (PV.int .i64 (-9223372036854775808)), (PV.bool true), (PV.bool true)], [(PV.int .i64 9223372036854775807), (PV.int .i64 9223372036854775807), (PV.int .i64 0), (PV.int .i64 0), (PV.bool false), (PV.bool false)], [(PV.int .i64 (-9223372036854775808)), (PV.int .i64 (-9223372036854775808)), (PV.int .i64 0), (PV.int .i64 0), (PV.bool false), (PV.bool false)], [(PV.int .i64 3037000500), (PV.int .i64 3037000500), (PV.int .i64 6074001000), (PV.int .i64 0), (PV.bool true), (PV.bool false)], [(PV.int .i64 (-3037000499)), (PV.int .i64 3037000499), (PV.int .i64 0), (PV.int .i64 (-9223372030926249001)), (PV.bool true), (PV.bool true)]] k
    (fun (n3 : Int) =>
      Option.bind (within_d n3 40) fun y4 =>
      cond ((drawOf 0) == (2463534242 : Int)) (
        cond ((drawOf 2463534242) == (723471715 : Int)) (
          Option.bind (sPick 7 3) fun y5 =>
          cond (y5 == (1 : Int)) (
            Option.bind (sPick 7 0) fun y6 =>
            cond (y6 == (0 : Int)) (
              Option.bind (sPick 7 (IntKind.i64.wrap (0 - y4))) fun y7 =>
              cond (y7 == (0 : Int)) (
                Option.bind (sPick 4294967295 1099511627776) fun y8 =>
                cond (y8 == (4294967295 : Int)) (
                  Option.bind (sPick 5 1) fun y9 =>
                  cond (y9 == (0 : Int)) (
                    Option.bind (wakes01_d) fun y10 =>
                    k y10) (
                    k false)) (
                  k false)) (
                k false)) (
              k false)) (
            k false)) (
          k false)) (
        k false))
def numForms_E (y : Bool) : PV × List PV := ((PV.bool y), [])
def numForms_D : List PV → Option (Bool)
  | [(PV.int .i64 n1)] => sNumForms n1
  | _ => none
def numForms_Γ : List (Nat × Ctr) := [(14, within_C), (15, draw_C), (30, nPick_C), (16, wakes01_C), (25, nAdd_C), (26, nMul_C)]
def numForms_C : Ctr := ⟨[none], Bool, numForms_D, numForms_E, true, .d⟩
def numForms_cfg : List (Nat × LC) := [(2, ⟨[0, 22, 23, 24], [], [], []⟩),
  (2000002, ⟨[2], [], [], []⟩),
  (1002000, ⟨[0], [], [], []⟩)]
def numForms_pat : Nat → Option SP
  | 2 => some ⟨sparse .undef [(0, (.val (.int .i64))), (22, (.ow 0)), (23, (.val (.int .i64))), (24, (.val (.int .i64)))] 0 100, [(.row 6)], []⟩
  | _ => none
def numForms_patj : Nat → Option SP
  | _ => none
def numForms_L2 (n : Nat) (ls : List Leaf) (R : Type) (k : Ex → St → Option R) : Option R :=
  match ls with
  | [.int n11, .int i12, .int i13, .rows es14] => numForms_l2 n n11 i12 i13 es14 (fun y1035 => k .ret ⟨sparse .undef [(2, (TV.val (PV.bool y1035)))] 0 100, [], []⟩)
      (fun y1036 => k (.exit 0) ⟨sparse .undef [(0, (TV.val (PV.int .i64 y1036)))] 0 100, [], []⟩)
  | _ => none
def numForms_L (n key : Nat) (ls : List Leaf) (R : Type) (k : Ex → St → Option R) : Option R :=
  match key with
  | 2 => numForms_L2 n ls R k
  | _ => none
def numForms_J (n key : Nat) (ls : List Leaf) (R : Type) (k : Ex → St → Option R) : Option R :=
  match key with
  | _ => none
def numForms_on : Code → Bool := fun _ => false
def numForms_Λ : Nat → Loops := patL (normBy numForms_cfg) numForms_pat numForms_L (normJ numForms_cfg) numForms_on numForms_patj numForms_J
theorem numForms_step2 (n : Nat) (n11 : Int) (i12 : Int) (i13 : Int) (es14 : List (List PV))  (R : Type) (k : Ex → St → Option R) :
    roundK T G0 (ctrOf numForms_Γ) (normBy numForms_cfg) (numForms_Λ n) (codeAt [1, 0, 1, 0, 0] (bodyOf Try.f11)) (buildSt ⟨sparse .undef [(0, (.val (.int .i64))), (22, (.ow 0)), (23, (.val (.int .i64))), (24, (.val (.int .i64)))] 0 100, [(.row 6)], []⟩ [.int n11, .int i12, .int i13, .rows es14]) R k = numForms_L2 (n + 1) [.int n11, .int i12, .int i13, .rows es14] R k := by kernel_rfl
theorem numForms_eq (n : Nat) (n1 : Int) :
    funK T G0 (ctrOf numForms_Γ) (numForms_Λ n) .d true [none] (funOf Try.f11) [(PV.int .i64 n1)] = numForms_b n  n1 (fun a0 => some (numForms_E a0)) := by kernel_rfl
theorem numForms_inv {ps : List PV} {y : Bool} (h : numForms_D ps = some y) : ∃ (n1 : Int), ps = [(PV.int .i64 n1)] := by
  unfold numForms_D at h
  split at h
  · exact ⟨_, rfl⟩
  · cases h
theorem numForms_loops : loopsOf (bodyOf Try.f11) = [codeAt [1, 0, 1, 0, 0] (bodyOf Try.f11)] := by kernel_rfl
theorem numForms_holds (hΓ : HoldsAll Try.prog G0 numForms_Γ) (hok : ∀ (n1 : Int) (y : Bool), sNumForms n1 = some y → ∃ n, ∀ (R : Type) (k : Bool → Option R), numForms_b n  n1 k = k y) : Holds Try.prog G0 11 numForms_C := by
  refine fun_pat mixed tOk (ctrOf_ok hΓ) Try.func11 rfl rfl rfl rfl (F := funOf Try.f11) (normBy_ok numForms_cfg) (pat := numForms_pat) (L := numForms_L) (normJ_ok numForms_cfg) (on := numForms_on) (patj := numForms_patj) (J := numForms_J) (fun c hc ls R k => ?_) (fun c hc p hp m ls R k r h => ?_) (fun c hc p hp m ls R k r h => ?_) (fun ps x h => ?_)
  · rw [show (funOf Try.f11).code = bodyOf Try.f11 from rfl, numForms_loops] at hc
    simp only [List.mem_cons, List.not_mem_nil, or_false] at hc
    rcases hc with rfl
    · show numForms_L2 0 ls R k = none
      unfold numForms_L2
      split
      · rfl
      · rfl
  · rw [show (funOf Try.f11).code = bodyOf Try.f11 from rfl, numForms_loops] at hc
    simp only [List.mem_cons, List.not_mem_nil, or_false] at hc
    rcases hc with rfl
    · have hp' : p = ⟨sparse .undef [(0, (.val (.int .i64))), (22, (.ow 0)), (23, (.val (.int .i64))), (24, (.val (.int .i64)))] 0 100, [(.row 6)], []⟩ := (Option.some.inj (hp : some _ = some p)).symm
      subst hp'
      change numForms_L2 (m + 1) ls R k = some r at h
      have h' := h
      unfold numForms_L2 at h'
      split at h'
      · exact (numForms_step2 m _ _ _ _ R k).trans h
      · cases h'
  · cases (List.mem_filter.1 hc).2
  · obtain ⟨y, hy, hx⟩ := bind_inv h
    cases hx
    obtain ⟨n1, rfl⟩ := numForms_inv hy
    obtain ⟨n, hn⟩ := hok n1 y hy
    exact ⟨n, (numForms_eq n n1).trans (hn _ _)⟩

end
end Go.Proofs.YtgpjnppakffoiaaV
