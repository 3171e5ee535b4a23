/- What the functions of the program come to, as the reading machine has it: printed by dec.py. -/
import Derived.Test.YtkeklbicmfhemabGreatDoorVTab
import Derived.Test.YtkeklbicmfhemabGreatDoorSL
namespace Go.Proofs.YtkeklbicmfhemabGreatDoorV
open Go
set_option maxRecDepth 100000
set_option linter.unusedVariables false
set_option linter.unusedSimpArgs false
noncomputable section
/-! ## strconv.Itoa -/
def itoaS_E (y : ByteArray) : PV × List PV := ((PV.str y), [])
def itoaS_D : List PV → Option (ByteArray)
  | [(PV.int .i64 i1)] => sItoa i1
  | _ => none
def itoaS_C : Ctr := ⟨[none], ByteArray, itoaS_D, itoaS_E, true, .d⟩

/-! ## strconv.Atoi -/
def atoiS_E (y : Int × PV) : PV × List PV := ((PV.tuple [(PV.int .i64 y.1), y.2]), [])
def atoiS_D : List PV → Option (Int × PV)
  | [(PV.str s1)] => sAtoi s1
  | _ => none
def atoiS_C : Ctr := ⟨[none], Int × PV, atoiS_D, atoiS_E, false, .d⟩

/-! ## strings.Cut -/
def cutS_E (y : ByteArray × ByteArray × Bool) : PV × List PV := ((PV.tuple [(PV.str y.1), (PV.str y.2.1), (PV.bool y.2.2)]), [])
def cutS_D : List PV → Option (ByteArray × ByteArray × Bool)
  | [(PV.str s1), (PV.str sep2)] => sCut s1 sep2
  | _ => none
def cutS_C : Ctr := ⟨[none, none], ByteArray × ByteArray × Bool, cutS_D, cutS_E, true, .d⟩

/-! ## strings.Split -/
def splitS_E (y : (List (List PV))) : PV × List PV := ((PV.fs y), [])
def splitS_D : List PV → Option ((List (List PV)))
  | [(PV.str s1), (PV.str sep2)] => sSplit s1 sep2
  | _ => none
def splitS_C : Ctr := ⟨[none, none], (List (List PV)), splitS_D, splitS_E, false, .d⟩

/-! ## strings.Join -/
def joinS_E (y : ByteArray) : PV × List PV := ((PV.str y), [])
def joinS_D : List PV → Option (ByteArray)
  | [(PV.fs elems1), (PV.str sep2)] => sJoin elems1 sep2
  | _ => none
def joinS_C : Ctr := ⟨[none, none], ByteArray, joinS_D, joinS_E, true, .d⟩

/-! ## strings.Trim -/
def trimS_E (y : ByteArray) : PV × List PV := ((PV.str y), [])
def trimS_D : List PV → Option (ByteArray)
  | [(PV.str s1), (PV.str cutset2)] => sTrim s1 cutset2
  | _ => none
def trimS_C : Ctr := ⟨[none, none], ByteArray, trimS_D, trimS_E, true, .d⟩

/-! ## internal/stringslite.HasPrefix -/
def hasPre_b {R : Type} (s1 : ByteArray) (prefix2 : ByteArray) (k : Bool → Option R) : Option R :=
  cond (decide (((s1).size : Int) ≥ ((prefix2).size : Int))) (
    if (0 : Int) ≤ (0 : Int) ∧ (0 : Int) ≤ ((prefix2).size : Int) ∧ ((prefix2).size : Int) ≤ ((s1).size : Int) then
      k (ByteArray.toList (ByteArray.extract s1 0 (Int.toNat ((prefix2).size : Int))) == ByteArray.toList prefix2)
    else none) (
    k false)
def hasPre_E (y : Bool) : PV × List PV := ((PV.bool y), [])
def hasPre_d (s1 : ByteArray) (prefix2 : ByteArray) : Option (Bool) := hasPre_b s1 prefix2 fun a0 => some a0
def hasPre_D : List PV → Option (Bool)
  | [(PV.str s1), (PV.str prefix2)] => hasPre_d s1 prefix2
  | _ => none
def hasPre_Γ : List (Nat × Cal) := []
def hasPre_C : Ctr := ⟨[none, none], Bool, hasPre_D, hasPre_E, true, .d⟩
theorem hasPre_eq (s1 : ByteArray) (prefix2 : ByteArray) :
    funK T G0 (ctrOf hasPre_Γ) noL .d true [none, none] (funOf Tryz.f67) [(PV.str s1), (PV.str prefix2)] = hasPre_b  s1 prefix2 (fun a0 => some (hasPre_E a0)) := by kernel_rfl
theorem hasPre_inv {ps : List PV} {y : Bool} (h : hasPre_D ps = some y) : ∃ (s1 : ByteArray) (prefix2 : ByteArray), ps = [(PV.str s1), (PV.str prefix2)] := by
  unfold hasPre_D at h
  split at h
  · exact ⟨_, _, rfl⟩
  · cases h
theorem hasPre_nat {R : Type} (s1 : ByteArray) (prefix2 : ByteArray) (k : Bool → Option R) : hasPre_b s1 prefix2 k = Option.bind (hasPre_b s1 prefix2 fun a0 => some a0) fun y => k y := by
  unfold hasPre_b
  first | rfl | simp only [Option.bind_assoc, bind_cond, bind_ite, Option.bind_some, Option.bind_none]
theorem hasPre_holds (hΓ : HoldsAll Tryz.prog G0 hasPre_Γ) : Holds Tryz.prog G0 67 hasPre_C := by
  refine fun_ok mixed tOk (ctrOf_ok hΓ) Tryz.func67 rfl rfl rfl rfl (F := funOf Tryz.f67) (fun ps x h => ?_)
  obtain ⟨y, hy, hx⟩ := bind_inv h
  cases hx
  obtain ⟨s1, prefix2, rfl⟩ := hasPre_inv hy
  have hy' : hasPre_d s1 prefix2 = some y := hy
  refine ⟨noL, noL_ok _, (hasPre_eq s1 prefix2).trans ?_⟩
  unfold hasPre_d at hy'
  rw [hasPre_nat, hy']
  rfl

/-! ## internal/stringslite.TrimPrefix -/
def trimPre0_b {R : Type} (s1 : ByteArray) (prefix2 : ByteArray) (k : ByteArray → Option R) : Option R :=
  Option.bind (hasPre_d s1 prefix2) fun y3 =>
  cond y3 (
    if (0 : Int) ≤ ((prefix2).size : Int) ∧ ((prefix2).size : Int) ≤ ((s1).size : Int) ∧ ((s1).size : Int) ≤ ((s1).size : Int) then
      k (ByteArray.extract s1 (Int.toNat ((prefix2).size : Int)) (Int.toNat ((s1).size : Int)))
    else none) (
    k s1)
def trimPre0_E (y : ByteArray) : PV × List PV := ((PV.str y), [])
def trimPre0_d (s1 : ByteArray) (prefix2 : ByteArray) : Option (ByteArray) := trimPre0_b s1 prefix2 fun a0 => some a0
def trimPre0_D : List PV → Option (ByteArray)
  | [(PV.str s1), (PV.str prefix2)] => trimPre0_d s1 prefix2
  | _ => none
def trimPre0_Γ : List (Nat × Cal) := [(67, .ctr hasPre_C)]
def trimPre0_C : Ctr := ⟨[none, none], ByteArray, trimPre0_D, trimPre0_E, true, .d⟩
theorem trimPre0_eq (s1 : ByteArray) (prefix2 : ByteArray) :
    funK T G0 (ctrOf trimPre0_Γ) noL .d true [none, none] (funOf Tryz.f47) [(PV.str s1), (PV.str prefix2)] = trimPre0_b  s1 prefix2 (fun a0 => some (trimPre0_E a0)) := by kernel_rfl
theorem trimPre0_inv {ps : List PV} {y : ByteArray} (h : trimPre0_D ps = some y) : ∃ (s1 : ByteArray) (prefix2 : ByteArray), ps = [(PV.str s1), (PV.str prefix2)] := by
  unfold trimPre0_D at h
  split at h
  · exact ⟨_, _, rfl⟩
  · cases h
theorem trimPre0_nat {R : Type} (s1 : ByteArray) (prefix2 : ByteArray) (k : ByteArray → Option R) : trimPre0_b s1 prefix2 k = Option.bind (trimPre0_b s1 prefix2 fun a0 => some a0) fun y => k y := by
  unfold trimPre0_b
  first | rfl | simp only [Option.bind_assoc, bind_cond, bind_ite, Option.bind_some, Option.bind_none]
theorem trimPre0_holds (hΓ : HoldsAll Tryz.prog G0 trimPre0_Γ) : Holds Tryz.prog G0 47 trimPre0_C := by
  refine fun_ok mixed tOk (ctrOf_ok hΓ) Tryz.func47 rfl rfl rfl rfl (F := funOf Tryz.f47) (fun ps x h => ?_)
  obtain ⟨y, hy, hx⟩ := bind_inv h
  cases hx
  obtain ⟨s1, prefix2, rfl⟩ := trimPre0_inv hy
  have hy' : trimPre0_d s1 prefix2 = some y := hy
  refine ⟨noL, noL_ok _, (trimPre0_eq s1 prefix2).trans ?_⟩
  unfold trimPre0_d at hy'
  rw [trimPre0_nat, hy']
  rfl

/-! ## strings.TrimPrefix -/
def trimPre_b {R : Type} (s1 : ByteArray) (prefix2 : ByteArray) (k : ByteArray → Option R) : Option R :=
  Option.bind (trimPre0_d s1 prefix2) fun y3 =>
  k y3
def trimPre_E (y : ByteArray) : PV × List PV := ((PV.str y), [])
def trimPre_d (s1 : ByteArray) (prefix2 : ByteArray) : Option (ByteArray) := trimPre_b s1 prefix2 fun a0 => some a0
def trimPre_D : List PV → Option (ByteArray)
  | [(PV.str s1), (PV.str prefix2)] => trimPre_d s1 prefix2
  | _ => none
def trimPre_Γ : List (Nat × Cal) := [(47, .ctr trimPre0_C)]
def trimPre_C : Ctr := ⟨[none, none], ByteArray, trimPre_D, trimPre_E, true, .d⟩
theorem trimPre_eq (s1 : ByteArray) (prefix2 : ByteArray) :
    funK T G0 (ctrOf trimPre_Γ) noL .d true [none, none] (funOf Tryz.f39) [(PV.str s1), (PV.str prefix2)] = trimPre_b  s1 prefix2 (fun a0 => some (trimPre_E a0)) := by kernel_rfl
theorem trimPre_inv {ps : List PV} {y : ByteArray} (h : trimPre_D ps = some y) : ∃ (s1 : ByteArray) (prefix2 : ByteArray), ps = [(PV.str s1), (PV.str prefix2)] := by
  unfold trimPre_D at h
  split at h
  · exact ⟨_, _, rfl⟩
  · cases h
theorem trimPre_nat {R : Type} (s1 : ByteArray) (prefix2 : ByteArray) (k : ByteArray → Option R) : trimPre_b s1 prefix2 k = Option.bind (trimPre_b s1 prefix2 fun a0 => some a0) fun y => k y := by
  unfold trimPre_b
  first | rfl | simp only [Option.bind_assoc, bind_cond, bind_ite, Option.bind_some, Option.bind_none]
theorem trimPre_holds (hΓ : HoldsAll Tryz.prog G0 trimPre_Γ) : Holds Tryz.prog G0 39 trimPre_C := by
  refine fun_ok mixed tOk (ctrOf_ok hΓ) Tryz.func39 rfl rfl rfl rfl (F := funOf Tryz.f39) (fun ps x h => ?_)
  obtain ⟨y, hy, hx⟩ := bind_inv h
  cases hx
  obtain ⟨s1, prefix2, rfl⟩ := trimPre_inv hy
  have hy' : trimPre_d s1 prefix2 = some y := hy
  refine ⟨noL, noL_ok _, (trimPre_eq s1 prefix2).trans ?_⟩
  unfold trimPre_d at hy'
  rw [trimPre_nat, hy']
  rfl

end
end Go.Proofs.YtkeklbicmfhemabGreatDoorV
