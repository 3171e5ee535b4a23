/- What the functions of the program come to, as the reading machine has it: printed by dec.py. -/
import Derived.Test.YtkeklbicmfhemabGreatDoorVTab
import Derived.Test.YtkeklbicmfhemabGreatDoorS02
import Derived.Test.YtkeklbicmfhemabGreatDoorDL
import Derived.Test.YtkeklbicmfhemabGreatDoorD00
namespace Go.Proofs.YtkeklbicmfhemabGreatDoorV
open Go
set_option maxRecDepth 100000
set_option linter.unusedVariables false
set_option linter.unusedSimpArgs false
noncomputable section
/-! ## drayman/scan.Digits -/
def digits_b {R : Type} (n1 : Int) (k : ByteArray → Option R) : Option R :=
  Option.bind (sItoa n1) fun y2 =>
  k y2
def digits_E (y : ByteArray) : PV × List PV := ((PV.str y), [])
def digits_d (n1 : Int) : Option (ByteArray) := digits_b n1 fun a0 => some a0
def digits_D : List PV → Option (ByteArray)
  | [(PV.int .i64 n1)] => digits_d n1
  | _ => none
def digits_Γ : List (Nat × Cal) := [(33, .ctr itoaS_C)]
def digits_C : Ctr := ⟨[none], ByteArray, digits_D, digits_E, true, .d⟩
theorem digits_eq (n1 : Int) :
    funK T G0 (ctrOf digits_Γ) noL .d true [none] (funOf Tryz.f28) [(PV.int .i64 n1)] = digits_b  n1 (fun a0 => some (digits_E a0)) := by kernel_rfl
theorem digits_inv {ps : List PV} {y : ByteArray} (h : digits_D ps = some y) : ∃ (n1 : Int), ps = [(PV.int .i64 n1)] := by
  unfold digits_D at h
  split at h
  · exact ⟨_, rfl⟩
  · cases h
theorem digits_nat {R : Type} (n1 : Int) (k : ByteArray → Option R) : digits_b n1 k = Option.bind (digits_b n1 fun a0 => some a0) fun y => k y := by
  unfold digits_b
  first | rfl | simp only [Option.bind_assoc, bind_cond, bind_ite, Option.bind_some, Option.bind_none]
theorem digits_holds (hΓ : HoldsAll Tryz.prog G0 digits_Γ) : Holds Tryz.prog G0 28 digits_C := by
  refine fun_ok mixed tOk (ctrOf_ok hΓ) Tryz.func28 rfl rfl rfl rfl (F := funOf Tryz.f28) (fun ps x h => ?_)
  obtain ⟨y, hy, hx⟩ := bind_inv h
  cases hx
  obtain ⟨n1, rfl⟩ := digits_inv hy
  have hy' : digits_d n1 = some y := hy
  refine ⟨noL, noL_ok _, (digits_eq n1).trans ?_⟩
  unfold digits_d at hy'
  rw [digits_nat, hy']
  rfl

/-! ## drayman/scan.Int -/
def sInt_b {R : Type} (s1 : ByteArray) (k : Int → Bool → Option R) : Option R :=
  Option.bind (trimPre_d s1 (ByteArray.mk #[45])) fun y2 =>
  cond (decide (((y2).size : Int) < (1 : Int))) (
    k 0 false) (
    cond (decide (((y2).size : Int) > (18 : Int))) (
      k 0 false) (
      Option.bind (sTrim y2 (ByteArray.mk #[48, 49, 50, 51, 52, 53, 54, 55, 56, 57])) fun y3 =>
      cond (!(ByteArray.toList y3 == ByteArray.toList (ByteArray.mk #[]))) (
        k 0 false) (
        Option.bind (sAtoi s1) fun y4 =>
        if (PV.one y4.2) = true then
          Option.bind (PV.asNil y4.2) fun b5 =>
          cond (!b5) (
            k 0 false) (
            Option.bind (digits_d y4.1) fun y6 =>
            cond (!(ByteArray.toList y6 == ByteArray.toList s1)) (
              k 0 false) (
              k y4.1 true))
        else none)))
def sInt_E (y : Int × Bool) : PV × List PV := ((PV.tuple [(PV.int .i64 y.1), (PV.bool y.2)]), [])
def sInt_d (s1 : ByteArray) : Option (Int × Bool) := sInt_b s1 fun a0 a1 => some (a0, a1)
def sInt_D : List PV → Option (Int × Bool)
  | [(PV.str s1)] => sInt_d s1
  | _ => none
def sInt_Γ : List (Nat × Cal) := [(39, .ctr trimPre_C), (40, .ctr trimS_C), (41, .ctr atoiS_C), (28, .ctr digits_C)]
def sInt_C : Ctr := ⟨[none], Int × Bool, sInt_D, sInt_E, true, .d⟩
theorem sInt_eq (s1 : ByteArray) :
    funK T G0 (ctrOf sInt_Γ) noL .d true [none] (funOf Tryz.f32) [(PV.str s1)] = sInt_b  s1 (fun a0 a1 => some (sInt_E (a0, a1))) := by kernel_rfl
theorem sInt_inv {ps : List PV} {y : Int × Bool} (h : sInt_D ps = some y) : ∃ (s1 : ByteArray), ps = [(PV.str s1)] := by
  unfold sInt_D at h
  split at h
  · exact ⟨_, rfl⟩
  · cases h
theorem sInt_nat {R : Type} (s1 : ByteArray) (k : Int → Bool → Option R) : sInt_b s1 k = Option.bind (sInt_b s1 fun a0 a1 => some (a0, a1)) fun y => k y.1 y.2 := by
  unfold sInt_b
  first | rfl | simp only [Option.bind_assoc, bind_cond, bind_ite, Option.bind_some, Option.bind_none]
theorem sInt_holds (hΓ : HoldsAll Tryz.prog G0 sInt_Γ) : Holds Tryz.prog G0 32 sInt_C := by
  refine fun_ok mixed tOk (ctrOf_ok hΓ) Tryz.func32 rfl rfl rfl rfl (F := funOf Tryz.f32) (fun ps x h => ?_)
  obtain ⟨y, hy, hx⟩ := bind_inv h
  cases hx
  obtain ⟨s1, rfl⟩ := sInt_inv hy
  have hy' : sInt_d s1 = some y := hy
  refine ⟨noL, noL_ok _, (sInt_eq s1).trans ?_⟩
  unfold sInt_d at hy'
  rw [sInt_nat, hy']
  rfl

/-! ## drayman/scan.Words -/
def wordsS_l3 {R : Type} : Nat → List (List PV) → Int → Int → List (List PV) → (List (List PV) → Option R) → Option R
  | 0, _, _, _, _, _ => none
  | n + 1, es4, i5, i6, es7, k0 =>
    cond (decide (i6 < i5)) (
      Option.bind (idx es4 i6) fun e8 =>
      if e8.length = 1 then
        Option.bind (e8[0]?) fun c9 =>
        Option.bind (PV.asS c9) fun s10 =>
        cond (!(ByteArray.toList s10 == ByteArray.toList (ByteArray.mk #[]))) (
          if (es7.length + ([[(PV.str s10)]] : List (List PV)).length) * 16 ≤ maxBytes then
            wordsS_l3 n es4 i5 (IntKind.i64.wrap (i6 + (1 : Int))) (es7 ++ [[(PV.str s10)]]) k0
          else none) (
          wordsS_l3 n es4 i5 (IntKind.i64.wrap (i6 + (1 : Int))) es7 k0)
      else none) (
      k0 es7)
def wordsS_b {R : Type} (n : Nat) (s1 : ByteArray) (k : List (List PV) → Option R) : Option R :=
  Option.bind (sSplit s1 (ByteArray.mk #[32])) fun y2 =>
  wordsS_l3 n y2 (y2.length : Int) 0 [] k
def wordsS_E (y : (List (List PV))) : PV × List PV := ((PV.os y 1), [])
def wordsS_D : List PV → Option ((List (List PV)))
  | [(PV.str s1)] => sWords s1
  | _ => none
def wordsS_Γ : List (Nat × Cal) := [(35, .ctr splitS_C)]
def wordsS_C : Ctr := ⟨[none], (List (List PV)), wordsS_D, wordsS_E, true, .s⟩
def wordsS_cfg : List (Nat × LC) := [(3, ⟨[3, 7, 8, 9], [3], [], []⟩),
  (1003000, ⟨[3], [], [], []⟩)]
def wordsS_pat : Nat → Option SP
  | 3 => some ⟨sparse .undef [(3, (.ow 0)), (7, (.val .fs)), (8, (.val (.int .i64))), (9, (.val (.int .i64)))] 0 21, [(.row 1)], []⟩
  | _ => none
def wordsS_patj : Nat → Option SP
  | _ => none
def wordsS_L3 (n : Nat) (ls : List Leaf) (R : Type) (k : Ex → St → Option R) : Option R :=
  match ls with
  | [.rows es4, .int i5, .int i6, .rows es7] => wordsS_l3 n es4 i5 i6 es7 (fun y1011 => k (.exit 0) ⟨sparse .undef [(3, (TV.ow 0))] 0 21, [(Ob.row y1011 1)], []⟩)
  | _ => none
def wordsS_L (n key : Nat) (ls : List Leaf) (R : Type) (k : Ex → St → Option R) : Option R :=
  match key with
  | 3 => wordsS_L3 n ls R k
  | _ => none
def wordsS_J (n key : Nat) (ls : List Leaf) (R : Type) (k : Ex → St → Option R) : Option R :=
  match key with
  | _ => none
def wordsS_on : Code → Bool := fun _ => false
def wordsS_Λ : Nat → Loops := patL (normBy wordsS_cfg) wordsS_pat wordsS_L (normJ wordsS_cfg) wordsS_on wordsS_patj wordsS_J
theorem wordsS_step3 (n : Nat) (es4 : List (List PV)) (i5 : Int) (i6 : Int) (es7 : List (List PV))  (R : Type) (k : Ex → St → Option R) :
    roundK T G0 (ctrOf wordsS_Γ) (normBy wordsS_cfg) (wordsS_Λ n) (codeAt [1, 1, 0, 1, 0, 0] (bodyOf Tryz.f30)) (buildSt ⟨sparse .undef [(3, (.ow 0)), (7, (.val .fs)), (8, (.val (.int .i64))), (9, (.val (.int .i64)))] 0 21, [(.row 1)], []⟩ [.rows es4, .int i5, .int i6, .rows es7]) R k = wordsS_L3 (n + 1) [.rows es4, .int i5, .int i6, .rows es7] R k := by kernel_rfl
theorem wordsS_eq (n : Nat) (s1 : ByteArray) :
    funK T G0 (ctrOf wordsS_Γ) (wordsS_Λ n) .s true [none] (funOf Tryz.f30) [(PV.str s1)] = wordsS_b n  s1 (fun a0 => if (noMem (wordsS_E a0).1 && noMemL (wordsS_E a0).2) = true then some (wordsS_E a0) else none) := by kernel_rfl
theorem wordsS_inv {ps : List PV} {y : (List (List PV))} (h : wordsS_D ps = some y) : ∃ (s1 : ByteArray), ps = [(PV.str s1)] := by
  unfold wordsS_D at h
  split at h
  · exact ⟨_, rfl⟩
  · cases h
theorem wordsS_loops : loopsOf (bodyOf Tryz.f30) = [codeAt [1, 1, 0, 1, 0, 0] (bodyOf Tryz.f30)] := by kernel_rfl
theorem wordsS_holds (hΓ : HoldsAll Tryz.prog G0 wordsS_Γ) (hok : ∀ (s1 : ByteArray) (y : (List (List PV))), sWords s1 = some y → ∃ n, ∀ (R : Type) (k : List (List PV) → Option R), wordsS_b n  s1 k = k y) (hno : ∀ (s1 : ByteArray) (y : (List (List PV))), sWords s1 = some y → (noMem (wordsS_E y).1 && noMemL (wordsS_E y).2) = true) : Holds Tryz.prog G0 30 wordsS_C := by
  refine fun_pat mixed tOk (ctrOf_ok hΓ) Tryz.func30 rfl rfl rfl rfl (F := funOf Tryz.f30) (normBy_ok wordsS_cfg) (pat := wordsS_pat) (L := wordsS_L) (normJ_ok wordsS_cfg) (on := wordsS_on) (patj := wordsS_patj) (J := wordsS_J) (fun c hc ls R k => ?_) (fun c hc p hp m ls R k r h => ?_) (fun c hc p hp m ls R k r h => ?_) (fun ps x h => ?_)
  · rw [show (funOf Tryz.f30).code = bodyOf Tryz.f30 from rfl, wordsS_loops] at hc
    simp only [List.mem_cons, List.not_mem_nil, or_false] at hc
    rcases hc with rfl
    · show wordsS_L3 0 ls R k = none
      unfold wordsS_L3
      split
      · rfl
      · rfl
  · rw [show (funOf Tryz.f30).code = bodyOf Tryz.f30 from rfl, wordsS_loops] at hc
    simp only [List.mem_cons, List.not_mem_nil, or_false] at hc
    rcases hc with rfl
    · have hp' : p = ⟨sparse .undef [(3, (.ow 0)), (7, (.val .fs)), (8, (.val (.int .i64))), (9, (.val (.int .i64)))] 0 21, [(.row 1)], []⟩ := (Option.some.inj (hp : some _ = some p)).symm
      subst hp'
      change wordsS_L3 (m + 1) ls R k = some r at h
      have h' := h
      unfold wordsS_L3 at h'
      split at h'
      · exact (wordsS_step3 m _ _ _ _ R k).trans h
      · cases h'
  · cases (List.mem_filter.1 hc).2
  · obtain ⟨y, hy, hx⟩ := bind_inv h
    cases hx
    obtain ⟨s1, rfl⟩ := wordsS_inv hy
    obtain ⟨n, hn⟩ := hok s1 y hy
    exact ⟨n, (wordsS_eq n s1).trans ((hn _ _).trans (if_pos (hno s1 y hy)))⟩

end
end Go.Proofs.YtkeklbicmfhemabGreatDoorV
