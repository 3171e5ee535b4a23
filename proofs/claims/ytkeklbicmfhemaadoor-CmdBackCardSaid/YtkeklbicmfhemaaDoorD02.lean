/- What the functions of the program come to, as the reading machine has it: printed by dec.py. -/
import Derived.Test.YtkeklbicmfhemaaDoorVTab
import Derived.Test.YtkeklbicmfhemaaDoorS02
import Derived.Test.YtkeklbicmfhemaaDoorDL
import Derived.Test.YtkeklbicmfhemaaDoorD00
namespace Go.Proofs.YtkeklbicmfhemaaDoorV
open Go
set_option maxRecDepth 100000
set_option linter.unusedVariables false
set_option linter.unusedSimpArgs false
noncomputable section
/-! ## drayman/scan.Digits -/
def digits_b {R : Type} (n1 : Int) (k : ByteArray → Option R) : Option R :=
  Option.bind (sItoa n1) fun y2 =>
  k y2
def digits_E (y : ByteArray) : PV × List PV := ((PV.str y), [])
def digits_d (n1 : Int) : Option (ByteArray) := digits_b n1 fun a0 => some a0
def digits_D : List PV → Option (ByteArray)
  | [(PV.int .i64 n1)] => digits_d n1
  | _ => none
def digits_Γ : List (Nat × Cal) := [(35, .ctr itoaS_C)]
def digits_C : Ctr := ⟨[none], ByteArray, digits_D, digits_E, true, .d⟩
theorem digits_eq (n1 : Int) :
    funK T G0 (ctrOf digits_Γ) noL .d true [none] (funOf Tryd.f14) [(PV.int .i64 n1)] = digits_b  n1 (fun a0 => some (digits_E a0)) := by kernel_rfl
theorem digits_inv {ps : List PV} {y : ByteArray} (h : digits_D ps = some y) : ∃ (n1 : Int), ps = [(PV.int .i64 n1)] := by
  unfold digits_D at h
  split at h
  · exact ⟨_, rfl⟩
  · cases h
theorem digits_nat {R : Type} (n1 : Int) (k : ByteArray → Option R) : digits_b n1 k = Option.bind (digits_b n1 fun a0 => some a0) fun y => k y := by
  unfold digits_b
  first | rfl | simp only [Option.bind_assoc, bind_cond, bind_ite, Option.bind_some, Option.bind_none]
theorem digits_holds (hΓ : HoldsAll Tryd.prog G0 digits_Γ) : Holds Tryd.prog G0 14 digits_C := by
  refine fun_ok mixed tOk (ctrOf_ok hΓ) Tryd.func14 rfl rfl rfl rfl (F := funOf Tryd.f14) (fun ps x h => ?_)
  obtain ⟨y, hy, hx⟩ := bind_inv h
  cases hx
  obtain ⟨n1, rfl⟩ := digits_inv hy
  have hy' : digits_d n1 = some y := hy
  refine ⟨noL, noL_ok _, (digits_eq n1).trans ?_⟩
  unfold digits_d at hy'
  rw [digits_nat, hy']
  rfl

/-! ## drayman/scan.Int -/
def sInt_b {R : Type} (s1 : ByteArray) (k : Int → Bool → Option R) : Option R :=
  Option.bind (trimPre_d s1 (ByteArray.mk #[45])) fun y2 =>
  cond (decide (((y2).size : Int) < (1 : Int))) (
    k 0 false) (
    cond (decide (((y2).size : Int) > (18 : Int))) (
      k 0 false) (
      Option.bind (sTrim y2 (ByteArray.mk #[48, 49, 50, 51, 52, 53, 54, 55, 56, 57])) fun y3 =>
      cond (!(ByteArray.toList y3 == ByteArray.toList (ByteArray.mk #[]))) (
        k 0 false) (
        Option.bind (sAtoi s1) fun y4 =>
        if (PV.one y4.2) = true then
          Option.bind (PV.asNil y4.2) fun b5 =>
          cond (!b5) (
            k 0 false) (
            Option.bind (digits_d y4.1) fun y6 =>
            cond (!(ByteArray.toList y6 == ByteArray.toList s1)) (
              k 0 false) (
              k y4.1 true))
        else none)))
def sInt_E (y : Int × Bool) : PV × List PV := ((PV.tuple [(PV.int .i64 y.1), (PV.bool y.2)]), [])
def sInt_d (s1 : ByteArray) : Option (Int × Bool) := sInt_b s1 fun a0 a1 => some (a0, a1)
def sInt_D : List PV → Option (Int × Bool)
  | [(PV.str s1)] => sInt_d s1
  | _ => none
def sInt_Γ : List (Nat × Cal) := [(36, .ctr trimPre_C), (37, .ctr trimS_C), (38, .ctr atoiS_C), (14, .ctr digits_C)]
def sInt_C : Ctr := ⟨[none], Int × Bool, sInt_D, sInt_E, true, .d⟩
theorem sInt_eq (s1 : ByteArray) :
    funK T G0 (ctrOf sInt_Γ) noL .d true [none] (funOf Tryd.f17) [(PV.str s1)] = sInt_b  s1 (fun a0 a1 => some (sInt_E (a0, a1))) := by kernel_rfl
theorem sInt_inv {ps : List PV} {y : Int × Bool} (h : sInt_D ps = some y) : ∃ (s1 : ByteArray), ps = [(PV.str s1)] := by
  unfold sInt_D at h
  split at h
  · exact ⟨_, rfl⟩
  · cases h
theorem sInt_nat {R : Type} (s1 : ByteArray) (k : Int → Bool → Option R) : sInt_b s1 k = Option.bind (sInt_b s1 fun a0 a1 => some (a0, a1)) fun y => k y.1 y.2 := by
  unfold sInt_b
  first | rfl | simp only [Option.bind_assoc, bind_cond, bind_ite, Option.bind_some, Option.bind_none]
theorem sInt_holds (hΓ : HoldsAll Tryd.prog G0 sInt_Γ) : Holds Tryd.prog G0 17 sInt_C := by
  refine fun_ok mixed tOk (ctrOf_ok hΓ) Tryd.func17 rfl rfl rfl rfl (F := funOf Tryd.f17) (fun ps x h => ?_)
  obtain ⟨y, hy, hx⟩ := bind_inv h
  cases hx
  obtain ⟨s1, rfl⟩ := sInt_inv hy
  have hy' : sInt_d s1 = some y := hy
  refine ⟨noL, noL_ok _, (sInt_eq s1).trans ?_⟩
  unfold sInt_d at hy'
  rw [sInt_nat, hy']
  rfl

/-! ## drayman/scan.Words -/
def wordsS_l3 {R : Type} : Nat → List (List PV) → Int → Int → List (List PV) → (List (List PV) → Option R) → Option R
  | 0, _, _, _, _, _ => none
  | n + 1, es4, i5, i6, es7, k0 =>
    cond (decide (i6 < i5)) (
      Option.bind (idx es4 i6) fun e8 =>
      if e8.length = 1 then
        Option.bind (e8[0]?) fun c9 =>
        Option.bind (PV.asS c9) fun s10 =>
        cond (!(ByteArray.toList s10 == ByteArray.toList (ByteArray.mk #[]))) (
          if (es7.length + ([[(PV.str s10)]] : List (List PV)).length) * 16 ≤ maxBytes then
            wordsS_l3 n es4 i5 (IntKind.i64.wrap (i6 + (1 : Int))) (es7 ++ [[(PV.str s10)]]) k0
          else none) (
          wordsS_l3 n es4 i5 (IntKind.i64.wrap (i6 + (1 : Int))) es7 k0)
      else none) (
      k0 es7)
def wordsS_b {R : Type} (n : Nat) (s1 : ByteArray) (k : List (List PV) → Option R) : Option R :=
  Option.bind (sSplit s1 (ByteArray.mk #[32])) fun y2 =>
  wordsS_l3 n y2 (y2.length : Int) 0 [] k
def wordsS_E (y : (List (List PV))) : PV × List PV := ((PV.os y 1), [])
def wordsS_D : List PV → Option ((List (List PV)))
  | [(PV.str s1)] => sWords s1
  | _ => none
def wordsS_Γ : List (Nat × Cal) := [(47, .ctr splitS_C)]
def wordsS_C : Ctr := ⟨[none], (List (List PV)), wordsS_D, wordsS_E, true, .s⟩
def wordsS_cfg : List (Nat × LC) := [(3, ⟨[3, 7, 8, 9], [3], [], []⟩),
  (1003000, ⟨[3], [], [], []⟩)]
def wordsS_pat : Nat → Option SP
  | 3 => some ⟨sparse .undef [(3, (.ow 0)), (7, (.val .fs)), (8, (.val (.int .i64))), (9, (.val (.int .i64)))] 0 21, [(.row 1)], []⟩
  | _ => none
def wordsS_patj : Nat → Option SP
  | _ => none
def wordsS_L3 (n : Nat) (ls : List Leaf) (R : Type) (k : Ex → St → Option R) : Option R :=
  match ls with
  | [.rows es4, .int i5, .int i6, .rows es7] => wordsS_l3 n es4 i5 i6 es7 (fun y1011 => k (.exit 0) ⟨sparse .undef [(3, (TV.ow 0))] 0 21, [(Ob.row y1011 1)], []⟩)
  | _ => none
def wordsS_L (n key : Nat) (ls : List Leaf) (R : Type) (k : Ex → St → Option R) : Option R :=
  match key with
  | 3 => wordsS_L3 n ls R k
  | _ => none
def wordsS_J (n key : Nat) (ls : List Leaf) (R : Type) (k : Ex → St → Option R) : Option R :=
  match key with
  | _ => none
def wordsS_on : Code → Bool := fun _ => false
def wordsS_Λ : Nat → Loops := patL (normBy wordsS_cfg) wordsS_pat wordsS_L (normJ wordsS_cfg) wordsS_on wordsS_patj wordsS_J
theorem wordsS_step3 (n : Nat) (es4 : List (List PV)) (i5 : Int) (i6 : Int) (es7 : List (List PV))  (R : Type) (k : Ex → St → Option R) :
    roundK T G0 (ctrOf wordsS_Γ) (normBy wordsS_cfg) (wordsS_Λ n) (codeAt [1, 1, 0, 1, 0, 0] (bodyOf Tryd.f27)) (buildSt ⟨sparse .undef [(3, (.ow 0)), (7, (.val .fs)), (8, (.val (.int .i64))), (9, (.val (.int .i64)))] 0 21, [(.row 1)], []⟩ [.rows es4, .int i5, .int i6, .rows es7]) R k = wordsS_L3 (n + 1) [.rows es4, .int i5, .int i6, .rows es7] R k := by kernel_rfl
theorem wordsS_eq (n : Nat) (s1 : ByteArray) :
    funK T G0 (ctrOf wordsS_Γ) (wordsS_Λ n) .s true [none] (funOf Tryd.f27) [(PV.str s1)] = wordsS_b n  s1 (fun a0 => if (noMem (wordsS_E a0).1 && noMemL (wordsS_E a0).2) = true then some (wordsS_E a0) else none) := by kernel_rfl
theorem wordsS_inv {ps : List PV} {y : (List (List PV))} (h : wordsS_D ps = some y) : ∃ (s1 : ByteArray), ps = [(PV.str s1)] := by
  unfold wordsS_D at h
  split at h
  · exact ⟨_, rfl⟩
  · cases h
theorem wordsS_loops : loopsOf (bodyOf Tryd.f27) = [codeAt [1, 1, 0, 1, 0, 0] (bodyOf Tryd.f27)] := by kernel_rfl
theorem wordsS_holds (hΓ : HoldsAll Tryd.prog G0 wordsS_Γ) (hok : ∀ (s1 : ByteArray) (y : (List (List PV))), sWords s1 = some y → ∃ n, ∀ (R : Type) (k : List (List PV) → Option R), wordsS_b n  s1 k = k y) (hno : ∀ (s1 : ByteArray) (y : (List (List PV))), sWords s1 = some y → (noMem (wordsS_E y).1 && noMemL (wordsS_E y).2) = true) : Holds Tryd.prog G0 27 wordsS_C := by
  refine fun_pat mixed tOk (ctrOf_ok hΓ) Tryd.func27 rfl rfl rfl rfl (F := funOf Tryd.f27) (normBy_ok wordsS_cfg) (pat := wordsS_pat) (L := wordsS_L) (normJ_ok wordsS_cfg) (on := wordsS_on) (patj := wordsS_patj) (J := wordsS_J) (fun c hc ls R k => ?_) (fun c hc p hp m ls R k r h => ?_) (fun c hc p hp m ls R k r h => ?_) (fun ps x h => ?_)
  · rw [show (funOf Tryd.f27).code = bodyOf Tryd.f27 from rfl, wordsS_loops] at hc
    simp only [List.mem_cons, List.not_mem_nil, or_false] at hc
    rcases hc with rfl
    · show wordsS_L3 0 ls R k = none
      unfold wordsS_L3
      split
      · rfl
      · rfl
  · rw [show (funOf Tryd.f27).code = bodyOf Tryd.f27 from rfl, wordsS_loops] at hc
    simp only [List.mem_cons, List.not_mem_nil, or_false] at hc
    rcases hc with rfl
    · have hp' : p = ⟨sparse .undef [(3, (.ow 0)), (7, (.val .fs)), (8, (.val (.int .i64))), (9, (.val (.int .i64)))] 0 21, [(.row 1)], []⟩ := (Option.some.inj (hp : some _ = some p)).symm
      subst hp'
      change wordsS_L3 (m + 1) ls R k = some r at h
      have h' := h
      unfold wordsS_L3 at h'
      split at h'
      · exact (wordsS_step3 m _ _ _ _ R k).trans h
      · cases h'
  · cases (List.mem_filter.1 hc).2
  · obtain ⟨y, hy, hx⟩ := bind_inv h
    cases hx
    obtain ⟨s1, rfl⟩ := wordsS_inv hy
    obtain ⟨n, hn⟩ := hok s1 y hy
    exact ⟨n, (wordsS_eq n s1).trans ((hn _ _).trans (if_pos (hno s1 y hy)))⟩

/-! ## drayman/draymanlaw02.wakes -/
def wakes02_b {R : Type} (k : Bool → Option R) : Option R :=
  Option.bind (sInt_d (ByteArray.mk #[45, 49, 50])) fun y1 =>
  cond y1.2 (
    k (y1.1 == (-12 : Int))) (
    k false)
def wakes02_E (y : Bool) : PV × List PV := ((PV.bool y), [])
def wakes02_d : Option (Bool) := wakes02_b fun a0 => some a0
def wakes02_D : List PV → Option (Bool)
  | [] => wakes02_d
  | _ => none
def wakes02_Γ : List (Nat × Cal) := [(17, .ctr sInt_C)]
def wakes02_C : Ctr := ⟨[], Bool, wakes02_D, wakes02_E, true, .d⟩
theorem wakes02_eq :
    funK T G0 (ctrOf wakes02_Γ) noL .d true [] (funOf Tryd.f15) [] = wakes02_b  (fun a0 => some (wakes02_E a0)) := by kernel_rfl
theorem wakes02_inv {ps : List PV} {y : Bool} (h : wakes02_D ps = some y) : ps = [] := by
  unfold wakes02_D at h
  split at h
  · rfl
  · cases h
theorem wakes02_nat {R : Type} (k : Bool → Option R) : wakes02_b k = Option.bind (wakes02_b fun a0 => some a0) fun y => k y := by
  unfold wakes02_b
  first | rfl | simp only [Option.bind_assoc, bind_cond, bind_ite, Option.bind_some, Option.bind_none]
theorem wakes02_holds (hΓ : HoldsAll Tryd.prog G0 wakes02_Γ) : Holds Tryd.prog G0 15 wakes02_C := by
  refine fun_ok mixed tOk (ctrOf_ok hΓ) Tryd.func15 rfl rfl rfl rfl (F := funOf Tryd.f15) (fun ps x h => ?_)
  obtain ⟨y, hy, hx⟩ := bind_inv h
  cases hx
  obtain rfl := wakes02_inv hy
  have hy' : wakes02_d = some y := hy
  refine ⟨noL, noL_ok _, (wakes02_eq).trans ?_⟩
  unfold wakes02_d at hy'
  rw [wakes02_nat, hy']
  rfl

/-! ## drayman/draymanref01.Digits -/
def rDigits_l3 {R : Type} : Nat → Int → ByteArray → Int → (Int → ByteArray → Option R) → Option R
  | 0, _, _, _, _ => none
  | n + 1, n4, s5, m6, k0 =>
    cond (m6 != (0 : Int)) (
      cond (decide ((Int.tmod m6 (10 : Int)) < (0 : Int))) (
        if (0 : Int) ≤ (IntKind.i64.wrap (0 - (Int.tmod m6 (10 : Int)))) ∧ (IntKind.i64.wrap (0 - (Int.tmod m6 (10 : Int)))) ≤ (IntKind.i64.wrap ((IntKind.i64.wrap (0 - (Int.tmod m6 (10 : Int)))) + (1 : Int))) ∧ (IntKind.i64.wrap ((IntKind.i64.wrap (0 - (Int.tmod m6 (10 : Int)))) + (1 : Int))) ≤ (10 : Int) then
          if ((ByteArray.extract (ByteArray.mk #[48, 49, 50, 51, 52, 53, 54, 55, 56, 57]) (Int.toNat (IntKind.i64.wrap (0 - (Int.tmod m6 (10 : Int))))) (Int.toNat (IntKind.i64.wrap ((IntKind.i64.wrap (0 - (Int.tmod m6 (10 : Int)))) + (1 : Int)))))).size + (s5).size ≤ 140737488355328 then
            rDigits_l3 n n4 ((ByteArray.extract (ByteArray.mk #[48, 49, 50, 51, 52, 53, 54, 55, 56, 57]) (Int.toNat (IntKind.i64.wrap (0 - (Int.tmod m6 (10 : Int))))) (Int.toNat (IntKind.i64.wrap ((IntKind.i64.wrap (0 - (Int.tmod m6 (10 : Int)))) + (1 : Int))))) ++ s5) (IntKind.i64.wrap (Int.tdiv m6 (10 : Int))) k0
          else none
        else none) (
        if (0 : Int) ≤ (Int.tmod m6 (10 : Int)) ∧ (Int.tmod m6 (10 : Int)) ≤ (IntKind.i64.wrap ((Int.tmod m6 (10 : Int)) + (1 : Int))) ∧ (IntKind.i64.wrap ((Int.tmod m6 (10 : Int)) + (1 : Int))) ≤ (10 : Int) then
          if ((ByteArray.extract (ByteArray.mk #[48, 49, 50, 51, 52, 53, 54, 55, 56, 57]) (Int.toNat (Int.tmod m6 (10 : Int))) (Int.toNat (IntKind.i64.wrap ((Int.tmod m6 (10 : Int)) + (1 : Int)))))).size + (s5).size ≤ 140737488355328 then
            rDigits_l3 n n4 ((ByteArray.extract (ByteArray.mk #[48, 49, 50, 51, 52, 53, 54, 55, 56, 57]) (Int.toNat (Int.tmod m6 (10 : Int))) (Int.toNat (IntKind.i64.wrap ((Int.tmod m6 (10 : Int)) + (1 : Int))))) ++ s5) (IntKind.i64.wrap (Int.tdiv m6 (10 : Int))) k0
          else none
        else none)) (
      cond (ByteArray.toList s5 == ByteArray.toList (ByteArray.mk #[])) (
        cond (decide ((Int.tmod m6 (10 : Int)) < (0 : Int))) (
          if (0 : Int) ≤ (IntKind.i64.wrap (0 - (Int.tmod m6 (10 : Int)))) ∧ (IntKind.i64.wrap (0 - (Int.tmod m6 (10 : Int)))) ≤ (IntKind.i64.wrap ((IntKind.i64.wrap (0 - (Int.tmod m6 (10 : Int)))) + (1 : Int))) ∧ (IntKind.i64.wrap ((IntKind.i64.wrap (0 - (Int.tmod m6 (10 : Int)))) + (1 : Int))) ≤ (10 : Int) then
            if ((ByteArray.extract (ByteArray.mk #[48, 49, 50, 51, 52, 53, 54, 55, 56, 57]) (Int.toNat (IntKind.i64.wrap (0 - (Int.tmod m6 (10 : Int))))) (Int.toNat (IntKind.i64.wrap ((IntKind.i64.wrap (0 - (Int.tmod m6 (10 : Int)))) + (1 : Int)))))).size + (s5).size ≤ 140737488355328 then
              rDigits_l3 n n4 ((ByteArray.extract (ByteArray.mk #[48, 49, 50, 51, 52, 53, 54, 55, 56, 57]) (Int.toNat (IntKind.i64.wrap (0 - (Int.tmod m6 (10 : Int))))) (Int.toNat (IntKind.i64.wrap ((IntKind.i64.wrap (0 - (Int.tmod m6 (10 : Int)))) + (1 : Int))))) ++ s5) (IntKind.i64.wrap (Int.tdiv m6 (10 : Int))) k0
            else none
          else none) (
          if (0 : Int) ≤ (Int.tmod m6 (10 : Int)) ∧ (Int.tmod m6 (10 : Int)) ≤ (IntKind.i64.wrap ((Int.tmod m6 (10 : Int)) + (1 : Int))) ∧ (IntKind.i64.wrap ((Int.tmod m6 (10 : Int)) + (1 : Int))) ≤ (10 : Int) then
            if ((ByteArray.extract (ByteArray.mk #[48, 49, 50, 51, 52, 53, 54, 55, 56, 57]) (Int.toNat (Int.tmod m6 (10 : Int))) (Int.toNat (IntKind.i64.wrap ((Int.tmod m6 (10 : Int)) + (1 : Int)))))).size + (s5).size ≤ 140737488355328 then
              rDigits_l3 n n4 ((ByteArray.extract (ByteArray.mk #[48, 49, 50, 51, 52, 53, 54, 55, 56, 57]) (Int.toNat (Int.tmod m6 (10 : Int))) (Int.toNat (IntKind.i64.wrap ((Int.tmod m6 (10 : Int)) + (1 : Int))))) ++ s5) (IntKind.i64.wrap (Int.tdiv m6 (10 : Int))) k0
            else none
          else none)) (
        k0 n4 s5))
def rDigits_b {R : Type} (n : Nat) (n1 : Int) (k : ByteArray → Option R) : Option R :=
  rDigits_l3 n n1 (ByteArray.mk #[]) n1
    (fun (n2 : Int) (s3 : ByteArray) =>
      cond (decide (n2 < (0 : Int))) (
        if ((ByteArray.mk #[45])).size + (s3).size ≤ 140737488355328 then
          k ((ByteArray.mk #[45]) ++ s3)
        else none) (
        k s3))
def rDigits_E (y : ByteArray) : PV × List PV := ((PV.str y), [])
def rDigits_D : List PV → Option (ByteArray)
  | [(PV.int .i64 n1)] => sRDigits n1
  | _ => none
def rDigits_Γ : List (Nat × Cal) := []
def rDigits_C : Ctr := ⟨[none], ByteArray, rDigits_D, rDigits_E, true, .d⟩
def rDigits_cfg : List (Nat × LC) := [(3, ⟨[0, 3, 4], [], [], []⟩),
  (1003000, ⟨[0, 3], [], [], []⟩)]
def rDigits_pat : Nat → Option SP
  | 3 => some ⟨sparse .undef [(0, (.val (.int .i64))), (3, (.val .str)), (4, (.val (.int .i64)))] 0 32, [], []⟩
  | _ => none
def rDigits_patj : Nat → Option SP
  | _ => none
def rDigits_L3 (n : Nat) (ls : List Leaf) (R : Type) (k : Ex → St → Option R) : Option R :=
  match ls with
  | [.int n4, .str s5, .int m6] => rDigits_l3 n n4 s5 m6 (fun y1007 y1008 => k (.exit 0) ⟨sparse .undef [(0, (TV.val (PV.int .i64 y1007))), (3, (TV.val (PV.str y1008)))] 0 32, [], []⟩)
  | _ => none
def rDigits_L (n key : Nat) (ls : List Leaf) (R : Type) (k : Ex → St → Option R) : Option R :=
  match key with
  | 3 => rDigits_L3 n ls R k
  | _ => none
def rDigits_J (n key : Nat) (ls : List Leaf) (R : Type) (k : Ex → St → Option R) : Option R :=
  match key with
  | _ => none
def rDigits_on : Code → Bool := fun _ => false
def rDigits_Λ : Nat → Loops := patL (normBy rDigits_cfg) rDigits_pat rDigits_L (normJ rDigits_cfg) rDigits_on rDigits_patj rDigits_J
theorem rDigits_step3 (n : Nat) (n4 : Int) (s5 : ByteArray) (m6 : Int)  (R : Type) (k : Ex → St → Option R) :
    roundK T G0 (ctrOf rDigits_Γ) (normBy rDigits_cfg) (rDigits_Λ n) (codeAt [1, 1, 0, 1, 0, 0] (bodyOf Tryd.f28)) (buildSt ⟨sparse .undef [(0, (.val (.int .i64))), (3, (.val .str)), (4, (.val (.int .i64)))] 0 32, [], []⟩ [.int n4, .str s5, .int m6]) R k = rDigits_L3 (n + 1) [.int n4, .str s5, .int m6] R k := by kernel_rfl
theorem rDigits_eq (n : Nat) (n1 : Int) :
    funK T G0 (ctrOf rDigits_Γ) (rDigits_Λ n) .d true [none] (funOf Tryd.f28) [(PV.int .i64 n1)] = rDigits_b n  n1 (fun a0 => some (rDigits_E a0)) := by kernel_rfl
theorem rDigits_inv {ps : List PV} {y : ByteArray} (h : rDigits_D ps = some y) : ∃ (n1 : Int), ps = [(PV.int .i64 n1)] := by
  unfold rDigits_D at h
  split at h
  · exact ⟨_, rfl⟩
  · cases h
theorem rDigits_loops : loopsOf (bodyOf Tryd.f28) = [codeAt [1, 1, 0, 1, 0, 0] (bodyOf Tryd.f28)] := by kernel_rfl
theorem rDigits_holds (hΓ : HoldsAll Tryd.prog G0 rDigits_Γ) (hok : ∀ (n1 : Int) (y : ByteArray), sRDigits n1 = some y → ∃ n, ∀ (R : Type) (k : ByteArray → Option R), rDigits_b n  n1 k = k y) : Holds Tryd.prog G0 28 rDigits_C := by
  refine fun_pat mixed tOk (ctrOf_ok hΓ) Tryd.func28 rfl rfl rfl rfl (F := funOf Tryd.f28) (normBy_ok rDigits_cfg) (pat := rDigits_pat) (L := rDigits_L) (normJ_ok rDigits_cfg) (on := rDigits_on) (patj := rDigits_patj) (J := rDigits_J) (fun c hc ls R k => ?_) (fun c hc p hp m ls R k r h => ?_) (fun c hc p hp m ls R k r h => ?_) (fun ps x h => ?_)
  · rw [show (funOf Tryd.f28).code = bodyOf Tryd.f28 from rfl, rDigits_loops] at hc
    simp only [List.mem_cons, List.not_mem_nil, or_false] at hc
    rcases hc with rfl
    · show rDigits_L3 0 ls R k = none
      unfold rDigits_L3
      split
      · rfl
      · rfl
  · rw [show (funOf Tryd.f28).code = bodyOf Tryd.f28 from rfl, rDigits_loops] at hc
    simp only [List.mem_cons, List.not_mem_nil, or_false] at hc
    rcases hc with rfl
    · have hp' : p = ⟨sparse .undef [(0, (.val (.int .i64))), (3, (.val .str)), (4, (.val (.int .i64)))] 0 32, [], []⟩ := (Option.some.inj (hp : some _ = some p)).symm
      subst hp'
      change rDigits_L3 (m + 1) ls R k = some r at h
      have h' := h
      unfold rDigits_L3 at h'
      split at h'
      · exact (rDigits_step3 m _ _ _ R k).trans h
      · cases h'
  · cases (List.mem_filter.1 hc).2
  · obtain ⟨y, hy, hx⟩ := bind_inv h
    cases hx
    obtain ⟨n1, rfl⟩ := rDigits_inv hy
    obtain ⟨n, hn⟩ := hok n1 y hy
    exact ⟨n, (rDigits_eq n n1).trans (hn _ _)⟩

/-! ## drayman/draymanref01.Int -/
def rInt_l8 {R : Type} : Nat → ByteArray → Bool → Int → Int → (Int → Bool → Option R) → (Bool → Int → Option R) → Option R
  | 0, _, _, _, _, _, _ => none
  | n + 1, s30, minus31, n32, i33, k0, k1 =>
    cond (decide (i33 < ((s30).size : Int))) (
      Option.bind (idx (s30).data.toList i33) fun u34 =>
      cond (decide ((u34.toNat : Int) < (48 : Int))) (
        k0 0 false) (
        Option.bind (idx (s30).data.toList i33) fun u35 =>
        cond (decide ((u35.toNat : Int) > (57 : Int))) (
          k0 0 false) (
          Option.bind (idx (s30).data.toList i33) fun u36 =>
          rInt_l8 n s30 minus31 (IntKind.i64.wrap ((IntKind.i64.wrap ((10 : Int) * n32)) + (IntKind.i64.wrap (IntKind.u8.wrap ((u36.toNat : Int) - (48 : Int)))))) (IntKind.i64.wrap (i33 + (1 : Int))) k0 k1))) (
      k1 minus31 n32)
def rInt_b {R : Type} (n : Nat) (s1 : ByteArray) (k : Int → Bool → Option R) : Option R :=
  cond (decide (((s1).size : Int) > (0 : Int))) (
    Option.bind (idx (s1).data.toList (0 : Int)) fun u2 =>
    cond ((u2.toNat : Int) == (45 : Int)) (
      if (0 : Int) ≤ (1 : Int) ∧ (1 : Int) ≤ ((s1).size : Int) ∧ ((s1).size : Int) ≤ ((s1).size : Int) then
        cond (decide ((((ByteArray.extract s1 1 (Int.toNat ((s1).size : Int)))).size : Int) < (1 : Int))) (
          k 0 false) (
          cond (decide ((((ByteArray.extract s1 1 (Int.toNat ((s1).size : Int)))).size : Int) > (18 : Int))) (
            k 0 false) (
            Option.bind (idx ((ByteArray.extract s1 1 (Int.toNat ((s1).size : Int)))).data.toList (0 : Int)) fun u3 =>
            cond ((u3.toNat : Int) == (48 : Int)) (
              cond (decide ((((ByteArray.extract s1 1 (Int.toNat ((s1).size : Int)))).size : Int) > (1 : Int))) (
                k 0 false) (
                cond ((u2.toNat : Int) == (45 : Int)) (
                  k 0 false) (
                  rInt_l8 n (ByteArray.extract s1 1 (Int.toNat ((s1).size : Int))) ((u2.toNat : Int) == (45 : Int)) 0 0 k
                    (fun (minus6 : Bool) (n7 : Int) =>
                      cond minus6 (
                        k (IntKind.i64.wrap (0 - n7)) true) (
                        k n7 true))))) (
              rInt_l8 n (ByteArray.extract s1 1 (Int.toNat ((s1).size : Int))) ((u2.toNat : Int) == (45 : Int)) 0 0 k
                (fun (minus10 : Bool) (n11 : Int) =>
                  cond minus10 (
                    k (IntKind.i64.wrap (0 - n11)) true) (
                    k n11 true)))))
      else none) (
      cond (decide (((s1).size : Int) < (1 : Int))) (
        k 0 false) (
        cond (decide (((s1).size : Int) > (18 : Int))) (
          k 0 false) (
          Option.bind (idx (s1).data.toList (0 : Int)) fun u12 =>
          cond ((u12.toNat : Int) == (48 : Int)) (
            cond (decide (((s1).size : Int) > (1 : Int))) (
              k 0 false) (
              cond ((u2.toNat : Int) == (45 : Int)) (
                k 0 false) (
                rInt_l8 n s1 ((u2.toNat : Int) == (45 : Int)) 0 0 k
                  (fun (minus15 : Bool) (n16 : Int) =>
                    cond minus15 (
                      k (IntKind.i64.wrap (0 - n16)) true) (
                      k n16 true))))) (
            rInt_l8 n s1 ((u2.toNat : Int) == (45 : Int)) 0 0 k
              (fun (minus19 : Bool) (n20 : Int) =>
                cond minus19 (
                  k (IntKind.i64.wrap (0 - n20)) true) (
                  k n20 true))))))) (
    cond (decide (((s1).size : Int) < (1 : Int))) (
      k 0 false) (
      cond (decide (((s1).size : Int) > (18 : Int))) (
        k 0 false) (
        Option.bind (idx (s1).data.toList (0 : Int)) fun u21 =>
        cond ((u21.toNat : Int) == (48 : Int)) (
          cond (decide (((s1).size : Int) > (1 : Int))) (
            k 0 false) (
            rInt_l8 n s1 false 0 0 k
              (fun (minus24 : Bool) (n25 : Int) =>
                cond minus24 (
                  k (IntKind.i64.wrap (0 - n25)) true) (
                  k n25 true)))) (
          rInt_l8 n s1 false 0 0 k
            (fun (minus28 : Bool) (n29 : Int) =>
              cond minus28 (
                k (IntKind.i64.wrap (0 - n29)) true) (
                k n29 true))))))
def rInt_E (y : Int × Bool) : PV × List PV := ((PV.tuple [(PV.int .i64 y.1), (PV.bool y.2)]), [])
def rInt_D : List PV → Option (Int × Bool)
  | [(PV.str s1)] => sRInt s1
  | _ => none
def rInt_Γ : List (Nat × Cal) := []
def rInt_C : Ctr := ⟨[none], Int × Bool, rInt_D, rInt_E, true, .d⟩
def rInt_cfg : List (Nat × LC) := [(8, ⟨[0, 4, 5, 6], [], [], []⟩),
  (2000008, ⟨[2, 3], [], [], []⟩),
  (1008000, ⟨[4, 5], [], [], []⟩)]
def rInt_pat : Nat → Option SP
  | 8 => some ⟨sparse .undef [(0, (.val .str)), (4, (.val .bool)), (5, (.val (.int .i64))), (6, (.val (.int .i64)))] 0 67, [], []⟩
  | _ => none
def rInt_patj : Nat → Option SP
  | _ => none
def rInt_L8 (n : Nat) (ls : List Leaf) (R : Type) (k : Ex → St → Option R) : Option R :=
  match ls with
  | [.str s30, .bool minus31, .int n32, .int i33] => rInt_l8 n s30 minus31 n32 i33 (fun y1037 y1038 => k .ret ⟨sparse .undef [(2, (TV.val (PV.int .i64 y1037))), (3, (TV.val (PV.bool y1038)))] 0 67, [], []⟩)
      (fun y1039 y1040 => k (.exit 0) ⟨sparse .undef [(4, (TV.val (PV.bool y1039))), (5, (TV.val (PV.int .i64 y1040)))] 0 67, [], []⟩)
  | _ => none
def rInt_L (n key : Nat) (ls : List Leaf) (R : Type) (k : Ex → St → Option R) : Option R :=
  match key with
  | 8 => rInt_L8 n ls R k
  | _ => none
def rInt_J (n key : Nat) (ls : List Leaf) (R : Type) (k : Ex → St → Option R) : Option R :=
  match key with
  | _ => none
def rInt_on : Code → Bool := fun _ => false
def rInt_Λ : Nat → Loops := patL (normBy rInt_cfg) rInt_pat rInt_L (normJ rInt_cfg) rInt_on rInt_patj rInt_J
theorem rInt_step8 (n : Nat) (s30 : ByteArray) (minus31 : Bool) (n32 : Int) (i33 : Int)  (R : Type) (k : Ex → St → Option R) :
    roundK T G0 (ctrOf rInt_Γ) (normBy rInt_cfg) (rInt_Λ n) (codeAt [1, 1, 1, 1, 1, 0, 1, 0, 0] (bodyOf Tryd.f29)) (buildSt ⟨sparse .undef [(0, (.val .str)), (4, (.val .bool)), (5, (.val (.int .i64))), (6, (.val (.int .i64)))] 0 67, [], []⟩ [.str s30, .bool minus31, .int n32, .int i33]) R k = rInt_L8 (n + 1) [.str s30, .bool minus31, .int n32, .int i33] R k := by kernel_rfl
theorem rInt_eq (n : Nat) (s1 : ByteArray) :
    funK T G0 (ctrOf rInt_Γ) (rInt_Λ n) .d true [none] (funOf Tryd.f29) [(PV.str s1)] = rInt_b n  s1 (fun a0 a1 => some (rInt_E (a0, a1))) := by kernel_rfl
theorem rInt_inv {ps : List PV} {y : Int × Bool} (h : rInt_D ps = some y) : ∃ (s1 : ByteArray), ps = [(PV.str s1)] := by
  unfold rInt_D at h
  split at h
  · exact ⟨_, rfl⟩
  · cases h
theorem rInt_loops : loopsOf (bodyOf Tryd.f29) = [codeAt [1, 1, 1, 1, 1, 0, 1, 0, 0] (bodyOf Tryd.f29)] := by kernel_rfl
theorem rInt_holds (hΓ : HoldsAll Tryd.prog G0 rInt_Γ) (hok : ∀ (s1 : ByteArray) (y : Int × Bool), sRInt s1 = some y → ∃ n, ∀ (R : Type) (k : Int → Bool → Option R), rInt_b n  s1 k = k y.1 y.2) : Holds Tryd.prog G0 29 rInt_C := by
  refine fun_pat mixed tOk (ctrOf_ok hΓ) Tryd.func29 rfl rfl rfl rfl (F := funOf Tryd.f29) (normBy_ok rInt_cfg) (pat := rInt_pat) (L := rInt_L) (normJ_ok rInt_cfg) (on := rInt_on) (patj := rInt_patj) (J := rInt_J) (fun c hc ls R k => ?_) (fun c hc p hp m ls R k r h => ?_) (fun c hc p hp m ls R k r h => ?_) (fun ps x h => ?_)
  · rw [show (funOf Tryd.f29).code = bodyOf Tryd.f29 from rfl, rInt_loops] at hc
    simp only [List.mem_cons, List.not_mem_nil, or_false] at hc
    rcases hc with rfl
    · show rInt_L8 0 ls R k = none
      unfold rInt_L8
      split
      · rfl
      · rfl
  · rw [show (funOf Tryd.f29).code = bodyOf Tryd.f29 from rfl, rInt_loops] at hc
    simp only [List.mem_cons, List.not_mem_nil, or_false] at hc
    rcases hc with rfl
    · have hp' : p = ⟨sparse .undef [(0, (.val .str)), (4, (.val .bool)), (5, (.val (.int .i64))), (6, (.val (.int .i64)))] 0 67, [], []⟩ := (Option.some.inj (hp : some _ = some p)).symm
      subst hp'
      change rInt_L8 (m + 1) ls R k = some r at h
      have h' := h
      unfold rInt_L8 at h'
      split at h'
      · exact (rInt_step8 m _ _ _ _ R k).trans h
      · cases h'
  · cases (List.mem_filter.1 hc).2
  · obtain ⟨y, hy, hx⟩ := bind_inv h
    cases hx
    obtain ⟨s1, rfl⟩ := rInt_inv hy
    obtain ⟨n, hn⟩ := hok s1 y hy
    exact ⟨n, (rInt_eq n s1).trans (hn _ _)⟩

/-! ## drayman/draymanref01.Words -/
def rWords_l4 {R : Type} : Nat → ByteArray → ByteArray → Int → List (List PV) → (List (List PV) → Option R) → Option R
  | 0, _, _, _, _, _ => none
  | n + 1, s3, w4, i5, es6, k0 =>
    cond (decide (i5 ≤ ((s3).size : Int))) (
      cond (decide (i5 < ((s3).size : Int))) (
        Option.bind (idx (s3).data.toList i5) fun u7 =>
        cond ((u7.toNat : Int) != (32 : Int)) (
          if (0 : Int) ≤ i5 ∧ i5 ≤ (IntKind.i64.wrap (i5 + (1 : Int))) ∧ (IntKind.i64.wrap (i5 + (1 : Int))) ≤ ((s3).size : Int) then
            if (w4).size + ((ByteArray.extract s3 (Int.toNat i5) (Int.toNat (IntKind.i64.wrap (i5 + (1 : Int)))))).size ≤ 140737488355328 then
              rWords_l4 n s3 (w4 ++ (ByteArray.extract s3 (Int.toNat i5) (Int.toNat (IntKind.i64.wrap (i5 + (1 : Int)))))) (IntKind.i64.wrap (i5 + (1 : Int))) es6 k0
            else none
          else none) (
          cond (!(ByteArray.toList w4 == ByteArray.toList (ByteArray.mk #[]))) (
            if (es6.length + ([[(PV.str w4)]] : List (List PV)).length) * 16 ≤ maxBytes then
              rWords_l4 n s3 (ByteArray.mk #[]) (IntKind.i64.wrap (i5 + (1 : Int))) (es6 ++ [[(PV.str w4)]]) k0
            else none) (
            rWords_l4 n s3 (ByteArray.mk #[]) (IntKind.i64.wrap (i5 + (1 : Int))) es6 k0))) (
        cond (!(ByteArray.toList w4 == ByteArray.toList (ByteArray.mk #[]))) (
          if (es6.length + ([[(PV.str w4)]] : List (List PV)).length) * 16 ≤ maxBytes then
            rWords_l4 n s3 (ByteArray.mk #[]) (IntKind.i64.wrap (i5 + (1 : Int))) (es6 ++ [[(PV.str w4)]]) k0
          else none) (
          rWords_l4 n s3 (ByteArray.mk #[]) (IntKind.i64.wrap (i5 + (1 : Int))) es6 k0))) (
      k0 es6)
def rWords_b {R : Type} (n : Nat) (s1 : ByteArray) (k : List (List PV) → Option R) : Option R :=
  rWords_l4 n s1 (ByteArray.mk #[]) 0 [] k
def rWords_E (y : (List (List PV))) : PV × List PV := ((PV.os y 1), [])
def rWords_D : List PV → Option ((List (List PV)))
  | [(PV.str s1)] => sRWords s1
  | _ => none
def rWords_Γ : List (Nat × Cal) := []
def rWords_C : Ctr := ⟨[none], (List (List PV)), rWords_D, rWords_E, true, .s⟩
def rWords_cfg : List (Nat × LC) := [(4, ⟨[0, 3, 4, 5], [3], [], []⟩),
  (1004000, ⟨[3], [], [], []⟩)]
def rWords_pat : Nat → Option SP
  | 4 => some ⟨sparse .undef [(0, (.val .str)), (3, (.ow 0)), (4, (.val .str)), (5, (.val (.int .i64)))] 0 36, [(.row 1)], []⟩
  | _ => none
def rWords_patj : Nat → Option SP
  | _ => none
def rWords_L4 (n : Nat) (ls : List Leaf) (R : Type) (k : Ex → St → Option R) : Option R :=
  match ls with
  | [.str s3, .str w4, .int i5, .rows es6] => rWords_l4 n s3 w4 i5 es6 (fun y1008 => k (.exit 0) ⟨sparse .undef [(3, (TV.ow 0))] 0 36, [(Ob.row y1008 1)], []⟩)
  | _ => none
def rWords_L (n key : Nat) (ls : List Leaf) (R : Type) (k : Ex → St → Option R) : Option R :=
  match key with
  | 4 => rWords_L4 n ls R k
  | _ => none
def rWords_J (n key : Nat) (ls : List Leaf) (R : Type) (k : Ex → St → Option R) : Option R :=
  match key with
  | _ => none
def rWords_on : Code → Bool := fun _ => false
def rWords_Λ : Nat → Loops := patL (normBy rWords_cfg) rWords_pat rWords_L (normJ rWords_cfg) rWords_on rWords_patj rWords_J
theorem rWords_step4 (n : Nat) (s3 : ByteArray) (w4 : ByteArray) (i5 : Int) (es6 : List (List PV))  (R : Type) (k : Ex → St → Option R) :
    roundK T G0 (ctrOf rWords_Γ) (normBy rWords_cfg) (rWords_Λ n) (codeAt [1, 1, 1, 0, 1, 0, 0] (bodyOf Tryd.f30)) (buildSt ⟨sparse .undef [(0, (.val .str)), (3, (.ow 0)), (4, (.val .str)), (5, (.val (.int .i64)))] 0 36, [(.row 1)], []⟩ [.str s3, .str w4, .int i5, .rows es6]) R k = rWords_L4 (n + 1) [.str s3, .str w4, .int i5, .rows es6] R k := by kernel_rfl
theorem rWords_eq (n : Nat) (s1 : ByteArray) :
    funK T G0 (ctrOf rWords_Γ) (rWords_Λ n) .s true [none] (funOf Tryd.f30) [(PV.str s1)] = rWords_b n  s1 (fun a0 => if (noMem (rWords_E a0).1 && noMemL (rWords_E a0).2) = true then some (rWords_E a0) else none) := by kernel_rfl
theorem rWords_inv {ps : List PV} {y : (List (List PV))} (h : rWords_D ps = some y) : ∃ (s1 : ByteArray), ps = [(PV.str s1)] := by
  unfold rWords_D at h
  split at h
  · exact ⟨_, rfl⟩
  · cases h
theorem rWords_loops : loopsOf (bodyOf Tryd.f30) = [codeAt [1, 1, 1, 0, 1, 0, 0] (bodyOf Tryd.f30)] := by kernel_rfl
theorem rWords_holds (hΓ : HoldsAll Tryd.prog G0 rWords_Γ) (hok : ∀ (s1 : ByteArray) (y : (List (List PV))), sRWords s1 = some y → ∃ n, ∀ (R : Type) (k : List (List PV) → Option R), rWords_b n  s1 k = k y) (hno : ∀ (s1 : ByteArray) (y : (List (List PV))), sRWords s1 = some y → (noMem (rWords_E y).1 && noMemL (rWords_E y).2) = true) : Holds Tryd.prog G0 30 rWords_C := by
  refine fun_pat mixed tOk (ctrOf_ok hΓ) Tryd.func30 rfl rfl rfl rfl (F := funOf Tryd.f30) (normBy_ok rWords_cfg) (pat := rWords_pat) (L := rWords_L) (normJ_ok rWords_cfg) (on := rWords_on) (patj := rWords_patj) (J := rWords_J) (fun c hc ls R k => ?_) (fun c hc p hp m ls R k r h => ?_) (fun c hc p hp m ls R k r h => ?_) (fun ps x h => ?_)
  · rw [show (funOf Tryd.f30).code = bodyOf Tryd.f30 from rfl, rWords_loops] at hc
    simp only [List.mem_cons, List.not_mem_nil, or_false] at hc
    rcases hc with rfl
    · show rWords_L4 0 ls R k = none
      unfold rWords_L4
      split
      · rfl
      · rfl
  · rw [show (funOf Tryd.f30).code = bodyOf Tryd.f30 from rfl, rWords_loops] at hc
    simp only [List.mem_cons, List.not_mem_nil, or_false] at hc
    rcases hc with rfl
    · have hp' : p = ⟨sparse .undef [(0, (.val .str)), (3, (.ow 0)), (4, (.val .str)), (5, (.val (.int .i64)))] 0 36, [(.row 1)], []⟩ := (Option.some.inj (hp : some _ = some p)).symm
      subst hp'
      change rWords_L4 (m + 1) ls R k = some r at h
      have h' := h
      unfold rWords_L4 at h'
      split at h'
      · exact (rWords_step4 m _ _ _ _ R k).trans h
      · cases h'
  · cases (List.mem_filter.1 hc).2
  · obtain ⟨y, hy, hx⟩ := bind_inv h
    cases hx
    obtain ⟨s1, rfl⟩ := rWords_inv hy
    obtain ⟨n, hn⟩ := hok s1 y hy
    exact ⟨n, (rWords_eq n s1).trans ((hn _ _).trans (if_pos (hno s1 y hy)))⟩

/-! ## drayman/draymankeep.Same[string] -/
def sameS_l4 {R : Type} : Nat → List (List PV) → List (List PV) → Int → (Bool → Option R) → (Unit → Option R) → Option R
  | 0, _, _, _, _, _ => none
  | n + 1, a4, b5, i6, k0, k1 =>
    cond (decide (i6 < (a4.length : Int))) (
      Option.bind (idx a4 i6) fun e7 =>
      if e7.length = 1 then
        Option.bind (e7[0]?) fun c8 =>
        Option.bind (PV.asS c8) fun s9 =>
        Option.bind (idx b5 i6) fun e10 =>
        if e10.length = 1 then
          Option.bind (e10[0]?) fun c11 =>
          Option.bind (PV.asS c11) fun s12 =>
          cond (!(ByteArray.toList s9 == ByteArray.toList s12)) (
            k0 false) (
            sameS_l4 n a4 b5 (IntKind.i64.wrap (i6 + (1 : Int))) k0 k1)
        else none
      else none) (
      k1 ())
def sameS_b {R : Type} (n : Nat) (a1 : List (List PV)) (b2 : List (List PV)) (k : Bool → Option R) : Option R :=
  cond ((a1.length : Int) != (b2.length : Int)) (
    k false) (
    sameS_l4 n a1 b2 0 k
      (fun (_ : Unit) =>
        k true))
def sameS_E (y : Bool) : PV × List PV := ((PV.bool y), [])
def sameS_D : List PV → Option (Bool)
  | [(PV.fs a1), (PV.fs b2)] => sSameS a1 b2
  | _ => none
def sameS_Γ : List (Nat × Cal) := []
def sameS_C : Ctr := ⟨[none, none], Bool, sameS_D, sameS_E, true, .d⟩
def sameS_cfg : List (Nat × LC) := [(4, ⟨[0, 1, 5], [], [], []⟩),
  (2000004, ⟨[4], [], [], []⟩),
  (1004000, ⟨[], [], [], []⟩)]
def sameS_pat : Nat → Option SP
  | 4 => some ⟨sparse .undef [(0, (.val .fs)), (1, (.val .fs)), (5, (.val (.int .i64)))] 0 26, [], []⟩
  | _ => none
def sameS_patj : Nat → Option SP
  | _ => none
def sameS_L4 (n : Nat) (ls : List Leaf) (R : Type) (k : Ex → St → Option R) : Option R :=
  match ls with
  | [.rows a4, .rows b5, .int i6] => sameS_l4 n a4 b5 i6 (fun y1013 => k .ret ⟨sparse .undef [(4, (TV.val (PV.bool y1013)))] 0 26, [], []⟩)
      (fun _ => k (.exit 0) ⟨sparse .undef [] 0 26, [], []⟩)
  | _ => none
def sameS_L (n key : Nat) (ls : List Leaf) (R : Type) (k : Ex → St → Option R) : Option R :=
  match key with
  | 4 => sameS_L4 n ls R k
  | _ => none
def sameS_J (n key : Nat) (ls : List Leaf) (R : Type) (k : Ex → St → Option R) : Option R :=
  match key with
  | _ => none
def sameS_on : Code → Bool := fun _ => false
def sameS_Λ : Nat → Loops := patL (normBy sameS_cfg) sameS_pat sameS_L (normJ sameS_cfg) sameS_on sameS_patj sameS_J
theorem sameS_step4 (n : Nat) (a4 : List (List PV)) (b5 : List (List PV)) (i6 : Int)  (R : Type) (k : Ex → St → Option R) :
    roundK T G0 (ctrOf sameS_Γ) (normBy sameS_cfg) (sameS_Λ n) (codeAt [1, 1, 0, 1, 0, 0] (bodyOf Tryd.f26)) (buildSt ⟨sparse .undef [(0, (.val .fs)), (1, (.val .fs)), (5, (.val (.int .i64)))] 0 26, [], []⟩ [.rows a4, .rows b5, .int i6]) R k = sameS_L4 (n + 1) [.rows a4, .rows b5, .int i6] R k := by kernel_rfl
theorem sameS_eq (n : Nat) (a1 : List (List PV)) (b2 : List (List PV)) :
    funK T G0 (ctrOf sameS_Γ) (sameS_Λ n) .d true [none, none] (funOf Tryd.f26) [(PV.fs a1), (PV.fs b2)] = sameS_b n  a1 b2 (fun a0 => some (sameS_E a0)) := by kernel_rfl
theorem sameS_inv {ps : List PV} {y : Bool} (h : sameS_D ps = some y) : ∃ (a1 : List (List PV)) (b2 : List (List PV)), ps = [(PV.fs a1), (PV.fs b2)] := by
  unfold sameS_D at h
  split at h
  · exact ⟨_, _, rfl⟩
  · cases h
theorem sameS_loops : loopsOf (bodyOf Tryd.f26) = [codeAt [1, 1, 0, 1, 0, 0] (bodyOf Tryd.f26)] := by kernel_rfl
theorem sameS_holds (hΓ : HoldsAll Tryd.prog G0 sameS_Γ) (hok : ∀ (a1 : List (List PV)) (b2 : List (List PV)) (y : Bool), sSameS a1 b2 = some y → ∃ n, ∀ (R : Type) (k : Bool → Option R), sameS_b n  a1 b2 k = k y) : Holds Tryd.prog G0 26 sameS_C := by
  refine fun_pat mixed tOk (ctrOf_ok hΓ) Tryd.func26 rfl rfl rfl rfl (F := funOf Tryd.f26) (normBy_ok sameS_cfg) (pat := sameS_pat) (L := sameS_L) (normJ_ok sameS_cfg) (on := sameS_on) (patj := sameS_patj) (J := sameS_J) (fun c hc ls R k => ?_) (fun c hc p hp m ls R k r h => ?_) (fun c hc p hp m ls R k r h => ?_) (fun ps x h => ?_)
  · rw [show (funOf Tryd.f26).code = bodyOf Tryd.f26 from rfl, sameS_loops] at hc
    simp only [List.mem_cons, List.not_mem_nil, or_false] at hc
    rcases hc with rfl
    · show sameS_L4 0 ls R k = none
      unfold sameS_L4
      split
      · rfl
      · rfl
  · rw [show (funOf Tryd.f26).code = bodyOf Tryd.f26 from rfl, sameS_loops] at hc
    simp only [List.mem_cons, List.not_mem_nil, or_false] at hc
    rcases hc with rfl
    · have hp' : p = ⟨sparse .undef [(0, (.val .fs)), (1, (.val .fs)), (5, (.val (.int .i64)))] 0 26, [], []⟩ := (Option.some.inj (hp : some _ = some p)).symm
      subst hp'
      change sameS_L4 (m + 1) ls R k = some r at h
      have h' := h
      unfold sameS_L4 at h'
      split at h'
      · exact (sameS_step4 m _ _ _ R k).trans h
      · cases h'
  · cases (List.mem_filter.1 hc).2
  · obtain ⟨y, hy, hx⟩ := bind_inv h
    cases hx
    obtain ⟨a1, b2, rfl⟩ := sameS_inv hy
    obtain ⟨n, hn⟩ := hok a1 b2 y hy
    exact ⟨n, (sameS_eq n a1 b2).trans (hn _ _)⟩

end
end Go.Proofs.YtkeklbicmfhemaaDoorV
