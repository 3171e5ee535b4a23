/- What the functions of the program come to, as the reading machine has it: printed by dec.py. -/
import Derived.Test.YtgpjnppakffoiaaVTab
import Derived.Test.YtgpjnppakffoiaaS19
import Derived.Test.YtgpjnppakffoiaaD01
namespace Go.Proofs.YtgpjnppakffoiaaV
open Go
set_option maxRecDepth 100000
noncomputable section
/-! ## drayman/frame.New -/
def frNew_b {R : Type} (k : List (List PV) → Option R) : Option R :=
  k []
def frNew_E (y : (List (List PV))) : PV × List PV := ((PV.obj [(PV.os y 1)]), [])
def frNew_d : Option ((List (List PV))) := frNew_b fun a0 => if (noMem (frNew_E a0).1 && noMemL (frNew_E a0).2) = true then some a0 else none
def frNew_D : List PV → Option ((List (List PV)))
  | [] => frNew_d
  | _ => none
def frNew_Γ : List (Nat × Ctr) := []
def frNew_C : Ctr := ⟨[], (List (List PV)), frNew_D, frNew_E, true, (.o [.s])⟩
theorem frNew_eq :
    funK T G0 (ctrOf frNew_Γ) (fun _ _ _ _ => none) (.o [.s]) true [] (funOf Try.f17) [] = frNew_b  (fun a0 => if (noMem (frNew_E a0).1 && noMemL (frNew_E a0).2) = true then some (frNew_E a0) else none) := by kernel_rfl
theorem frNew_inv {ps : List PV} {y : (List (List PV))} (h : frNew_D ps = some y) : ps = [] := by
  unfold frNew_D at h
  split at h
  · rfl
  · cases h
theorem frNew_nat {R : Type} (k : List (List PV) → Option R) : frNew_b k = Option.bind (frNew_b fun a0 => some a0) fun y => k y := by
  unfold frNew_b
  first | rfl | simp only [Option.bind_assoc, bind_cond, bind_ite, Option.bind_some, Option.bind_none]
theorem frNew_holds (hΓ : HoldsAll Try.prog G0 frNew_Γ) : Holds Try.prog G0 17 frNew_C := by
  refine fun_ok mixed tOk (ctrOf_ok hΓ) Try.func17 rfl rfl rfl rfl (F := funOf Try.f17) (fun ps x h => ?_)
  have hl : LoopsOk Try.prog G0 (fun _ _ _ _ => none) (loopsOf (funOf Try.f17).code) := fun c hc => (by rw [show loopsOf (funOf Try.f17).code = [] from by kernel_rfl] at hc; cases hc)
  obtain ⟨y, hy, hx⟩ := bind_inv h
  cases hx
  obtain rfl := frNew_inv hy
  have hy' : frNew_d = some y := hy
  refine ⟨fun _ _ _ _ => none, hl, (frNew_eq).trans ?_⟩
  unfold frNew_d at hy'
  rw [frNew_nat] at hy' ⊢
  obtain ⟨z, hz, hz'⟩ := bind_inv hy'
  rw [hz]
  try simp only at hz'
  split at hz'
  · rename_i hno
    cases hz'
    exact if_pos hno
  · cases hz'

/-! ## (*drayman/frame.Frame).Left -/
def frLeft_b {R : Type} (f1 : List (List PV)) (k : Int → Option R) : Option R :=
  k (f1.length : Int)
def frLeft_E (y : Int) : PV × List PV := ((PV.int .i64 y), [])
def frLeft_d (f1 : List (List PV)) : Option (Int) := frLeft_b f1 fun a0 => some a0
def frLeft_D : List PV → Option (Int)
  | [(PV.rp [(PV.fs f1)] 0)] => frLeft_d f1
  | _ => none
def frLeft_Γ : List (Nat × Ctr) := []
def frLeft_C : Ctr := ⟨[none], Int, frLeft_D, frLeft_E, true, .d⟩
theorem frLeft_eq (f1 : List (List PV)) :
    funK T G0 (ctrOf frLeft_Γ) (fun _ _ _ _ => none) .d true [none] (funOf Try.f19) [(PV.rp [(PV.fs f1)] 0)] = frLeft_b  f1 (fun a0 => some (frLeft_E a0)) := by kernel_rfl
theorem frLeft_inv {ps : List PV} {y : Int} (h : frLeft_D ps = some y) : ∃ (f1 : List (List PV)), ps = [(PV.rp [(PV.fs f1)] 0)] := by
  unfold frLeft_D at h
  split at h
  · exact ⟨_, rfl⟩
  · cases h
theorem frLeft_nat {R : Type} (f1 : List (List PV)) (k : Int → Option R) : frLeft_b f1 k = Option.bind (frLeft_b f1 fun a0 => some a0) fun y => k y := by
  unfold frLeft_b
  first | rfl | simp only [Option.bind_assoc, bind_cond, bind_ite, Option.bind_some, Option.bind_none]
theorem frLeft_holds (hΓ : HoldsAll Try.prog G0 frLeft_Γ) : Holds Try.prog G0 19 frLeft_C := by
  refine fun_ok mixed tOk (ctrOf_ok hΓ) Try.func19 rfl rfl rfl rfl (F := funOf Try.f19) (fun ps x h => ?_)
  have hl : LoopsOk Try.prog G0 (fun _ _ _ _ => none) (loopsOf (funOf Try.f19).code) := fun c hc => (by rw [show loopsOf (funOf Try.f19).code = [] from by kernel_rfl] at hc; cases hc)
  obtain ⟨y, hy, hx⟩ := bind_inv h
  cases hx
  obtain ⟨f1, rfl⟩ := frLeft_inv hy
  have hy' : frLeft_d f1 = some y := hy
  refine ⟨fun _ _ _ _ => none, hl, (frLeft_eq f1).trans ?_⟩
  unfold frLeft_d at hy'
  rw [frLeft_nat, hy']
  rfl

/-! ## (*drayman/frame.Frame).line -/
def frLine_b {R : Type} (f1 : List (List PV)) (k : ByteArray → Bool → Option R) : Option R :=
  cond (decide ((f1.length : Int) > (48 : Int))) (
    k (ByteArray.mk #[]) true) (
    if allLen 1 f1 = true then
      Option.bind (strOf f1) fun l2 =>
      k (ByteArray.mk (List.toArray l2)) false
    else none)
def frLine_E (y : ByteArray × Bool) : PV × List PV := ((PV.agg [(PV.str y.1), (PV.bool y.2)]), [])
def frLine_d (f1 : List (List PV)) : Option (ByteArray × Bool) := frLine_b f1 fun a0 a1 => some (a0, a1)
def frLine_D : List PV → Option (ByteArray × Bool)
  | [(PV.rp [(PV.fs f1)] 0)] => frLine_d f1
  | _ => none
def frLine_Γ : List (Nat × Ctr) := []
def frLine_C : Ctr := ⟨[none], ByteArray × Bool, frLine_D, frLine_E, true, .d⟩
theorem frLine_eq (f1 : List (List PV)) :
    funK T G0 (ctrOf frLine_Γ) (fun _ _ _ _ => none) .d true [none] (funOf Try.f33) [(PV.rp [(PV.fs f1)] 0)] = frLine_b  f1 (fun a0 a1 => some (frLine_E (a0, a1))) := by kernel_rfl
theorem frLine_inv {ps : List PV} {y : ByteArray × Bool} (h : frLine_D ps = some y) : ∃ (f1 : List (List PV)), ps = [(PV.rp [(PV.fs f1)] 0)] := by
  unfold frLine_D at h
  split at h
  · exact ⟨_, rfl⟩
  · cases h
theorem frLine_nat {R : Type} (f1 : List (List PV)) (k : ByteArray → Bool → Option R) : frLine_b f1 k = Option.bind (frLine_b f1 fun a0 a1 => some (a0, a1)) fun y => k y.1 y.2 := by
  unfold frLine_b
  first | rfl | simp only [Option.bind_assoc, bind_cond, bind_ite, Option.bind_some, Option.bind_none]
theorem frLine_holds (hΓ : HoldsAll Try.prog G0 frLine_Γ) : Holds Try.prog G0 33 frLine_C := by
  refine fun_ok mixed tOk (ctrOf_ok hΓ) Try.func33 rfl rfl rfl rfl (F := funOf Try.f33) (fun ps x h => ?_)
  have hl : LoopsOk Try.prog G0 (fun _ _ _ _ => none) (loopsOf (funOf Try.f33).code) := fun c hc => (by rw [show loopsOf (funOf Try.f33).code = [] from by kernel_rfl] at hc; cases hc)
  obtain ⟨y, hy, hx⟩ := bind_inv h
  cases hx
  obtain ⟨f1, rfl⟩ := frLine_inv hy
  have hy' : frLine_d f1 = some y := hy
  refine ⟨fun _ _ _ _ => none, hl, (frLine_eq f1).trans ?_⟩
  unfold frLine_d at hy'
  rw [frLine_nat, hy']
  rfl

/-! ## (*drayman/frame.Frame).Feed -/
def frFeed_l3 {R : Type} : Nat → List (List PV) → Int → Int → List (List PV) → List (List PV) → (List (List PV) → List (List PV) → Option R) → Option R
  | 0, _, _, _, _, _, _ => none
  | n + 1, es5, i6, i7, es8, es9, k0 =>
    cond (decide (i7 < i6)) (
      Option.bind (idx es5 i7) fun e10 =>
      if e10.length = 1 then
        Option.bind (e10[0]?) fun c11 =>
        Option.bind (PV.asI .u8 c11) fun n12 =>
        cond (n12 == (10 : Int)) (
          Option.bind (frLine_d es8) fun y13 =>
          if (es9.length + ([[(PV.str y13.1), (PV.bool y13.2)]] : List (List PV)).length) * 24 ≤ maxBytes then
            frFeed_l3 n es5 i6 (IntKind.i64.wrap (i7 + (1 : Int))) [] (es9 ++ [[(PV.str y13.1), (PV.bool y13.2)]]) k0
          else none) (
          cond (decide ((es8.length : Int) ≤ (48 : Int))) (
            if (es8.length + ([[(PV.int .u8 n12)]] : List (List PV)).length) * 1 ≤ maxBytes then
              frFeed_l3 n es5 i6 (IntKind.i64.wrap (i7 + (1 : Int))) (es8 ++ [[(PV.int .u8 n12)]]) es9 k0
            else none) (
            frFeed_l3 n es5 i6 (IntKind.i64.wrap (i7 + (1 : Int))) es8 es9 k0))
      else none) (
      k0 es8 es9)
def frFeed_b {R : Type} (n : Nat) (f1 : List (List PV)) (b2 : List (List PV)) (k : List (List PV) → List (List PV) → Option R) : Option R :=
  frFeed_l3 n b2 (b2.length : Int) 0 f1 []
    (fun (es3 : List (List PV)) (es4 : List (List PV)) =>
      k es4 es3)
def frFeed_E (y : (List (List PV)) × (List (List PV))) : PV × List PV := ((PV.os y.1 2), [(PV.obj [(PV.os y.2 1)])])
def frFeed_D : List PV → Option ((List (List PV)) × (List (List PV)))
  | [(PV.obj [(PV.os f1 1)]), (PV.fs b2)] => sFeed f1 b2
  | _ => none
def frFeed_Γ : List (Nat × Ctr) := [(33, frLine_C)]
def frFeed_C : Ctr := ⟨[some ((.o [.s]), true), none], (List (List PV)) × (List (List PV)), frFeed_D, frFeed_E, true, .s⟩
def frFeed_cfg : List (Nat × LC) := [(3, ⟨[0, 5, 8, 9, 10], [5], [], [(0, 0)]⟩),
  (1003000, ⟨[5], [], [], []⟩)]
def frFeed_pat : Nat → Option SP
  | 3 => some ⟨sparse .undef [(0, (.ref 0 0)), (5, (.ow 2)), (8, (.val .fs)), (9, (.val (.int .i64))), (10, (.val (.int .i64)))] 0 44, [(.box [(.ow 1)]), (.row 1), (.row 2)], [(.ref 0 0)]⟩
  | _ => none
def frFeed_L3 (n : Nat) (ls : List Leaf) (R : Type) (k : Ex → St → Option R) : Option R :=
  match ls with
  | [.rows es5, .int i6, .int i7, .rows es8, .rows es9] => frFeed_l3 n es5 i6 i7 es8 es9 (fun y1014 y1015 => k (.exit 0) ⟨sparse .undef [(5, (TV.ow 2))] 0 44, [(Ob.box [(TV.ow 1)]), (Ob.row y1014 1), (Ob.row y1015 2)], [(TV.ref 0 0)]⟩)
  | _ => none
def frFeed_L (n key : Nat) (ls : List Leaf) (R : Type) (k : Ex → St → Option R) : Option R :=
  match key with
  | 3 => frFeed_L3 n ls R k
  | _ => none
def frFeed_Λ : Nat → Loops := patL (normBy frFeed_cfg) frFeed_pat frFeed_L
theorem frFeed_step3 (n : Nat) (es5 : List (List PV)) (i6 : Int) (i7 : Int) (es8 : List (List PV)) (es9 : List (List PV))  (R : Type) (k : Ex → St → Option R) :
    roundK T G0 (ctrOf frFeed_Γ) (normBy frFeed_cfg) (frFeed_Λ n) (codeAt [1, 1, 0, 1, 0, 0] (bodyOf Try.f18)) (buildSt ⟨sparse .undef [(0, (.ref 0 0)), (5, (.ow 2)), (8, (.val .fs)), (9, (.val (.int .i64))), (10, (.val (.int .i64)))] 0 44, [(.box [(.ow 1)]), (.row 1), (.row 2)], [(.ref 0 0)]⟩ [.rows es5, .int i6, .int i7, .rows es8, .rows es9]) R k = frFeed_L3 (n + 1) [.rows es5, .int i6, .int i7, .rows es8, .rows es9] R k := by kernel_rfl
theorem frFeed_eq (n : Nat) (f1 : List (List PV)) (b2 : List (List PV)) :
    funK T G0 (ctrOf frFeed_Γ) (frFeed_Λ n) .s true [some ((.o [.s]), true), none] (funOf Try.f18) [(PV.obj [(PV.os f1 1)]), (PV.fs b2)] = frFeed_b n  f1 b2 (fun a0 a1 => if (noMem (frFeed_E (a0, a1)).1 && noMemL (frFeed_E (a0, a1)).2) = true then some (frFeed_E (a0, a1)) else none) := by kernel_rfl
theorem frFeed_inv {ps : List PV} {y : (List (List PV)) × (List (List PV))} (h : frFeed_D ps = some y) : ∃ (f1 : List (List PV)) (b2 : List (List PV)), ps = [(PV.obj [(PV.os f1 1)]), (PV.fs b2)] := by
  unfold frFeed_D at h
  split at h
  · exact ⟨_, _, rfl⟩
  · cases h
theorem frFeed_loops : loopsOf (bodyOf Try.f18) = [codeAt [1, 1, 0, 1, 0, 0] (bodyOf Try.f18)] := by kernel_rfl
theorem frFeed_holds (hΓ : HoldsAll Try.prog G0 frFeed_Γ) (hok : ∀ (f1 : List (List PV)) (b2 : List (List PV)) (y : (List (List PV)) × (List (List PV))), sFeed f1 b2 = some y → ∃ n, ∀ (R : Type) (k : List (List PV) → List (List PV) → Option R), frFeed_b n  f1 b2 k = k y.1 y.2) (hno : ∀ (f1 : List (List PV)) (b2 : List (List PV)) (y : (List (List PV)) × (List (List PV))), sFeed f1 b2 = some y → (noMem (frFeed_E y).1 && noMemL (frFeed_E y).2) = true) : Holds Try.prog G0 18 frFeed_C := by
  refine fun_pat mixed tOk (ctrOf_ok hΓ) Try.func18 rfl rfl rfl rfl (F := funOf Try.f18) (normBy_ok frFeed_cfg) (pat := frFeed_pat) (L := frFeed_L) (fun c hc ls R k => ?_) (fun c hc p hp m ls R k r h => ?_) (fun ps x h => ?_)
  · rw [show (funOf Try.f18).code = bodyOf Try.f18 from rfl, frFeed_loops] at hc
    simp only [List.mem_cons, List.not_mem_nil, or_false] at hc
    rcases hc with rfl
    · show frFeed_L3 0 ls R k = none
      unfold frFeed_L3
      split
      · rfl
      · rfl
  · rw [show (funOf Try.f18).code = bodyOf Try.f18 from rfl, frFeed_loops] at hc
    simp only [List.mem_cons, List.not_mem_nil, or_false] at hc
    rcases hc with rfl
    · have hp' : p = ⟨sparse .undef [(0, (.ref 0 0)), (5, (.ow 2)), (8, (.val .fs)), (9, (.val (.int .i64))), (10, (.val (.int .i64)))] 0 44, [(.box [(.ow 1)]), (.row 1), (.row 2)], [(.ref 0 0)]⟩ := (Option.some.inj (hp : some _ = some p)).symm
      subst hp'
      change frFeed_L3 (m + 1) ls R k = some r at h
      have h' := h
      unfold frFeed_L3 at h'
      split at h'
      · exact (frFeed_step3 m _ _ _ _ _ R k).trans h
      · cases h'
  · obtain ⟨y, hy, hx⟩ := bind_inv h
    cases hx
    obtain ⟨f1, b2, rfl⟩ := frFeed_inv hy
    obtain ⟨n, hn⟩ := hok f1 b2 y hy
    exact ⟨n, (frFeed_eq n f1 b2).trans ((hn _ _).trans (if_pos (hno f1 b2 y hy)))⟩

/-! ## drayman/draymankeep.Copy[byte] -/
def copyB_b {R : Type} (l1 : List (List PV)) (k : List (List PV) → Option R) : Option R :=
  if allLen 1 l1 = true then
    if (l1.length) * 1 ≤ maxBytes then
      k l1
    else none
  else none
def copyB_E (y : (List (List PV))) : PV × List PV := ((PV.os y 1), [])
def copyB_d (l1 : List (List PV)) : Option ((List (List PV))) := copyB_b l1 fun a0 => if (noMem (copyB_E a0).1 && noMemL (copyB_E a0).2) = true then some a0 else none
def copyB_D : List PV → Option ((List (List PV)))
  | [(PV.fs l1)] => copyB_d l1
  | _ => none
def copyB_Γ : List (Nat × Ctr) := []
def copyB_C : Ctr := ⟨[none], (List (List PV)), copyB_D, copyB_E, true, .s⟩
theorem copyB_eq (l1 : List (List PV)) :
    funK T G0 (ctrOf copyB_Γ) (fun _ _ _ _ => none) .s true [none] (funOf Try.f34) [(PV.fs l1)] = copyB_b  l1 (fun a0 => if (noMem (copyB_E a0).1 && noMemL (copyB_E a0).2) = true then some (copyB_E a0) else none) := by kernel_rfl
theorem copyB_inv {ps : List PV} {y : (List (List PV))} (h : copyB_D ps = some y) : ∃ (l1 : List (List PV)), ps = [(PV.fs l1)] := by
  unfold copyB_D at h
  split at h
  · exact ⟨_, rfl⟩
  · cases h
theorem copyB_nat {R : Type} (l1 : List (List PV)) (k : List (List PV) → Option R) : copyB_b l1 k = Option.bind (copyB_b l1 fun a0 => some a0) fun y => k y := by
  unfold copyB_b
  first | rfl | simp only [Option.bind_assoc, bind_cond, bind_ite, Option.bind_some, Option.bind_none]
theorem copyB_holds (hΓ : HoldsAll Try.prog G0 copyB_Γ) : Holds Try.prog G0 34 copyB_C := by
  refine fun_ok mixed tOk (ctrOf_ok hΓ) Try.func34 rfl rfl rfl rfl (F := funOf Try.f34) (fun ps x h => ?_)
  have hl : LoopsOk Try.prog G0 (fun _ _ _ _ => none) (loopsOf (funOf Try.f34).code) := fun c hc => (by rw [show loopsOf (funOf Try.f34).code = [] from by kernel_rfl] at hc; cases hc)
  obtain ⟨y, hy, hx⟩ := bind_inv h
  cases hx
  obtain ⟨l1, rfl⟩ := copyB_inv hy
  have hy' : copyB_d l1 = some y := hy
  refine ⟨fun _ _ _ _ => none, hl, (copyB_eq l1).trans ?_⟩
  unfold copyB_d at hy'
  rw [copyB_nat] at hy' ⊢
  obtain ⟨z, hz, hz'⟩ := bind_inv hy'
  rw [hz]
  try simp only at hz'
  split at hz'
  · rename_i hno
    cases hz'
    exact if_pos hno
  · cases hz'

/-! ## drayman/draymankeep.Cut[byte] -/
def cutB_b {R : Type} (l1 : List (List PV)) (n2 : Int) (k : List (List PV) → Option R) : Option R :=
  if (0 : Int) ≤ (0 : Int) ∧ (0 : Int) ≤ (if n2 < (l1.length : Int) then n2 else (l1.length : Int)) ∧ (if n2 < (l1.length : Int) then n2 else (l1.length : Int)) = (if n2 < (l1.length : Int) then n2 else (l1.length : Int)) ∧ (if n2 < (l1.length : Int) then n2 else (l1.length : Int)) ≤ (l1.length : Int) ∧ allLen 1 l1 = true then
    Option.bind (copyB_d ((l1.take (Int.toNat (if n2 < (l1.length : Int) then n2 else (l1.length : Int)))).drop 0)) fun y3 =>
    k y3
  else none
def cutB_E (y : (List (List PV))) : PV × List PV := ((PV.os y 1), [])
def cutB_d (l1 : List (List PV)) (n2 : Int) : Option ((List (List PV))) := cutB_b l1 n2 fun a0 => if (noMem (cutB_E a0).1 && noMemL (cutB_E a0).2) = true then some a0 else none
def cutB_D : List PV → Option ((List (List PV)))
  | [(PV.fs l1), (PV.int .i64 n2)] => cutB_d l1 n2
  | _ => none
def cutB_Γ : List (Nat × Ctr) := [(34, copyB_C)]
def cutB_C : Ctr := ⟨[none, none], (List (List PV)), cutB_D, cutB_E, true, .s⟩
theorem cutB_eq (l1 : List (List PV)) (n2 : Int) :
    funK T G0 (ctrOf cutB_Γ) (fun _ _ _ _ => none) .s true [none, none] (funOf Try.f21) [(PV.fs l1), (PV.int .i64 n2)] = cutB_b  l1 n2 (fun a0 => if (noMem (cutB_E a0).1 && noMemL (cutB_E a0).2) = true then some (cutB_E a0) else none) := by kernel_rfl
theorem cutB_inv {ps : List PV} {y : (List (List PV))} (h : cutB_D ps = some y) : ∃ (l1 : List (List PV)) (n2 : Int), ps = [(PV.fs l1), (PV.int .i64 n2)] := by
  unfold cutB_D at h
  split at h
  · exact ⟨_, _, rfl⟩
  · cases h
theorem cutB_nat {R : Type} (l1 : List (List PV)) (n2 : Int) (k : List (List PV) → Option R) : cutB_b l1 n2 k = Option.bind (cutB_b l1 n2 fun a0 => some a0) fun y => k y := by
  unfold cutB_b
  first | rfl | simp only [Option.bind_assoc, bind_cond, bind_ite, Option.bind_some, Option.bind_none]
theorem cutB_holds (hΓ : HoldsAll Try.prog G0 cutB_Γ) : Holds Try.prog G0 21 cutB_C := by
  refine fun_ok mixed tOk (ctrOf_ok hΓ) Try.func21 rfl rfl rfl rfl (F := funOf Try.f21) (fun ps x h => ?_)
  have hl : LoopsOk Try.prog G0 (fun _ _ _ _ => none) (loopsOf (funOf Try.f21).code) := fun c hc => (by rw [show loopsOf (funOf Try.f21).code = [] from by kernel_rfl] at hc; cases hc)
  obtain ⟨y, hy, hx⟩ := bind_inv h
  cases hx
  obtain ⟨l1, n2, rfl⟩ := cutB_inv hy
  have hy' : cutB_d l1 n2 = some y := hy
  refine ⟨fun _ _ _ _ => none, hl, (cutB_eq l1 n2).trans ?_⟩
  unfold cutB_d at hy'
  rw [cutB_nat] at hy' ⊢
  obtain ⟨z, hz, hz'⟩ := bind_inv hy'
  rw [hz]
  try simp only at hz'
  split at hz'
  · rename_i hno
    cases hz'
    exact if_pos hno
  · cases hz'

/-! ## drayman/draymankeep.Same[drayman/frame.Line] -/
def sameL_l4 {R : Type} : Nat → List (List PV) → List (List PV) → Int → (Bool → Option R) → (Unit → Option R) → Option R
  | 0, _, _, _, _, _ => none
  | n + 1, a4, b5, i6, k0, k1 =>
    cond (decide (i6 < (a4.length : Int))) (
      Option.bind (idx a4 i6) fun e7 =>
      if e7.length = 2 then
        Option.bind (idx b5 i6) fun e8 =>
        if e8.length = 2 then
          meet (
            Option.bind (subAgg e7 0 2) fun p9 =>
            Option.bind (subAgg e8 0 2) fun p10 =>
            Option.bind (PV.asAgg p9) fun cs11 =>
            Option.bind (PV.asAgg p10) fun cs12 =>
            Option.bind (eqvs T [(9, 0), (4, 1)] cs11 cs12) fun b13 =>
            cond (!b13) (
              k0 false) (
              sameL_l4 n a4 b5 (IntKind.i64.wrap (i6 + (1 : Int))) k0 k1)) (
            Option.bind (subAgg e8 0 2) fun p14 =>
            Option.bind (subAgg e7 0 2) fun p15 =>
            Option.bind (PV.asAgg p15) fun cs16 =>
            Option.bind (PV.asAgg p14) fun cs17 =>
            Option.bind (eqvs T [(9, 0), (4, 1)] cs16 cs17) fun b18 =>
            cond (!b18) (
              k0 false) (
              sameL_l4 n a4 b5 (IntKind.i64.wrap (i6 + (1 : Int))) k0 k1))
        else none
      else none) (
      k1 ())
def sameL_b {R : Type} (n : Nat) (a1 : List (List PV)) (b2 : List (List PV)) (k : Bool → Option R) : Option R :=
  cond ((a1.length : Int) != (b2.length : Int)) (
    k false) (
    sameL_l4 n a1 b2 0
      (fun (b3 : Bool) =>
        k b3)
      (fun (_ : Unit) =>
        k true))
def sameL_E (y : Bool) : PV × List PV := ((PV.bool y), [])
def sameL_D : List PV → Option (Bool)
  | [(PV.fs a1), (PV.fs b2)] => sSameL a1 b2
  | _ => none
def sameL_Γ : List (Nat × Ctr) := []
def sameL_C : Ctr := ⟨[none, none], Bool, sameL_D, sameL_E, true, .d⟩
def sameL_cfg : List (Nat × LC) := [(4, ⟨[0, 1, 5], [], [], []⟩),
  (2000004, ⟨[4], [], [], []⟩),
  (1004000, ⟨[], [], [], []⟩)]
def sameL_pat : Nat → Option SP
  | 4 => some ⟨sparse .undef [(0, (.val .fs)), (1, (.val .fs)), (5, (.val (.int .i64)))] 0 26, [], []⟩
  | _ => none
def sameL_L4 (n : Nat) (ls : List Leaf) (R : Type) (k : Ex → St → Option R) : Option R :=
  match ls with
  | [.rows a4, .rows b5, .int i6] => sameL_l4 n a4 b5 i6 (fun y1019 => k .ret ⟨sparse .undef [(4, (TV.val (PV.bool y1019)))] 0 26, [], []⟩)
      (fun _ => k (.exit 0) ⟨sparse .undef [] 0 26, [], []⟩)
  | _ => none
def sameL_L (n key : Nat) (ls : List Leaf) (R : Type) (k : Ex → St → Option R) : Option R :=
  match key with
  | 4 => sameL_L4 n ls R k
  | _ => none
def sameL_Λ : Nat → Loops := patL (normBy sameL_cfg) sameL_pat sameL_L
theorem sameL_step4 (n : Nat) (a4 : List (List PV)) (b5 : List (List PV)) (i6 : Int)  (R : Type) (k : Ex → St → Option R) :
    roundK T G0 (ctrOf sameL_Γ) (normBy sameL_cfg) (sameL_Λ n) (codeAt [1, 1, 0, 1, 0, 0] (bodyOf Try.f23)) (buildSt ⟨sparse .undef [(0, (.val .fs)), (1, (.val .fs)), (5, (.val (.int .i64)))] 0 26, [], []⟩ [.rows a4, .rows b5, .int i6]) R k = sameL_L4 (n + 1) [.rows a4, .rows b5, .int i6] R k := by kernel_rfl
theorem sameL_eq (n : Nat) (a1 : List (List PV)) (b2 : List (List PV)) :
    funK T G0 (ctrOf sameL_Γ) (sameL_Λ n) .d true [none, none] (funOf Try.f23) [(PV.fs a1), (PV.fs b2)] = sameL_b n  a1 b2 (fun a0 => some (sameL_E a0)) := by kernel_rfl
theorem sameL_inv {ps : List PV} {y : Bool} (h : sameL_D ps = some y) : ∃ (a1 : List (List PV)) (b2 : List (List PV)), ps = [(PV.fs a1), (PV.fs b2)] := by
  unfold sameL_D at h
  split at h
  · exact ⟨_, _, rfl⟩
  · cases h
theorem sameL_loops : loopsOf (bodyOf Try.f23) = [codeAt [1, 1, 0, 1, 0, 0] (bodyOf Try.f23)] := by kernel_rfl
theorem sameL_holds (hΓ : HoldsAll Try.prog G0 sameL_Γ) (hok : ∀ (a1 : List (List PV)) (b2 : List (List PV)) (y : Bool), sSameL a1 b2 = some y → ∃ n, ∀ (R : Type) (k : Bool → Option R), sameL_b n  a1 b2 k = k y) : Holds Try.prog G0 23 sameL_C := by
  refine fun_pat mixed tOk (ctrOf_ok hΓ) Try.func23 rfl rfl rfl rfl (F := funOf Try.f23) (normBy_ok sameL_cfg) (pat := sameL_pat) (L := sameL_L) (fun c hc ls R k => ?_) (fun c hc p hp m ls R k r h => ?_) (fun ps x h => ?_)
  · rw [show (funOf Try.f23).code = bodyOf Try.f23 from rfl, sameL_loops] at hc
    simp only [List.mem_cons, List.not_mem_nil, or_false] at hc
    rcases hc with rfl
    · show sameL_L4 0 ls R k = none
      unfold sameL_L4
      split
      · rfl
      · rfl
  · rw [show (funOf Try.f23).code = bodyOf Try.f23 from rfl, sameL_loops] at hc
    simp only [List.mem_cons, List.not_mem_nil, or_false] at hc
    rcases hc with rfl
    · have hp' : p = ⟨sparse .undef [(0, (.val .fs)), (1, (.val .fs)), (5, (.val (.int .i64)))] 0 26, [], []⟩ := (Option.some.inj (hp : some _ = some p)).symm
      subst hp'
      change sameL_L4 (m + 1) ls R k = some r at h
      have h' := h
      unfold sameL_L4 at h'
      split at h'
      · exact (sameL_step4 m _ _ _ R k).trans h
      · cases h'
  · obtain ⟨y, hy, hx⟩ := bind_inv h
    cases hx
    obtain ⟨a1, b2, rfl⟩ := sameL_inv hy
    obtain ⟨n, hn⟩ := hok a1 b2 y hy
    exact ⟨n, (sameL_eq n a1 b2).trans (hn _ _)⟩

/-! ## drayman/draymanlaw19.wakes -/
def wakes19_b {R : Type} (k : Bool → Option R) : Option R :=
  Option.bind (frNew_d) fun y1 =>
  Option.bind (sFeed y1 [[(PV.int .u8 97)], [(PV.int .u8 10)]]) fun y2 =>
  Option.bind (sSameL y2.1 [[(PV.str (ByteArray.mk #[97])), (PV.bool false)]]) fun y3 =>
  cond y3 (
    Option.bind (frLeft_d y2.2) fun y4 =>
    k (y4 == (0 : Int))) (
    k false)
def wakes19_E (y : Bool) : PV × List PV := ((PV.bool y), [])
def wakes19_d : Option (Bool) := wakes19_b fun a0 => some a0
def wakes19_D : List PV → Option (Bool)
  | [] => wakes19_d
  | _ => none
def wakes19_Γ : List (Nat × Ctr) := [(17, frNew_C), (18, frFeed_C), (23, sameL_C), (19, frLeft_C)]
def wakes19_C : Ctr := ⟨[], Bool, wakes19_D, wakes19_E, true, .d⟩
theorem wakes19_eq :
    funK T G0 (ctrOf wakes19_Γ) (fun _ _ _ _ => none) .d true [] (funOf Try.f20) [] = wakes19_b  (fun a0 => some (wakes19_E a0)) := by kernel_rfl
theorem wakes19_inv {ps : List PV} {y : Bool} (h : wakes19_D ps = some y) : ps = [] := by
  unfold wakes19_D at h
  split at h
  · rfl
  · cases h
theorem wakes19_nat {R : Type} (k : Bool → Option R) : wakes19_b k = Option.bind (wakes19_b fun a0 => some a0) fun y => k y := by
  unfold wakes19_b
  first | rfl | simp only [Option.bind_assoc, bind_cond, bind_ite, Option.bind_some, Option.bind_none]
theorem wakes19_holds (hΓ : HoldsAll Try.prog G0 wakes19_Γ) : Holds Try.prog G0 20 wakes19_C := by
  refine fun_ok mixed tOk (ctrOf_ok hΓ) Try.func20 rfl rfl rfl rfl (F := funOf Try.f20) (fun ps x h => ?_)
  have hl : LoopsOk Try.prog G0 (fun _ _ _ _ => none) (loopsOf (funOf Try.f20).code) := fun c hc => (by rw [show loopsOf (funOf Try.f20).code = [] from by kernel_rfl] at hc; cases hc)
  obtain ⟨y, hy, hx⟩ := bind_inv h
  cases hx
  obtain rfl := wakes19_inv hy
  have hy' : wakes19_d = some y := hy
  refine ⟨fun _ _ _ _ => none, hl, (wakes19_eq).trans ?_⟩
  unfold wakes19_d at hy'
  rw [wakes19_nat, hy']
  rfl

/-! ## drayman/draymanlaw19.Lines -/
def linesOf_l4 {R : Type} : Nat → List (List PV) → Int → List (List PV) → Int → Int → List (List PV) → (List (List PV) → Int → List (List PV) → Option R) → Option R
  | 0, _, _, _, _, _, _, _ => none
  | n + 1, b5, from6, es7, i8, i9, es10, k0 =>
    cond (decide (i9 < i8)) (
      Option.bind (idx es7 i9) fun e11 =>
      if e11.length = 1 then
        Option.bind (e11[0]?) fun c12 =>
        Option.bind (PV.asI .u8 c12) fun n13 =>
        cond (n13 != (10 : Int)) (
          linesOf_l4 n b5 from6 es7 i8 (IntKind.i64.wrap (i9 + (1 : Int))) es10 k0) (
          if (0 : Int) ≤ from6 ∧ from6 ≤ i9 ∧ i9 = i9 ∧ i9 ≤ (b5.length : Int) ∧ allLen 1 b5 = true then
            if allLen 1 ((b5.take (Int.toNat i9)).drop (Int.toNat from6)) = true then
              Option.bind (strOf ((b5.take (Int.toNat i9)).drop (Int.toNat from6))) fun l14 =>
              cond (decide ((IntKind.i64.wrap (i9 - from6)) > (48 : Int))) (
                if (es10.length + ([[(PV.str (ByteArray.mk #[])), (PV.bool true)]] : List (List PV)).length) * 24 ≤ maxBytes then
                  linesOf_l4 n b5 (IntKind.i64.wrap (i9 + (1 : Int))) es7 i8 (IntKind.i64.wrap (i9 + (1 : Int))) (es10 ++ [[(PV.str (ByteArray.mk #[])), (PV.bool true)]]) k0
                else none) (
                if (es10.length + ([[(PV.str (ByteArray.mk (List.toArray l14))), (PV.bool false)]] : List (List PV)).length) * 24 ≤ maxBytes then
                  linesOf_l4 n b5 (IntKind.i64.wrap (i9 + (1 : Int))) es7 i8 (IntKind.i64.wrap (i9 + (1 : Int))) (es10 ++ [[(PV.str (ByteArray.mk (List.toArray l14))), (PV.bool false)]]) k0
                else none)
            else none
          else none)
      else none) (
      k0 b5 from6 es10)
def linesOf_b {R : Type} (n : Nat) (b1 : List (List PV)) (k : List (List PV) → Int → Option R) : Option R :=
  linesOf_l4 n b1 0 b1 (b1.length : Int) 0 []
    (fun (b2 : List (List PV)) (from3 : Int) (es4 : List (List PV)) =>
      k es4 (if (49 : Int) < (IntKind.i64.wrap ((b2.length : Int) - from3)) then (49 : Int) else (IntKind.i64.wrap ((b2.length : Int) - from3))))
def linesOf_E (y : (List (List PV)) × Int) : PV × List PV := ((PV.tuple [(PV.os y.1 2), (PV.int .i64 y.2)]), [])
def linesOf_D : List PV → Option ((List (List PV)) × Int)
  | [(PV.fs b1)] => sLines b1
  | _ => none
def linesOf_Γ : List (Nat × Ctr) := []
def linesOf_C : Ctr := ⟨[none], (List (List PV)) × Int, linesOf_D, linesOf_E, true, (.t [.s, .d])⟩
def linesOf_cfg : List (Nat × LC) := [(4, ⟨[0, 4, 5, 9, 10, 11], [4], [], []⟩),
  (1004000, ⟨[0, 4, 5], [], [], []⟩)]
def linesOf_pat : Nat → Option SP
  | 4 => some ⟨sparse .undef [(0, (.val .fs)), (4, (.ow 0)), (5, (.val (.int .i64))), (9, (.val .fs)), (10, (.val (.int .i64))), (11, (.val (.int .i64)))] 0 42, [(.row 2)], []⟩
  | _ => none
def linesOf_L4 (n : Nat) (ls : List Leaf) (R : Type) (k : Ex → St → Option R) : Option R :=
  match ls with
  | [.rows b5, .int from6, .rows es7, .int i8, .int i9, .rows es10] => linesOf_l4 n b5 from6 es7 i8 i9 es10 (fun y1015 y1016 y1017 => k (.exit 0) ⟨sparse .undef [(0, (TV.val (PV.fs y1015))), (4, (TV.ow 0)), (5, (TV.val (PV.int .i64 y1016)))] 0 42, [(Ob.row y1017 2)], []⟩)
  | _ => none
def linesOf_L (n key : Nat) (ls : List Leaf) (R : Type) (k : Ex → St → Option R) : Option R :=
  match key with
  | 4 => linesOf_L4 n ls R k
  | _ => none
def linesOf_Λ : Nat → Loops := patL (normBy linesOf_cfg) linesOf_pat linesOf_L
theorem linesOf_step4 (n : Nat) (b5 : List (List PV)) (from6 : Int) (es7 : List (List PV)) (i8 : Int) (i9 : Int) (es10 : List (List PV))  (R : Type) (k : Ex → St → Option R) :
    roundK T G0 (ctrOf linesOf_Γ) (normBy linesOf_cfg) (linesOf_Λ n) (codeAt [1, 1, 1, 0, 1, 0, 0] (bodyOf Try.f24)) (buildSt ⟨sparse .undef [(0, (.val .fs)), (4, (.ow 0)), (5, (.val (.int .i64))), (9, (.val .fs)), (10, (.val (.int .i64))), (11, (.val (.int .i64)))] 0 42, [(.row 2)], []⟩ [.rows b5, .int from6, .rows es7, .int i8, .int i9, .rows es10]) R k = linesOf_L4 (n + 1) [.rows b5, .int from6, .rows es7, .int i8, .int i9, .rows es10] R k := by kernel_rfl
theorem linesOf_eq (n : Nat) (b1 : List (List PV)) :
    funK T G0 (ctrOf linesOf_Γ) (linesOf_Λ n) (.t [.s, .d]) true [none] (funOf Try.f24) [(PV.fs b1)] = linesOf_b n  b1 (fun a0 a1 => if (noMem (linesOf_E (a0, a1)).1 && noMemL (linesOf_E (a0, a1)).2) = true then some (linesOf_E (a0, a1)) else none) := by kernel_rfl
theorem linesOf_inv {ps : List PV} {y : (List (List PV)) × Int} (h : linesOf_D ps = some y) : ∃ (b1 : List (List PV)), ps = [(PV.fs b1)] := by
  unfold linesOf_D at h
  split at h
  · exact ⟨_, rfl⟩
  · cases h
theorem linesOf_loops : loopsOf (bodyOf Try.f24) = [codeAt [1, 1, 1, 0, 1, 0, 0] (bodyOf Try.f24)] := by kernel_rfl
theorem linesOf_holds (hΓ : HoldsAll Try.prog G0 linesOf_Γ) (hok : ∀ (b1 : List (List PV)) (y : (List (List PV)) × Int), sLines b1 = some y → ∃ n, ∀ (R : Type) (k : List (List PV) → Int → Option R), linesOf_b n  b1 k = k y.1 y.2) (hno : ∀ (b1 : List (List PV)) (y : (List (List PV)) × Int), sLines b1 = some y → (noMem (linesOf_E y).1 && noMemL (linesOf_E y).2) = true) : Holds Try.prog G0 24 linesOf_C := by
  refine fun_pat mixed tOk (ctrOf_ok hΓ) Try.func24 rfl rfl rfl rfl (F := funOf Try.f24) (normBy_ok linesOf_cfg) (pat := linesOf_pat) (L := linesOf_L) (fun c hc ls R k => ?_) (fun c hc p hp m ls R k r h => ?_) (fun ps x h => ?_)
  · rw [show (funOf Try.f24).code = bodyOf Try.f24 from rfl, linesOf_loops] at hc
    simp only [List.mem_cons, List.not_mem_nil, or_false] at hc
    rcases hc with rfl
    · show linesOf_L4 0 ls R k = none
      unfold linesOf_L4
      split
      · rfl
      · rfl
  · rw [show (funOf Try.f24).code = bodyOf Try.f24 from rfl, linesOf_loops] at hc
    simp only [List.mem_cons, List.not_mem_nil, or_false] at hc
    rcases hc with rfl
    · have hp' : p = ⟨sparse .undef [(0, (.val .fs)), (4, (.ow 0)), (5, (.val (.int .i64))), (9, (.val .fs)), (10, (.val (.int .i64))), (11, (.val (.int .i64)))] 0 42, [(.row 2)], []⟩ := (Option.some.inj (hp : some _ = some p)).symm
      subst hp'
      change linesOf_L4 (m + 1) ls R k = some r at h
      have h' := h
      unfold linesOf_L4 at h'
      split at h'
      · exact (linesOf_step4 m _ _ _ _ _ _ R k).trans h
      · cases h'
  · obtain ⟨y, hy, hx⟩ := bind_inv h
    cases hx
    obtain ⟨b1, rfl⟩ := linesOf_inv hy
    obtain ⟨n, hn⟩ := hok b1 y hy
    exact ⟨n, (linesOf_eq n b1).trans ((hn _ _).trans (if_pos (hno b1 y hy)))⟩

/-! ## drayman/draymanlaw19.Bytes -/
def bytesL_l7 {R : Type} : Nat → List (List PV) → List (List PV) → Int → Int → List (List PV) → (List (List PV) → List (List PV) → Int → List (List PV) → Option R) → Option R
  | 0, _, _, _, _, _, _ => none
  | n + 1, l16, raw17, i18, j19, es20, k0 =>
    Option.bind (idx l16 i18) fun e21 =>
    if e21.length = 1 then
      Option.bind (e21[0]?) fun c22 =>
      Option.bind (PV.asI .i64 c22) fun n23 =>
      Option.bind (within_d (IntKind.i64.wrap (Int.tdiv n23 (5 : Int))) 30) fun y24 =>
      cond (decide (j19 < y24)) (
        if (es20.length + ([[(PV.int .u8 (IntKind.u8.wrap (IntKind.i64.wrap ((97 : Int) + j19))))]] : List (List PV)).length) * 1 ≤ maxBytes then
          bytesL_l7 n l16 raw17 i18 (IntKind.i64.wrap (j19 + (1 : Int))) (es20 ++ [[(PV.int .u8 (IntKind.u8.wrap (IntKind.i64.wrap ((97 : Int) + j19))))]]) k0
        else none) (
        k0 l16 raw17 i18 es20)
    else none
def bytesL_l3 {R : Type} : Nat → List (List PV) → List (List PV) → Int → List (List PV) → (List (List PV) → Option R) → Option R
  | 0, _, _, _, _, _ => none
  | n + 1, l4, raw5, i6, es7, k0 =>
    cond (decide (i6 < (l4.length : Int))) (
      cond (decide (i6 < (40 : Int))) (
        Option.bind (idx l4 i6) fun e8 =>
        if e8.length = 1 then
          Option.bind (e8[0]?) fun c9 =>
          Option.bind (PV.asI .i64 c9) fun n10 =>
          Option.bind (within_d n10 5) fun y11 =>
          cond (y11 == (0 : Int)) (
            if (es7.length + ([[(PV.int .u8 10)]] : List (List PV)).length) * 1 ≤ maxBytes then
              bytesL_l3 n l4 raw5 (IntKind.i64.wrap (i6 + (1 : Int))) (es7 ++ [[(PV.int .u8 10)]]) k0
            else none) (
            cond (y11 == (1 : Int)) (
              if allLen 1 raw5 = true then
                if (es7.length + raw5.length) * 1 ≤ maxBytes then
                  bytesL_l3 n l4 raw5 (IntKind.i64.wrap (i6 + (1 : Int))) (es7 ++ raw5) k0
                else none
              else none) (
              bytesL_l7 n l4 raw5 i6 0 es7
                (fun (l12 : List (List PV)) (raw13 : List (List PV)) (i14 : Int) (es15 : List (List PV)) =>
                  bytesL_l3 n l12 raw13 (IntKind.i64.wrap (i14 + (1 : Int))) es15 k0)))
        else none) (
        k0 es7)) (
      k0 es7)
def bytesL_b {R : Type} (n : Nat) (l1 : List (List PV)) (raw2 : List (List PV)) (k : List (List PV) → Option R) : Option R :=
  bytesL_l3 n l1 raw2 0 []
    (fun (es3 : List (List PV)) =>
      k es3)
def bytesL_E (y : (List (List PV))) : PV × List PV := ((PV.os y 1), [])
def bytesL_D : List PV → Option ((List (List PV)))
  | [(PV.fs l1), (PV.fs raw2)] => sBytesL l1 raw2
  | _ => none
def bytesL_Γ : List (Nat × Ctr) := [(14, within_C)]
def bytesL_C : Ctr := ⟨[none, none], (List (List PV)), bytesL_D, bytesL_E, true, .s⟩
def bytesL_cfg : List (Nat × LC) := [(3, ⟨[0, 1, 5, 6], [5], [], []⟩),
  (7, ⟨[0, 1, 5, 6, 7], [], [], []⟩),
  (1003000, ⟨[5], [], [], []⟩),
  (1007003, ⟨[0, 1, 5, 6], [], [], []⟩)]
def bytesL_pat : Nat → Option SP
  | 7 => some ⟨sparse .undef [(0, (.val .fs)), (1, (.val .fs)), (5, (.ow 0)), (6, (.val (.int .i64))), (7, (.val (.int .i64)))] 0 50, [(.row 1)], []⟩
  | 3 => some ⟨sparse .undef [(0, (.val .fs)), (1, (.val .fs)), (5, (.ow 0)), (6, (.val (.int .i64)))] 0 50, [(.row 1)], []⟩
  | _ => none
def bytesL_L7 (n : Nat) (ls : List Leaf) (R : Type) (k : Ex → St → Option R) : Option R :=
  match ls with
  | [.rows l16, .rows raw17, .int i18, .int j19, .rows es20] => bytesL_l7 n l16 raw17 i18 j19 es20 (fun y1025 y1026 y1027 y1028 => k (.exit 3) ⟨sparse .undef [(0, (TV.val (PV.fs y1025))), (1, (TV.val (PV.fs y1026))), (5, (TV.ow 0)), (6, (TV.val (PV.int .i64 y1027)))] 0 50, [(Ob.row y1028 1)], []⟩)
  | _ => none
def bytesL_L3 (n : Nat) (ls : List Leaf) (R : Type) (k : Ex → St → Option R) : Option R :=
  match ls with
  | [.rows l4, .rows raw5, .int i6, .rows es7] => bytesL_l3 n l4 raw5 i6 es7 (fun y2029 => k (.exit 0) ⟨sparse .undef [(5, (TV.ow 0))] 0 50, [(Ob.row y2029 1)], []⟩)
  | _ => none
def bytesL_L (n key : Nat) (ls : List Leaf) (R : Type) (k : Ex → St → Option R) : Option R :=
  match key with
  | 7 => bytesL_L7 n ls R k
  | 3 => bytesL_L3 n ls R k
  | _ => none
def bytesL_Λ : Nat → Loops := patL (normBy bytesL_cfg) bytesL_pat bytesL_L
theorem bytesL_step3 (n : Nat) (l4 : List (List PV)) (raw5 : List (List PV)) (i6 : Int) (es7 : List (List PV))  (R : Type) (k : Ex → St → Option R) :
    roundK T G0 (ctrOf bytesL_Γ) (normBy bytesL_cfg) (bytesL_Λ n) (codeAt [1, 1, 0, 1, 0, 0] (bodyOf Try.f22)) (buildSt ⟨sparse .undef [(0, (.val .fs)), (1, (.val .fs)), (5, (.ow 0)), (6, (.val (.int .i64)))] 0 50, [(.row 1)], []⟩ [.rows l4, .rows raw5, .int i6, .rows es7]) R k = bytesL_L3 (n + 1) [.rows l4, .rows raw5, .int i6, .rows es7] R k := by kernel_rfl
theorem bytesL_step7 (n : Nat) (l16 : List (List PV)) (raw17 : List (List PV)) (i18 : Int) (j19 : Int) (es20 : List (List PV))  (R : Type) (k : Ex → St → Option R) :
    roundK T G0 (ctrOf bytesL_Γ) (normBy bytesL_cfg) (bytesL_Λ n) (codeAt [1, 1, 0, 1, 0, 0, 1, 0, 0, 1, 0, 1, 1, 1, 1, 1, 0, 0] (bodyOf Try.f22)) (buildSt ⟨sparse .undef [(0, (.val .fs)), (1, (.val .fs)), (5, (.ow 0)), (6, (.val (.int .i64))), (7, (.val (.int .i64)))] 0 50, [(.row 1)], []⟩ [.rows l16, .rows raw17, .int i18, .int j19, .rows es20]) R k = bytesL_L7 (n + 1) [.rows l16, .rows raw17, .int i18, .int j19, .rows es20] R k := by kernel_rfl
theorem bytesL_eq (n : Nat) (l1 : List (List PV)) (raw2 : List (List PV)) :
    funK T G0 (ctrOf bytesL_Γ) (bytesL_Λ n) .s true [none, none] (funOf Try.f22) [(PV.fs l1), (PV.fs raw2)] = bytesL_b n  l1 raw2 (fun a0 => if (noMem (bytesL_E a0).1 && noMemL (bytesL_E a0).2) = true then some (bytesL_E a0) else none) := by kernel_rfl
theorem bytesL_inv {ps : List PV} {y : (List (List PV))} (h : bytesL_D ps = some y) : ∃ (l1 : List (List PV)) (raw2 : List (List PV)), ps = [(PV.fs l1), (PV.fs raw2)] := by
  unfold bytesL_D at h
  split at h
  · exact ⟨_, _, rfl⟩
  · cases h
theorem bytesL_loops : loopsOf (bodyOf Try.f22) = [codeAt [1, 1, 0, 1, 0, 0] (bodyOf Try.f22), codeAt [1, 1, 0, 1, 0, 0, 1, 0, 0, 1, 0, 1, 1, 1, 1, 1, 0, 0] (bodyOf Try.f22)] := by kernel_rfl
theorem bytesL_holds (hΓ : HoldsAll Try.prog G0 bytesL_Γ) (hok : ∀ (l1 : List (List PV)) (raw2 : List (List PV)) (y : (List (List PV))), sBytesL l1 raw2 = some y → ∃ n, ∀ (R : Type) (k : List (List PV) → Option R), bytesL_b n  l1 raw2 k = k y) (hno : ∀ (l1 : List (List PV)) (raw2 : List (List PV)) (y : (List (List PV))), sBytesL l1 raw2 = some y → (noMem (bytesL_E y).1 && noMemL (bytesL_E y).2) = true) : Holds Try.prog G0 22 bytesL_C := by
  refine fun_pat mixed tOk (ctrOf_ok hΓ) Try.func22 rfl rfl rfl rfl (F := funOf Try.f22) (normBy_ok bytesL_cfg) (pat := bytesL_pat) (L := bytesL_L) (fun c hc ls R k => ?_) (fun c hc p hp m ls R k r h => ?_) (fun ps x h => ?_)
  · rw [show (funOf Try.f22).code = bodyOf Try.f22 from rfl, bytesL_loops] at hc
    simp only [List.mem_cons, List.not_mem_nil, or_false] at hc
    rcases hc with rfl | rfl
    · show bytesL_L3 0 ls R k = none
      unfold bytesL_L3
      split
      · rfl
      · rfl
    · show bytesL_L7 0 ls R k = none
      unfold bytesL_L7
      split
      · rfl
      · rfl
  · rw [show (funOf Try.f22).code = bodyOf Try.f22 from rfl, bytesL_loops] at hc
    simp only [List.mem_cons, List.not_mem_nil, or_false] at hc
    rcases hc with rfl | rfl
    · have hp' : p = ⟨sparse .undef [(0, (.val .fs)), (1, (.val .fs)), (5, (.ow 0)), (6, (.val (.int .i64)))] 0 50, [(.row 1)], []⟩ := (Option.some.inj (hp : some _ = some p)).symm
      subst hp'
      change bytesL_L3 (m + 1) ls R k = some r at h
      have h' := h
      unfold bytesL_L3 at h'
      split at h'
      · exact (bytesL_step3 m _ _ _ _ R k).trans h
      · cases h'
    · have hp' : p = ⟨sparse .undef [(0, (.val .fs)), (1, (.val .fs)), (5, (.ow 0)), (6, (.val (.int .i64))), (7, (.val (.int .i64)))] 0 50, [(.row 1)], []⟩ := (Option.some.inj (hp : some _ = some p)).symm
      subst hp'
      change bytesL_L7 (m + 1) ls R k = some r at h
      have h' := h
      unfold bytesL_L7 at h'
      split at h'
      · exact (bytesL_step7 m _ _ _ _ _ R k).trans h
      · cases h'
  · obtain ⟨y, hy, hx⟩ := bind_inv h
    cases hx
    obtain ⟨l1, raw2, rfl⟩ := bytesL_inv hy
    obtain ⟨n, hn⟩ := hok l1 raw2 y hy
    exact ⟨n, (bytesL_eq n l1 raw2).trans ((hn _ _).trans (if_pos (hno l1 raw2 y hy)))⟩

end
end Go.Proofs.YtgpjnppakffoiaaV
