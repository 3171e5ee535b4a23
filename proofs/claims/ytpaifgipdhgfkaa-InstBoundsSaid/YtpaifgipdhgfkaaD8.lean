/- What the functions of the program come to, as the reading machine has it: printed by dec.py. -/
import Derived.Test.YtpaifgipdhgfkaaVTab
import Derived.Test.YtpaifgipdhgfkaaS03a
namespace Go.Proofs.YtpaifgipdhgfkaaV
open Go
set_option maxRecDepth 100000
set_option linter.unusedVariables false
set_option linter.unusedSimpArgs false
noncomputable section
/-! ## drayman/inst.within -/
def iWithin_b {R : Type} (n1 : Int) (least2 : Int) (most3 : Int) (k : Bool → Option R) : Option R :=
  cond (decide (n1 ≥ least2)) (
    k (decide (n1 ≤ most3))) (
    k false)
def iWithin_E (y : Bool) : PV × List PV := ((PV.bool y), [])
def iWithin_d (n1 : Int) (least2 : Int) (most3 : Int) : Option (Bool) := iWithin_b n1 least2 most3 fun a0 => some a0
def iWithin_D : List PV → Option (Bool)
  | [(PV.int .i64 n1), (PV.int .i64 least2), (PV.int .i64 most3)] => iWithin_d n1 least2 most3
  | _ => none
def iWithin_Γ : List (Nat × Cal) := []
def iWithin_C : Ctr := ⟨[none, none, none], Bool, iWithin_D, iWithin_E, true, .d⟩
theorem iWithin_eq (n1 : Int) (least2 : Int) (most3 : Int) :
    funK T G0 (ctrOf iWithin_Γ) noL .d true [none, none, none] (funOf Try.f8) [(PV.int .i64 n1), (PV.int .i64 least2), (PV.int .i64 most3)] = iWithin_b  n1 least2 most3 (fun a0 => some (iWithin_E a0)) := by kernel_rfl
theorem iWithin_inv {ps : List PV} {y : Bool} (h : iWithin_D ps = some y) : ∃ (n1 : Int) (least2 : Int) (most3 : Int), ps = [(PV.int .i64 n1), (PV.int .i64 least2), (PV.int .i64 most3)] := by
  unfold iWithin_D at h
  split at h
  · exact ⟨_, _, _, rfl⟩
  · cases h
theorem iWithin_nat {R : Type} (n1 : Int) (least2 : Int) (most3 : Int) (k : Bool → Option R) : iWithin_b n1 least2 most3 k = Option.bind (iWithin_b n1 least2 most3 fun a0 => some a0) fun y => k y := by
  unfold iWithin_b
  first | rfl | simp only [Option.bind_assoc, bind_cond, bind_ite, Option.bind_some, Option.bind_none]
theorem iWithin_holds (hΓ : HoldsAll Try.prog G0 iWithin_Γ) : Holds Try.prog G0 8 iWithin_C := by
  refine fun_ok mixed tOk (ctrOf_ok hΓ) Try.func8 rfl rfl rfl rfl (F := funOf Try.f8) (fun ps x h => ?_)
  obtain ⟨y, hy, hx⟩ := bind_inv h
  cases hx
  obtain ⟨n1, least2, most3, rfl⟩ := iWithin_inv hy
  have hy' : iWithin_d n1 least2 most3 = some y := hy
  refine ⟨noL, noL_ok _, (iWithin_eq n1 least2 most3).trans ?_⟩
  unfold iWithin_d at hy'
  rw [iWithin_nat, hy']
  rfl

/-! ## drayman/inst.car -/
def iCar_b {R : Type} (c1 : Int) (c2 : Int) (c3 : Int) (k : Bool → Option R) : Option R :=
  Option.bind (iWithin_d c1 0 60) fun y4 =>
  cond y4 (
    Option.bind (iWithin_d c3 0 1000) fun y5 =>
    cond y5 (
      Option.bind (iWithin_d c2 0 c3) fun y6 =>
      k y6) (
      k false)) (
    k false)
def iCar_E (y : Bool) : PV × List PV := ((PV.bool y), [])
def iCar_d (c1 : Int) (c2 : Int) (c3 : Int) : Option (Bool) := iCar_b c1 c2 c3 fun a0 => some a0
def iCar_D : List PV → Option (Bool)
  | [(PV.agg [(PV.int .i64 c1), (PV.int .i64 c2), (PV.int .i64 c3)])] => iCar_d c1 c2 c3
  | _ => none
def iCar_Γ : List (Nat × Cal) := [(8, .ctr iWithin_C)]
def iCar_C : Ctr := ⟨[none], Bool, iCar_D, iCar_E, true, .d⟩
theorem iCar_eq (c1 : Int) (c2 : Int) (c3 : Int) :
    funK T G0 (ctrOf iCar_Γ) noL .d true [none] (funOf Try.f10) [(PV.agg [(PV.int .i64 c1), (PV.int .i64 c2), (PV.int .i64 c3)])] = iCar_b  c1 c2 c3 (fun a0 => some (iCar_E a0)) := by kernel_rfl
theorem iCar_inv {ps : List PV} {y : Bool} (h : iCar_D ps = some y) : ∃ (c1 : Int) (c2 : Int) (c3 : Int), ps = [(PV.agg [(PV.int .i64 c1), (PV.int .i64 c2), (PV.int .i64 c3)])] := by
  unfold iCar_D at h
  split at h
  · exact ⟨_, _, _, rfl⟩
  · cases h
theorem iCar_nat {R : Type} (c1 : Int) (c2 : Int) (c3 : Int) (k : Bool → Option R) : iCar_b c1 c2 c3 k = Option.bind (iCar_b c1 c2 c3 fun a0 => some a0) fun y => k y := by
  unfold iCar_b
  first | rfl | simp only [Option.bind_assoc, bind_cond, bind_ite, Option.bind_some, Option.bind_none]
theorem iCar_holds (hΓ : HoldsAll Try.prog G0 iCar_Γ) : Holds Try.prog G0 10 iCar_C := by
  refine fun_ok mixed tOk (ctrOf_ok hΓ) Try.func10 rfl rfl rfl rfl (F := funOf Try.f10) (fun ps x h => ?_)
  obtain ⟨y, hy, hx⟩ := bind_inv h
  cases hx
  obtain ⟨c1, c2, c3, rfl⟩ := iCar_inv hy
  have hy' : iCar_d c1 c2 c3 = some y := hy
  refine ⟨noL, noL_ok _, (iCar_eq c1 c2 c3).trans ?_⟩
  unfold iCar_d at hy'
  rw [iCar_nat, hy']
  rfl

/-! ## drayman/inst.stop -/
def iStop_b {R : Type} (s1 : Int) (s2 : Int) (s3 : Int) (s4 : Int) (k : Bool → Option R) : Option R :=
  Option.bind (iWithin_d s1 (-20) 20) fun y5 =>
  cond y5 (
    Option.bind (iWithin_d s3 0 1000) fun y6 =>
    cond y6 (
      Option.bind (iWithin_d s2 0 s3) fun y7 =>
      cond y7 (
        Option.bind (iWithin_d s4 0 1000) fun y8 =>
        k y8) (
        k false)) (
      k false)) (
    k false)
def iStop_E (y : Bool) : PV × List PV := ((PV.bool y), [])
def iStop_d (s1 : Int) (s2 : Int) (s3 : Int) (s4 : Int) : Option (Bool) := iStop_b s1 s2 s3 s4 fun a0 => some a0
def iStop_D : List PV → Option (Bool)
  | [(PV.agg [(PV.int .i64 s1), (PV.int .i64 s2), (PV.int .i64 s3), (PV.int .i64 s4)])] => iStop_d s1 s2 s3 s4
  | _ => none
def iStop_Γ : List (Nat × Cal) := [(8, .ctr iWithin_C)]
def iStop_C : Ctr := ⟨[none], Bool, iStop_D, iStop_E, true, .d⟩
theorem iStop_eq (s1 : Int) (s2 : Int) (s3 : Int) (s4 : Int) :
    funK T G0 (ctrOf iStop_Γ) noL .d true [none] (funOf Try.f12) [(PV.agg [(PV.int .i64 s1), (PV.int .i64 s2), (PV.int .i64 s3), (PV.int .i64 s4)])] = iStop_b  s1 s2 s3 s4 (fun a0 => some (iStop_E a0)) := by kernel_rfl
theorem iStop_inv {ps : List PV} {y : Bool} (h : iStop_D ps = some y) : ∃ (s1 : Int) (s2 : Int) (s3 : Int) (s4 : Int), ps = [(PV.agg [(PV.int .i64 s1), (PV.int .i64 s2), (PV.int .i64 s3), (PV.int .i64 s4)])] := by
  unfold iStop_D at h
  split at h
  · exact ⟨_, _, _, _, rfl⟩
  · cases h
theorem iStop_nat {R : Type} (s1 : Int) (s2 : Int) (s3 : Int) (s4 : Int) (k : Bool → Option R) : iStop_b s1 s2 s3 s4 k = Option.bind (iStop_b s1 s2 s3 s4 fun a0 => some a0) fun y => k y := by
  unfold iStop_b
  first | rfl | simp only [Option.bind_assoc, bind_cond, bind_ite, Option.bind_some, Option.bind_none]
theorem iStop_holds (hΓ : HoldsAll Try.prog G0 iStop_Γ) : Holds Try.prog G0 12 iStop_C := by
  refine fun_ok mixed tOk (ctrOf_ok hΓ) Try.func12 rfl rfl rfl rfl (F := funOf Try.f12) (fun ps x h => ?_)
  obtain ⟨y, hy, hx⟩ := bind_inv h
  cases hx
  obtain ⟨s1, s2, s3, s4, rfl⟩ := iStop_inv hy
  have hy' : iStop_d s1 s2 s3 s4 = some y := hy
  refine ⟨noL, noL_ok _, (iStop_eq s1 s2 s3 s4).trans ?_⟩
  unfold iStop_d at hy'
  rw [iStop_nat, hy']
  rfl

/-! ## drayman/inst.all[drayman/api.Car] -/
def allCar_l2 {R : Type} : Nat → List (List PV) → Int → Int → (Bool → Option R) → (Unit → Option R) → Option R
  | 0, _, _, _, _, _ => none
  | n + 1, es3, i4, i5, k0, k1 =>
    cond (decide (i5 < i4)) (
      Option.bind (idx es3 i5) fun e6 =>
      if e6.length = 3 then
        Option.bind (subAgg e6 0 3) fun p7 =>
        if (PV.isAgg p7 3) = true then
          Option.bind (iCar_D [p7]) fun y8 =>
          cond (!y8) (
            k0 false) (
            allCar_l2 n es3 i4 (IntKind.i64.wrap (i5 + (1 : Int))) k0 k1)
        else none
      else none) (
      k1 ())
def allCar_b {R : Type} (n : Nat) (l1 : List (List PV)) (k : Bool → Option R) : Option R :=
  allCar_l2 n l1 (l1.length : Int) 0 k
    (fun (_ : Unit) =>
      k true)
def allCar_E (y : Bool) : PV × List PV := ((PV.bool y), [])
def allCar_D : List PV → Option (Bool)
  | [(PV.fs l1), (PV.fn (Fn.func 10) [])] => sAllCar l1
  | _ => none
def allCar_Γ : List (Nat × Cal) := [(10, .ctr iCar_C)]
def allCar_C : Ctr := ⟨[none, none], Bool, allCar_D, allCar_E, true, .d⟩
def allCar_cfg : List (Nat × LC) := [(2, ⟨[1, 7, 8, 9], [], [], [], []⟩),
  (2000002, ⟨[4], [], [], [], []⟩),
  (1002000, ⟨[], [], [], [], []⟩)]
def allCar_p2 : SP := ⟨sparse .undef [(1, (.val (.fn 10 []))), (7, (.val .fs)), (8, (.val (.int .i64))), (9, (.val (.int .i64)))] 0 18, [], []⟩
def allCar_pat : Nat → Option SP
  | 2 => some allCar_p2
  | _ => none
def allCar_patj : Nat → Option SP
  | _ => none
def allCar_L2 (n : Nat) (ls : List Leaf) (R : Type) (k : Ex → St → Option R) : Option R :=
  match ls with
  | [.rows es3, .int i4, .int i5] => allCar_l2 n es3 i4 i5 (fun y1009 => k .ret ⟨sparse .undef [(4, (TV.val (PV.bool y1009)))] 0 18, [], []⟩)
      (fun _ => k (.exit 0) ⟨sparse .undef [] 0 18, [], []⟩)
  | _ => none
def allCar_L (n key : Nat) (ls : List Leaf) (R : Type) (k : Ex → St → Option R) : Option R :=
  match key with
  | 2 => allCar_L2 n ls R k
  | _ => none
def allCar_J (n key : Nat) (ls : List Leaf) (R : Type) (k : Ex → St → Option R) : Option R :=
  match key with
  | _ => none
def allCar_on : Code → Bool := fun _ => false
def allCar_Λ : Nat → Loops := patL (normBy allCar_cfg) allCar_pat allCar_L (normJ allCar_cfg) allCar_on allCar_patj allCar_J
theorem allCar_step2 (n : Nat) (es3 : List (List PV)) (i4 : Int) (i5 : Int)  (R : Type) (k : Ex → St → Option R) :
    roundK T G0 (ctrOf allCar_Γ) (normBy allCar_cfg) (allCar_Λ n) (codeAt [1, 0, 1, 0, 0] (bodyOf Try.f9)) (buildSt allCar_p2 [.rows es3, .int i4, .int i5]) R k = allCar_L2 (n + 1) [.rows es3, .int i4, .int i5] R k := by kernel_rfl
theorem allCar_eq (n : Nat) (l1 : List (List PV)) :
    funK T G0 (ctrOf allCar_Γ) (allCar_Λ n) .d true [none, none] (funOf Try.f9) [(PV.fs l1), (PV.fn (Fn.func 10) [])] = allCar_b n  l1 (fun a0 => some (allCar_E a0)) := by kernel_rfl
theorem allCar_inv {ps : List PV} {y : Bool} (h : allCar_D ps = some y) : ∃ (l1 : List (List PV)), ps = [(PV.fs l1), (PV.fn (Fn.func 10) [])] := by
  unfold allCar_D at h
  split at h
  · exact ⟨_, rfl⟩
  · cases h
theorem allCar_loops : loopsOf (bodyOf Try.f9) = [codeAt [1, 0, 1, 0, 0] (bodyOf Try.f9)] := by kernel_rfl
theorem allCar_holds (hΓ : HoldsAll Try.prog G0 allCar_Γ) (hok : ∀ (l1 : List (List PV)) (y : Bool), sAllCar l1 = some y → ∃ n, ∀ (R : Type) (k : Bool → Option R), allCar_b n  l1 k = k y) : Holds Try.prog G0 9 allCar_C := by
  refine fun_pat mixed tOk (ctrOf_ok hΓ) Try.func9 rfl rfl rfl rfl (F := funOf Try.f9) (normBy_ok allCar_cfg) (pat := allCar_pat) (L := allCar_L) (normJ_ok allCar_cfg) (on := allCar_on) (patj := allCar_patj) (J := allCar_J) (fun c hc ls R k => ?_) (fun c hc p hp m ls R k r h => ?_) (fun c hc p hp m ls R k r h => ?_) (fun ps x h => ?_)
  · rw [show (funOf Try.f9).code = bodyOf Try.f9 from rfl, allCar_loops] at hc
    simp only [List.mem_cons, List.not_mem_nil, or_false] at hc
    rcases hc with rfl
    · show allCar_L2 0 ls R k = none
      unfold allCar_L2
      split
      · rfl
      · rfl
  · rw [show (funOf Try.f9).code = bodyOf Try.f9 from rfl, allCar_loops] at hc
    simp only [List.mem_cons, List.not_mem_nil, or_false] at hc
    rcases hc with rfl
    · obtain rfl : allCar_p2 = p := Option.some.inj hp
      change allCar_L2 (m + 1) ls R k = some r at h
      have h' := h
      unfold allCar_L2 at h'
      split at h'
      · exact (allCar_step2 m _ _ _ R k).trans h
      · cases h'
  · cases (List.mem_filter.1 hc).2
  · obtain ⟨y, hy, hx⟩ := bind_inv h
    cases hx
    obtain ⟨l1, rfl⟩ := allCar_inv hy
    obtain ⟨n, hn⟩ := hok l1 y hy
    exact ⟨n, (allCar_eq n l1).trans (hn _ _)⟩

/-! ## drayman/inst.all[drayman/api.Stop] -/
def allStop_l2 {R : Type} : Nat → List (List PV) → Int → Int → (Bool → Option R) → (Unit → Option R) → Option R
  | 0, _, _, _, _, _ => none
  | n + 1, es3, i4, i5, k0, k1 =>
    cond (decide (i5 < i4)) (
      Option.bind (idx es3 i5) fun e6 =>
      if e6.length = 4 then
        Option.bind (subAgg e6 0 4) fun p7 =>
        if (PV.isAgg p7 4) = true then
          Option.bind (iStop_D [p7]) fun y8 =>
          cond (!y8) (
            k0 false) (
            allStop_l2 n es3 i4 (IntKind.i64.wrap (i5 + (1 : Int))) k0 k1)
        else none
      else none) (
      k1 ())
def allStop_b {R : Type} (n : Nat) (l1 : List (List PV)) (k : Bool → Option R) : Option R :=
  allStop_l2 n l1 (l1.length : Int) 0 k
    (fun (_ : Unit) =>
      k true)
def allStop_E (y : Bool) : PV × List PV := ((PV.bool y), [])
def allStop_D : List PV → Option (Bool)
  | [(PV.fs l1), (PV.fn (Fn.func 12) [])] => sAllStop l1
  | _ => none
def allStop_Γ : List (Nat × Cal) := [(12, .ctr iStop_C)]
def allStop_C : Ctr := ⟨[none, none], Bool, allStop_D, allStop_E, true, .d⟩
def allStop_cfg : List (Nat × LC) := [(2, ⟨[1, 7, 8, 9], [], [], [], []⟩),
  (2000002, ⟨[4], [], [], [], []⟩),
  (1002000, ⟨[], [], [], [], []⟩)]
def allStop_p2 : SP := ⟨sparse .undef [(1, (.val (.fn 12 []))), (7, (.val .fs)), (8, (.val (.int .i64))), (9, (.val (.int .i64)))] 0 18, [], []⟩
def allStop_pat : Nat → Option SP
  | 2 => some allStop_p2
  | _ => none
def allStop_patj : Nat → Option SP
  | _ => none
def allStop_L2 (n : Nat) (ls : List Leaf) (R : Type) (k : Ex → St → Option R) : Option R :=
  match ls with
  | [.rows es3, .int i4, .int i5] => allStop_l2 n es3 i4 i5 (fun y1009 => k .ret ⟨sparse .undef [(4, (TV.val (PV.bool y1009)))] 0 18, [], []⟩)
      (fun _ => k (.exit 0) ⟨sparse .undef [] 0 18, [], []⟩)
  | _ => none
def allStop_L (n key : Nat) (ls : List Leaf) (R : Type) (k : Ex → St → Option R) : Option R :=
  match key with
  | 2 => allStop_L2 n ls R k
  | _ => none
def allStop_J (n key : Nat) (ls : List Leaf) (R : Type) (k : Ex → St → Option R) : Option R :=
  match key with
  | _ => none
def allStop_on : Code → Bool := fun _ => false
def allStop_Λ : Nat → Loops := patL (normBy allStop_cfg) allStop_pat allStop_L (normJ allStop_cfg) allStop_on allStop_patj allStop_J
theorem allStop_step2 (n : Nat) (es3 : List (List PV)) (i4 : Int) (i5 : Int)  (R : Type) (k : Ex → St → Option R) :
    roundK T G0 (ctrOf allStop_Γ) (normBy allStop_cfg) (allStop_Λ n) (codeAt [1, 0, 1, 0, 0] (bodyOf Try.f11)) (buildSt allStop_p2 [.rows es3, .int i4, .int i5]) R k = allStop_L2 (n + 1) [.rows es3, .int i4, .int i5] R k := by kernel_rfl
theorem allStop_eq (n : Nat) (l1 : List (List PV)) :
    funK T G0 (ctrOf allStop_Γ) (allStop_Λ n) .d true [none, none] (funOf Try.f11) [(PV.fs l1), (PV.fn (Fn.func 12) [])] = allStop_b n  l1 (fun a0 => some (allStop_E a0)) := by kernel_rfl
theorem allStop_inv {ps : List PV} {y : Bool} (h : allStop_D ps = some y) : ∃ (l1 : List (List PV)), ps = [(PV.fs l1), (PV.fn (Fn.func 12) [])] := by
  unfold allStop_D at h
  split at h
  · exact ⟨_, rfl⟩
  · cases h
theorem allStop_loops : loopsOf (bodyOf Try.f11) = [codeAt [1, 0, 1, 0, 0] (bodyOf Try.f11)] := by kernel_rfl
theorem allStop_holds (hΓ : HoldsAll Try.prog G0 allStop_Γ) (hok : ∀ (l1 : List (List PV)) (y : Bool), sAllStop l1 = some y → ∃ n, ∀ (R : Type) (k : Bool → Option R), allStop_b n  l1 k = k y) : Holds Try.prog G0 11 allStop_C := by
  refine fun_pat mixed tOk (ctrOf_ok hΓ) Try.func11 rfl rfl rfl rfl (F := funOf Try.f11) (normBy_ok allStop_cfg) (pat := allStop_pat) (L := allStop_L) (normJ_ok allStop_cfg) (on := allStop_on) (patj := allStop_patj) (J := allStop_J) (fun c hc ls R k => ?_) (fun c hc p hp m ls R k r h => ?_) (fun c hc p hp m ls R k r h => ?_) (fun ps x h => ?_)
  · rw [show (funOf Try.f11).code = bodyOf Try.f11 from rfl, allStop_loops] at hc
    simp only [List.mem_cons, List.not_mem_nil, or_false] at hc
    rcases hc with rfl
    · show allStop_L2 0 ls R k = none
      unfold allStop_L2
      split
      · rfl
      · rfl
  · rw [show (funOf Try.f11).code = bodyOf Try.f11 from rfl, allStop_loops] at hc
    simp only [List.mem_cons, List.not_mem_nil, or_false] at hc
    rcases hc with rfl
    · obtain rfl : allStop_p2 = p := Option.some.inj hp
      change allStop_L2 (m + 1) ls R k = some r at h
      have h' := h
      unfold allStop_L2 at h'
      split at h'
      · exact (allStop_step2 m _ _ _ R k).trans h
      · cases h'
  · cases (List.mem_filter.1 hc).2
  · obtain ⟨y, hy, hx⟩ := bind_inv h
    cases hx
    obtain ⟨l1, rfl⟩ := allStop_inv hy
    obtain ⟨n, hn⟩ := hok l1 y hy
    exact ⟨n, (allStop_eq n l1).trans (hn _ _)⟩

/-! ## drayman/inst.pairs -/
def iPairs_l8 {R : Type} : Nat → List (List PV) → Int → Int → PV → Int → List (List PV) → List (List PV) → List (List PV) → List (List PV) → List (PV × PV) → PV → (Bool → Option R) → (List (List PV) → Int → Int → List (List PV) → List (List PV) → List (List PV) → List (List PV) → List (PV × PV) → PV → Option R) → Option R
  | 0, _, _, _, _, _, _, _, _, _, _, _, _, _ => none
  | n + 1, es40, i41, i42, p43, i44, es45, es46, es47, es48, kv49, p50, k0, k1 =>
    cond (decide (i44 < (2 : Int))) (
      Option.bind (PV.asAgg p43) fun cs51 =>
      if 0 ≤ i44 ∧ i44 < 2 then
        Option.bind (cs51[(Int.toNat i44)]?) fun c52 =>
        Option.bind (PV.asI .i64 c52) fun n53 =>
        Option.bind (iWithin_d n53 1 (es46.length : Int)) fun y54 =>
        cond (!y54) (
          k0 false) (
          Option.bind (mget T 3 (PV.int .i64 n53) kv49) fun r55 =>
          Option.bind (PV.asB (Option.getD r55 (PV.bool false))) fun b56 =>
          cond b56 (
            k0 false) (
            Option.bind (mset T 3 (PV.int .i64 n53) (PV.bool true) kv49) fun r57 =>
            iPairs_l8 n es40 i41 i42 p43 (IntKind.i64.wrap (i44 + (1 : Int))) es45 es46 es47 es48 r57 p50 k0 k1))
      else none) (
      k1 es40 i41 i42 es45 es46 es47 es48 kv49 p50)
def iPairs_l3 {R : Type} : Nat → List (List PV) → Int → Int → List (List PV) → List (List PV) → List (List PV) → List (List PV) → List (PV × PV) → (Bool → Option R) → (Unit → Option R) → Option R
  | 0, _, _, _, _, _, _, _, _, _, _ => none
  | n + 1, es6, i7, i8, es9, es10, es11, es12, kv13, k0, k1 =>
    cond (decide (i8 < i7)) (
      Option.bind (idx es6 i8) fun e14 =>
      if e14.length = 2 then
        Option.bind (subAgg e14 0 2) fun p15 =>
        if (PV.isAgg p15 2) = true then
          Option.bind ((PV.cells p15)[0]?) fun c16 =>
          Option.bind (PV.asI .i64 c16) fun n17 =>
          Option.bind ((PV.cells p15)[1]?) fun c18 =>
          Option.bind (PV.asI .i64 c18) fun n19 =>
          cond (n17 == n19) (
            k0 false) (
            iPairs_l8 n es6 i7 i8 p15 0 es9 es10 es11 es12 kv13 p15 k0
              (fun (es21 : List (List PV)) (i22 : Int) (i23 : Int) (es24 : List (List PV)) (es25 : List (List PV)) (es26 : List (List PV)) (es27 : List (List PV)) (kv28 : List (PV × PV)) (p29 : PV) =>
                Option.bind ((PV.cells p29)[0]?) fun c30 =>
                Option.bind (PV.asI .i64 c30) fun n31 =>
                Option.bind (idx es25 (IntKind.i64.wrap (n31 - (1 : Int)))) fun e32 =>
                if e32.length = 4 then
                  Option.bind (e32[0]?) fun c33 =>
                  Option.bind (PV.asI .i64 c33) fun n34 =>
                  cond (decide (n34 < (0 : Int))) (
                    k0 false) (
                    Option.bind ((PV.cells p29)[1]?) fun c35 =>
                    Option.bind (PV.asI .i64 c35) fun n36 =>
                    Option.bind (idx es25 (IntKind.i64.wrap (n36 - (1 : Int)))) fun e37 =>
                    if e37.length = 4 then
                      Option.bind (e37[0]?) fun c38 =>
                      Option.bind (PV.asI .i64 c38) fun n39 =>
                      cond (n39 != (IntKind.i64.wrap (0 - n34))) (
                        k0 false) (
                        iPairs_l3 n es21 i22 (IntKind.i64.wrap (i23 + (1 : Int))) es24 es25 es26 es27 kv28 k0 k1)
                    else none)
                else none))
        else none
      else none) (
      k1 ())
def iPairs_b {R : Type} (n : Nat) (i1 : List (List PV)) (i2 : List (List PV)) (i3 : List (List PV)) (i4 : List (List PV)) (k : Bool → Option R) : Option R :=
  iPairs_l3 n i3 (i3.length : Int) 0 i1 i2 i3 i4 ([] : List (PV × PV)) k
    (fun (_ : Unit) =>
      k true)
def iPairs_E (y : Bool) : PV × List PV := ((PV.bool y), [])
def iPairs_D : List PV → Option (Bool)
  | [(PV.agg [(PV.fs i1), (PV.fs i2), (PV.fs i3), (PV.fs i4)])] => sIPairs i1 i2 i3 i4
  | _ => none
def iPairs_Γ : List (Nat × Cal) := [(8, .ctr iWithin_C)]
def iPairs_C : Ctr := ⟨[none], Bool, iPairs_D, iPairs_E, true, .d⟩
def iPairs_cfg : List (Nat × LC) := [(3, ⟨[1, 3, 11, 12, 13], [], [], [], []⟩),
  (2000003, ⟨[2], [], [], [], []⟩),
  (8, ⟨[1, 3, 5, 11, 12, 13, 22, 23], [], [], [], []⟩),
  (1003000, ⟨[], [], [], [], []⟩),
  (2000008, ⟨[2], [], [], [], []⟩),
  (1008002, ⟨[1, 3, 5, 11, 12, 13], [], [], [], []⟩)]
def iPairs_p8 : SP := ⟨sparse .undef [(1, (.ref 0 0)), (3, (.mp 1)), (5, (.ref 2 0)), (11, (.val .fs)), (12, (.val (.int .i64))), (13, (.val (.int .i64))), (22, (.val .any)), (23, (.val (.int .i64)))] 0 64, [(.pbox (.agg [.fs, .fs, .fs, .fs]) 4), .map, (.pbox .any 2)], []⟩
def iPairs_p3 : SP := ⟨sparse .undef [(1, (.ref 0 0)), (3, (.mp 1)), (11, (.val .fs)), (12, (.val (.int .i64))), (13, (.val (.int .i64)))] 0 64, [(.pbox (.agg [.fs, .fs, .fs, .fs]) 4), .map], []⟩
def iPairs_pat : Nat → Option SP
  | 8 => some iPairs_p8
  | 3 => some iPairs_p3
  | _ => none
def iPairs_patj : Nat → Option SP
  | _ => none
def iPairs_L8 (n : Nat) (ls : List Leaf) (R : Type) (k : Ex → St → Option R) : Option R :=
  match ls with
  | [.rows es40, .int i41, .int i42, .pv p43, .int i44, .rows es45, .rows es46, .rows es47, .rows es48, .kvs kv49, .pv p50] => iPairs_l8 n es40 i41 i42 p43 i44 es45 es46 es47 es48 kv49 p50 (fun y1058 => k .ret ⟨sparse .undef [(2, (TV.val (PV.bool y1058)))] 0 64, [], []⟩)
      (fun y1059 y1060 y1061 y1062 y1063 y1064 y1065 y1066 y1067 => k (.exit 2) ⟨sparse .undef [(1, (TV.ref 0 0)), (3, (TV.mp 1)), (5, (TV.ref 2 0)), (11, (TV.val (PV.fs y1059))), (12, (TV.val (PV.int .i64 y1060))), (13, (TV.val (PV.int .i64 y1061)))] 0 64, [(Ob.pbox (PV.agg [(PV.fs y1062), (PV.fs y1063), (PV.fs y1064), (PV.fs y1065)]) 4), (Ob.map y1066), (Ob.pbox y1067 2)], []⟩)
  | _ => none
def iPairs_L3 (n : Nat) (ls : List Leaf) (R : Type) (k : Ex → St → Option R) : Option R :=
  match ls with
  | [.rows es6, .int i7, .int i8, .rows es9, .rows es10, .rows es11, .rows es12, .kvs kv13] => iPairs_l3 n es6 i7 i8 es9 es10 es11 es12 kv13 (fun y2068 => k .ret ⟨sparse .undef [(2, (TV.val (PV.bool y2068)))] 0 64, [], []⟩)
      (fun _ => k (.exit 0) ⟨sparse .undef [] 0 64, [], []⟩)
  | _ => none
def iPairs_L (n key : Nat) (ls : List Leaf) (R : Type) (k : Ex → St → Option R) : Option R :=
  match key with
  | 8 => iPairs_L8 n ls R k
  | 3 => iPairs_L3 n ls R k
  | _ => none
def iPairs_J (n key : Nat) (ls : List Leaf) (R : Type) (k : Ex → St → Option R) : Option R :=
  match key with
  | _ => none
def iPairs_on : Code → Bool := fun _ => false
def iPairs_Λ : Nat → Loops := patL (normBy iPairs_cfg) iPairs_pat iPairs_L (normJ iPairs_cfg) iPairs_on iPairs_patj iPairs_J
theorem iPairs_step3 (n : Nat) (es6 : List (List PV)) (i7 : Int) (i8 : Int) (es9 : List (List PV)) (es10 : List (List PV)) (es11 : List (List PV)) (es12 : List (List PV)) (kv13 : List (PV × PV))  (R : Type) (k : Ex → St → Option R) :
    roundK T G0 (ctrOf iPairs_Γ) (normBy iPairs_cfg) (iPairs_Λ n) (codeAt [1, 1, 0, 1, 0, 0] (bodyOf Try.f13)) (buildSt iPairs_p3 [.rows es6, .int i7, .int i8, .rows es9, .rows es10, .rows es11, .rows es12, .kvs kv13]) R k = iPairs_L3 (n + 1) [.rows es6, .int i7, .int i8, .rows es9, .rows es10, .rows es11, .rows es12, .kvs kv13] R k := by kernel_rfl
theorem iPairs_step8 (n : Nat) (es40 : List (List PV)) (i41 : Int) (i42 : Int) (p43 : PV) (i44 : Int) (es45 : List (List PV)) (es46 : List (List PV)) (es47 : List (List PV)) (es48 : List (List PV)) (kv49 : List (PV × PV)) (p50 : PV)  (R : Type) (k : Ex → St → Option R) :
    roundK T G0 (ctrOf iPairs_Γ) (normBy iPairs_cfg) (iPairs_Λ n) (codeAt [1, 1, 0, 1, 0, 0, 1, 1, 0, 0, 1, 1, 0, 1, 0, 0] (bodyOf Try.f13)) (buildSt iPairs_p8 [.rows es40, .int i41, .int i42, .pv p43, .int i44, .rows es45, .rows es46, .rows es47, .rows es48, .kvs kv49, .pv p50]) R k = iPairs_L8 (n + 1) [.rows es40, .int i41, .int i42, .pv p43, .int i44, .rows es45, .rows es46, .rows es47, .rows es48, .kvs kv49, .pv p50] R k := by kernel_rfl
theorem iPairs_eq (n : Nat) (i1 : List (List PV)) (i2 : List (List PV)) (i3 : List (List PV)) (i4 : List (List PV)) :
    funK T G0 (ctrOf iPairs_Γ) (iPairs_Λ n) .d true [none] (funOf Try.f13) [(PV.agg [(PV.fs i1), (PV.fs i2), (PV.fs i3), (PV.fs i4)])] = iPairs_b n  i1 i2 i3 i4 (fun a0 => some (iPairs_E a0)) := by kernel_rfl
theorem iPairs_inv {ps : List PV} {y : Bool} (h : iPairs_D ps = some y) : ∃ (i1 : List (List PV)) (i2 : List (List PV)) (i3 : List (List PV)) (i4 : List (List PV)), ps = [(PV.agg [(PV.fs i1), (PV.fs i2), (PV.fs i3), (PV.fs i4)])] := by
  unfold iPairs_D at h
  split at h
  · exact ⟨_, _, _, _, rfl⟩
  · cases h
theorem iPairs_loops : loopsOf (bodyOf Try.f13) = [codeAt [1, 1, 0, 1, 0, 0] (bodyOf Try.f13), codeAt [1, 1, 0, 1, 0, 0, 1, 1, 0, 0, 1, 1, 0, 1, 0, 0] (bodyOf Try.f13)] := by kernel_rfl
theorem iPairs_holds (hΓ : HoldsAll Try.prog G0 iPairs_Γ) (hok : ∀ (i1 : List (List PV)) (i2 : List (List PV)) (i3 : List (List PV)) (i4 : List (List PV)) (y : Bool), sIPairs i1 i2 i3 i4 = some y → ∃ n, ∀ (R : Type) (k : Bool → Option R), iPairs_b n  i1 i2 i3 i4 k = k y) : Holds Try.prog G0 13 iPairs_C := by
  refine fun_pat mixed tOk (ctrOf_ok hΓ) Try.func13 rfl rfl rfl rfl (F := funOf Try.f13) (normBy_ok iPairs_cfg) (pat := iPairs_pat) (L := iPairs_L) (normJ_ok iPairs_cfg) (on := iPairs_on) (patj := iPairs_patj) (J := iPairs_J) (fun c hc ls R k => ?_) (fun c hc p hp m ls R k r h => ?_) (fun c hc p hp m ls R k r h => ?_) (fun ps x h => ?_)
  · rw [show (funOf Try.f13).code = bodyOf Try.f13 from rfl, iPairs_loops] at hc
    simp only [List.mem_cons, List.not_mem_nil, or_false] at hc
    rcases hc with rfl | rfl
    · show iPairs_L3 0 ls R k = none
      unfold iPairs_L3
      split
      · rfl
      · rfl
    · show iPairs_L8 0 ls R k = none
      unfold iPairs_L8
      split
      · rfl
      · rfl
  · rw [show (funOf Try.f13).code = bodyOf Try.f13 from rfl, iPairs_loops] at hc
    simp only [List.mem_cons, List.not_mem_nil, or_false] at hc
    rcases hc with rfl | rfl
    · obtain rfl : iPairs_p3 = p := Option.some.inj hp
      change iPairs_L3 (m + 1) ls R k = some r at h
      have h' := h
      unfold iPairs_L3 at h'
      split at h'
      · exact (iPairs_step3 m _ _ _ _ _ _ _ _ R k).trans h
      · cases h'
    · obtain rfl : iPairs_p8 = p := Option.some.inj hp
      change iPairs_L8 (m + 1) ls R k = some r at h
      have h' := h
      unfold iPairs_L8 at h'
      split at h'
      · exact (iPairs_step8 m _ _ _ _ _ _ _ _ _ _ _ R k).trans h
      · cases h'
  · cases (List.mem_filter.1 hc).2
  · obtain ⟨y, hy, hx⟩ := bind_inv h
    cases hx
    obtain ⟨i1, i2, i3, i4, rfl⟩ := iPairs_inv hy
    obtain ⟨n, hn⟩ := hok i1 i2 i3 i4 y hy
    exact ⟨n, (iPairs_eq n i1 i2 i3 i4).trans (hn _ _)⟩

/-! ## drayman/inst.travel -/
def iTravel_l10 {R : Type} : Nat → Int → List (List PV) → Int → Int → List (List PV) → Int → Int → (Bool → Option R) → (Int → List (List PV) → Int → Int → Option R) → Option R
  | 0, _, _, _, _, _, _, _, _, _ => none
  | n + 1, many21, es22, i23, i24, es25, i26, i27, k0, k1 =>
    cond (decide (i27 < i26)) (
      Option.bind (idx es25 i27) fun e28 =>
      if e28.length = 1 then
        Option.bind (e28[0]?) fun c29 =>
        Option.bind (PV.asI .i64 c29) fun n30 =>
        Option.bind (iWithin_d n30 0 1000) fun y31 =>
        cond (!y31) (
          k0 false) (
          iTravel_l10 n many21 es22 i23 i24 es25 i26 (IntKind.i64.wrap (i27 + (1 : Int))) k0 k1)
      else none) (
      k1 many21 es22 i23 i24)
def iTravel_l5 {R : Type} : Nat → Int → List (List PV) → Int → Int → (Bool → Option R) → (Unit → Option R) → Option R
  | 0, _, _, _, _, _, _ => none
  | n + 1, many6, es7, i8, i9, k0, k1 =>
    cond (decide (i9 < i8)) (
      Option.bind (idx es7 i9) fun e10 =>
      if e10.length = 1 then
        Option.bind (e10[0]?) fun c11 =>
        Option.bind (PV.asFs c11) fun es12 =>
        cond ((es12.length : Int) != many6) (
          k0 false) (
          Option.bind (idx es12 i9) fun e13 =>
          if e13.length = 1 then
            Option.bind (e13[0]?) fun c14 =>
            Option.bind (PV.asI .i64 c14) fun n15 =>
            cond (n15 != (0 : Int)) (
              k0 false) (
              iTravel_l10 n many6 es7 i8 i9 es12 (es12.length : Int) 0 k0
                (fun (many17 : Int) (es18 : List (List PV)) (i19 : Int) (i20 : Int) =>
                  iTravel_l5 n many17 es18 i19 (IntKind.i64.wrap (i20 + (1 : Int))) k0 k1))
          else none)
      else none) (
      k1 ())
def iTravel_b {R : Type} (n : Nat) (i1 : List (List PV)) (i2 : List (List PV)) (i3 : List (List PV)) (i4 : List (List PV)) (k : Bool → Option R) : Option R :=
  cond ((i4.length : Int) != (IntKind.i64.wrap ((i2.length : Int) + (1 : Int)))) (
    k false) (
    iTravel_l5 n (IntKind.i64.wrap ((i2.length : Int) + (1 : Int))) i4 (i4.length : Int) 0 k
      (fun (_ : Unit) =>
        k true))
def iTravel_E (y : Bool) : PV × List PV := ((PV.bool y), [])
def iTravel_D : List PV → Option (Bool)
  | [(PV.agg [(PV.fs i1), (PV.fs i2), (PV.fs i3), (PV.fs i4)])] => sITravel i1 i2 i3 i4
  | _ => none
def iTravel_Γ : List (Nat × Cal) := [(8, .ctr iWithin_C)]
def iTravel_C : Ctr := ⟨[none], Bool, iTravel_D, iTravel_E, true, .d⟩
def iTravel_cfg : List (Nat × LC) := [(5, ⟨[3, 18, 19, 20], [], [], [], []⟩),
  (2000005, ⟨[2], [], [], [], []⟩),
  (10, ⟨[3, 18, 19, 20, 36, 37, 38], [], [], [], []⟩),
  (1005000, ⟨[], [], [], [], []⟩),
  (2000010, ⟨[2], [], [], [], []⟩),
  (1010002, ⟨[3, 18, 19, 20], [], [], [], []⟩)]
def iTravel_p10 : SP := ⟨sparse .undef [(3, (.val (.int .i64))), (18, (.val .fs)), (19, (.val (.int .i64))), (20, (.val (.int .i64))), (36, (.val .fs)), (37, (.val (.int .i64))), (38, (.val (.int .i64)))] 0 47, [], []⟩
def iTravel_p5 : SP := ⟨sparse .undef [(3, (.val (.int .i64))), (18, (.val .fs)), (19, (.val (.int .i64))), (20, (.val (.int .i64)))] 0 47, [], []⟩
def iTravel_pat : Nat → Option SP
  | 10 => some iTravel_p10
  | 5 => some iTravel_p5
  | _ => none
def iTravel_patj : Nat → Option SP
  | _ => none
def iTravel_L10 (n : Nat) (ls : List Leaf) (R : Type) (k : Ex → St → Option R) : Option R :=
  match ls with
  | [.int many21, .rows es22, .int i23, .int i24, .rows es25, .int i26, .int i27] => iTravel_l10 n many21 es22 i23 i24 es25 i26 i27 (fun y1032 => k .ret ⟨sparse .undef [(2, (TV.val (PV.bool y1032)))] 0 47, [], []⟩)
      (fun y1033 y1034 y1035 y1036 => k (.exit 2) ⟨sparse .undef [(3, (TV.val (PV.int .i64 y1033))), (18, (TV.val (PV.fs y1034))), (19, (TV.val (PV.int .i64 y1035))), (20, (TV.val (PV.int .i64 y1036)))] 0 47, [], []⟩)
  | _ => none
def iTravel_L5 (n : Nat) (ls : List Leaf) (R : Type) (k : Ex → St → Option R) : Option R :=
  match ls with
  | [.int many6, .rows es7, .int i8, .int i9] => iTravel_l5 n many6 es7 i8 i9 (fun y2037 => k .ret ⟨sparse .undef [(2, (TV.val (PV.bool y2037)))] 0 47, [], []⟩)
      (fun _ => k (.exit 0) ⟨sparse .undef [] 0 47, [], []⟩)
  | _ => none
def iTravel_L (n key : Nat) (ls : List Leaf) (R : Type) (k : Ex → St → Option R) : Option R :=
  match key with
  | 10 => iTravel_L10 n ls R k
  | 5 => iTravel_L5 n ls R k
  | _ => none
def iTravel_J (n key : Nat) (ls : List Leaf) (R : Type) (k : Ex → St → Option R) : Option R :=
  match key with
  | _ => none
def iTravel_on : Code → Bool := fun _ => false
def iTravel_Λ : Nat → Loops := patL (normBy iTravel_cfg) iTravel_pat iTravel_L (normJ iTravel_cfg) iTravel_on iTravel_patj iTravel_J
theorem iTravel_step5 (n : Nat) (many6 : Int) (es7 : List (List PV)) (i8 : Int) (i9 : Int)  (R : Type) (k : Ex → St → Option R) :
    roundK T G0 (ctrOf iTravel_Γ) (normBy iTravel_cfg) (iTravel_Λ n) (codeAt [1, 1, 1, 0, 1, 0, 0] (bodyOf Try.f14)) (buildSt iTravel_p5 [.int many6, .rows es7, .int i8, .int i9]) R k = iTravel_L5 (n + 1) [.int many6, .rows es7, .int i8, .int i9] R k := by kernel_rfl
theorem iTravel_step10 (n : Nat) (many21 : Int) (es22 : List (List PV)) (i23 : Int) (i24 : Int) (es25 : List (List PV)) (i26 : Int) (i27 : Int)  (R : Type) (k : Ex → St → Option R) :
    roundK T G0 (ctrOf iTravel_Γ) (normBy iTravel_cfg) (iTravel_Λ n) (codeAt [1, 1, 1, 0, 1, 0, 0, 1, 1, 0, 0, 1, 1, 1, 0, 0] (bodyOf Try.f14)) (buildSt iTravel_p10 [.int many21, .rows es22, .int i23, .int i24, .rows es25, .int i26, .int i27]) R k = iTravel_L10 (n + 1) [.int many21, .rows es22, .int i23, .int i24, .rows es25, .int i26, .int i27] R k := by kernel_rfl
theorem iTravel_eq (n : Nat) (i1 : List (List PV)) (i2 : List (List PV)) (i3 : List (List PV)) (i4 : List (List PV)) :
    funK T G0 (ctrOf iTravel_Γ) (iTravel_Λ n) .d true [none] (funOf Try.f14) [(PV.agg [(PV.fs i1), (PV.fs i2), (PV.fs i3), (PV.fs i4)])] = iTravel_b n  i1 i2 i3 i4 (fun a0 => some (iTravel_E a0)) := by kernel_rfl
theorem iTravel_inv {ps : List PV} {y : Bool} (h : iTravel_D ps = some y) : ∃ (i1 : List (List PV)) (i2 : List (List PV)) (i3 : List (List PV)) (i4 : List (List PV)), ps = [(PV.agg [(PV.fs i1), (PV.fs i2), (PV.fs i3), (PV.fs i4)])] := by
  unfold iTravel_D at h
  split at h
  · exact ⟨_, _, _, _, rfl⟩
  · cases h
theorem iTravel_loops : loopsOf (bodyOf Try.f14) = [codeAt [1, 1, 1, 0, 1, 0, 0] (bodyOf Try.f14), codeAt [1, 1, 1, 0, 1, 0, 0, 1, 1, 0, 0, 1, 1, 1, 0, 0] (bodyOf Try.f14)] := by kernel_rfl
theorem iTravel_holds (hΓ : HoldsAll Try.prog G0 iTravel_Γ) (hok : ∀ (i1 : List (List PV)) (i2 : List (List PV)) (i3 : List (List PV)) (i4 : List (List PV)) (y : Bool), sITravel i1 i2 i3 i4 = some y → ∃ n, ∀ (R : Type) (k : Bool → Option R), iTravel_b n  i1 i2 i3 i4 k = k y) : Holds Try.prog G0 14 iTravel_C := by
  refine fun_pat mixed tOk (ctrOf_ok hΓ) Try.func14 rfl rfl rfl rfl (F := funOf Try.f14) (normBy_ok iTravel_cfg) (pat := iTravel_pat) (L := iTravel_L) (normJ_ok iTravel_cfg) (on := iTravel_on) (patj := iTravel_patj) (J := iTravel_J) (fun c hc ls R k => ?_) (fun c hc p hp m ls R k r h => ?_) (fun c hc p hp m ls R k r h => ?_) (fun ps x h => ?_)
  · rw [show (funOf Try.f14).code = bodyOf Try.f14 from rfl, iTravel_loops] at hc
    simp only [List.mem_cons, List.not_mem_nil, or_false] at hc
    rcases hc with rfl | rfl
    · show iTravel_L5 0 ls R k = none
      unfold iTravel_L5
      split
      · rfl
      · rfl
    · show iTravel_L10 0 ls R k = none
      unfold iTravel_L10
      split
      · rfl
      · rfl
  · rw [show (funOf Try.f14).code = bodyOf Try.f14 from rfl, iTravel_loops] at hc
    simp only [List.mem_cons, List.not_mem_nil, or_false] at hc
    rcases hc with rfl | rfl
    · obtain rfl : iTravel_p5 = p := Option.some.inj hp
      change iTravel_L5 (m + 1) ls R k = some r at h
      have h' := h
      unfold iTravel_L5 at h'
      split at h'
      · exact (iTravel_step5 m _ _ _ _ R k).trans h
      · cases h'
    · obtain rfl : iTravel_p10 = p := Option.some.inj hp
      change iTravel_L10 (m + 1) ls R k = some r at h
      have h' := h
      unfold iTravel_L10 at h'
      split at h'
      · exact (iTravel_step10 m _ _ _ _ _ _ _ R k).trans h
      · cases h'
  · cases (List.mem_filter.1 hc).2
  · obtain ⟨y, hy, hx⟩ := bind_inv h
    cases hx
    obtain ⟨i1, i2, i3, i4, rfl⟩ := iTravel_inv hy
    obtain ⟨n, hn⟩ := hok i1 i2 i3 i4 y hy
    exact ⟨n, (iTravel_eq n i1 i2 i3 i4).trans (hn _ _)⟩

/-! ## drayman/inst.Check -/
def iCheck_b {R : Type} (i1 : List (List PV)) (i2 : List (List PV)) (i3 : List (List PV)) (i4 : List (List PV)) (k : Int → Option R) : Option R :=
  Option.bind (iWithin_d (i1.length : Int) 1 3) fun y5 =>
  cond (!y5) (
    k 1) (
    cond (decide ((i2.length : Int) > (10 : Int))) (
      k 1) (
      Option.bind (sAllCar i1) fun y6 =>
      cond (!y6) (
        k 1) (
        Option.bind (sAllStop i2) fun y7 =>
        cond (!y7) (
          k 1) (
          Option.bind (sIPairs i1 i2 i3 i4) fun y8 =>
          cond (!y8) (
            k 1) (
            Option.bind (sITravel i1 i2 i3 i4) fun y9 =>
            cond (!y9) (
              k 1) (
              k 0))))))
def iCheck_E (y : Int) : PV × List PV := ((PV.int .i64 y), [])
def iCheck_d (i1 : List (List PV)) (i2 : List (List PV)) (i3 : List (List PV)) (i4 : List (List PV)) : Option (Int) := iCheck_b i1 i2 i3 i4 fun a0 => some a0
def iCheck_D : List PV → Option (Int)
  | [(PV.agg [(PV.fs i1), (PV.fs i2), (PV.fs i3), (PV.fs i4)])] => iCheck_d i1 i2 i3 i4
  | _ => none
def iCheck_Γ : List (Nat × Cal) := [(8, .ctr iWithin_C), (9, .ctr allCar_C), (11, .ctr allStop_C), (13, .ctr iPairs_C), (14, .ctr iTravel_C)]
def iCheck_C : Ctr := ⟨[none], Int, iCheck_D, iCheck_E, true, .d⟩
theorem iCheck_eq (i1 : List (List PV)) (i2 : List (List PV)) (i3 : List (List PV)) (i4 : List (List PV)) :
    funK T G0 (ctrOf iCheck_Γ) noL .d true [none] (funOf Try.f6) [(PV.agg [(PV.fs i1), (PV.fs i2), (PV.fs i3), (PV.fs i4)])] = iCheck_b  i1 i2 i3 i4 (fun a0 => some (iCheck_E a0)) := by kernel_rfl
theorem iCheck_inv {ps : List PV} {y : Int} (h : iCheck_D ps = some y) : ∃ (i1 : List (List PV)) (i2 : List (List PV)) (i3 : List (List PV)) (i4 : List (List PV)), ps = [(PV.agg [(PV.fs i1), (PV.fs i2), (PV.fs i3), (PV.fs i4)])] := by
  unfold iCheck_D at h
  split at h
  · exact ⟨_, _, _, _, rfl⟩
  · cases h
theorem iCheck_nat {R : Type} (i1 : List (List PV)) (i2 : List (List PV)) (i3 : List (List PV)) (i4 : List (List PV)) (k : Int → Option R) : iCheck_b i1 i2 i3 i4 k = Option.bind (iCheck_b i1 i2 i3 i4 fun a0 => some a0) fun y => k y := by
  unfold iCheck_b
  first | rfl | simp only [Option.bind_assoc, bind_cond, bind_ite, Option.bind_some, Option.bind_none]
theorem iCheck_holds (hΓ : HoldsAll Try.prog G0 iCheck_Γ) : Holds Try.prog G0 6 iCheck_C := by
  refine fun_ok mixed tOk (ctrOf_ok hΓ) Try.func6 rfl rfl rfl rfl (F := funOf Try.f6) (fun ps x h => ?_)
  obtain ⟨y, hy, hx⟩ := bind_inv h
  cases hx
  obtain ⟨i1, i2, i3, i4, rfl⟩ := iCheck_inv hy
  have hy' : iCheck_d i1 i2 i3 i4 = some y := hy
  refine ⟨noL, noL_ok _, (iCheck_eq i1 i2 i3 i4).trans ?_⟩
  unfold iCheck_d at hy'
  rw [iCheck_nat, hy']
  rfl

/-! ## drayman/draymanlaw03.wakes -/
def wakes03_b {R : Type} (k : Bool → Option R) : Option R :=
  Option.bind (iCheck_d [] [] [] []) fun y1 =>
  cond (y1 == (1 : Int)) (
    Option.bind (iCheck_d [[(PV.int .i64 0), (PV.int .i64 0), (PV.int .i64 5)]] [] [] [[(PV.fs [[(PV.int .i64 0)]])]]) fun y2 =>
    k (y2 == (0 : Int))) (
    k false)
def wakes03_E (y : Bool) : PV × List PV := ((PV.bool y), [])
def wakes03_d : Option (Bool) := wakes03_b fun a0 => some a0
def wakes03_D : List PV → Option (Bool)
  | [] => wakes03_d
  | _ => none
def wakes03_Γ : List (Nat × Cal) := [(6, .ctr iCheck_C)]
def wakes03_C : Ctr := ⟨[], Bool, wakes03_D, wakes03_E, true, .d⟩
theorem wakes03_eq :
    funK T G0 (ctrOf wakes03_Γ) noL .d true [] (funOf Try.f7) [] = wakes03_b  (fun a0 => some (wakes03_E a0)) := by kernel_rfl
theorem wakes03_inv {ps : List PV} {y : Bool} (h : wakes03_D ps = some y) : ps = [] := by
  unfold wakes03_D at h
  split at h
  · rfl
  · cases h
theorem wakes03_nat {R : Type} (k : Bool → Option R) : wakes03_b k = Option.bind (wakes03_b fun a0 => some a0) fun y => k y := by
  unfold wakes03_b
  first | rfl | simp only [Option.bind_assoc, bind_cond, bind_ite, Option.bind_some, Option.bind_none]
theorem wakes03_holds (hΓ : HoldsAll Try.prog G0 wakes03_Γ) : Holds Try.prog G0 7 wakes03_C := by
  refine fun_ok mixed tOk (ctrOf_ok hΓ) Try.func7 rfl rfl rfl rfl (F := funOf Try.f7) (fun ps x h => ?_)
  obtain ⟨y, hy, hx⟩ := bind_inv h
  cases hx
  obtain rfl := wakes03_inv hy
  have hy' : wakes03_d = some y := hy
  refine ⟨noL, noL_ok _, (wakes03_eq).trans ?_⟩
  unfold wakes03_d at hy'
  rw [wakes03_nat, hy']
  rfl

end
end Go.Proofs.YtpaifgipdhgfkaaV
