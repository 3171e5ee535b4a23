/- What the functions of the program come to, as the reading machine has it: printed by dec.py. -/
import Derived.Test.YtgpjnppakffoiaaVTab
import Derived.Test.YtgpjnppakffoiaaS01
namespace Go.Proofs.YtgpjnppakffoiaaV
open Go
set_option maxRecDepth 100000
set_option linter.unusedVariables false
set_option linter.unusedSimpArgs false
noncomputable section
/-! ## drayman/num.Draw -/
def draw_b {R : Type} (x1 : Int) (k : Int → Option R) : Option R :=
  cond (x1 == (0 : Int)) (
    k 2463534242) (
    k (IntKind.u32.wrap (((BitVec.ofInt IntKind.u32.bits (IntKind.u32.wrap (((BitVec.ofInt IntKind.u32.bits (IntKind.u32.wrap (((BitVec.ofInt IntKind.u32.bits x1) ^^^ (BitVec.ofInt IntKind.u32.bits (IntKind.u32.wrap (x1 * 2 ^ 13)))).toNat : Nat))) ^^^ (BitVec.ofInt IntKind.u32.bits (Int.fdiv (IntKind.u32.wrap (((BitVec.ofInt IntKind.u32.bits x1) ^^^ (BitVec.ofInt IntKind.u32.bits (IntKind.u32.wrap (x1 * 2 ^ 13)))).toNat : Nat)) (2 ^ 17)))).toNat : Nat))) ^^^ (BitVec.ofInt IntKind.u32.bits (IntKind.u32.wrap ((IntKind.u32.wrap (((BitVec.ofInt IntKind.u32.bits (IntKind.u32.wrap (((BitVec.ofInt IntKind.u32.bits x1) ^^^ (BitVec.ofInt IntKind.u32.bits (IntKind.u32.wrap (x1 * 2 ^ 13)))).toNat : Nat))) ^^^ (BitVec.ofInt IntKind.u32.bits (Int.fdiv (IntKind.u32.wrap (((BitVec.ofInt IntKind.u32.bits x1) ^^^ (BitVec.ofInt IntKind.u32.bits (IntKind.u32.wrap (x1 * 2 ^ 13)))).toNat : Nat)) (2 ^ 17)))).toNat : Nat)) * 2 ^ 5)))).toNat : Nat)))
def draw_E (y : Int) : PV × List PV := ((PV.int .u32 y), [])
def draw_D : List PV → Option (Int)
  | [(PV.int .u32 x1)] => some (drawOf x1)
  | _ => none
def draw_Γ : List (Nat × Ctr) := []
def draw_C : Ctr := ⟨[none], Int, draw_D, draw_E, true, .d⟩
theorem draw_eq (x1 : Int) :
    funK T G0 (ctrOf draw_Γ) noL .d true [none] (funOf Try.f15) [(PV.int .u32 x1)] = draw_b  x1 (fun a0 => some (draw_E a0)) := by kernel_rfl
theorem draw_inv {ps : List PV} {y : Int} (h : draw_D ps = some y) : ∃ (x1 : Int), ps = [(PV.int .u32 x1)] := by
  unfold draw_D at h
  split at h
  · exact ⟨_, rfl⟩
  · cases h
theorem draw_holds (hΓ : HoldsAll Try.prog G0 draw_Γ) (hok : ∀ (x1 : Int) (R : Type) (k : Int → Option R), draw_b  x1 k = k (drawOf x1)) : Holds Try.prog G0 15 draw_C := by
  refine fun_ok mixed tOk (ctrOf_ok hΓ) Try.func15 rfl rfl rfl rfl (F := funOf Try.f15) (fun ps x h => ?_)
  obtain ⟨y, hy, hx⟩ := bind_inv h
  cases hx
  obtain ⟨x1, rfl⟩ := draw_inv hy
  cases hy
  refine ⟨noL, noL_ok _, (draw_eq x1).trans (hok x1 _ _)⟩

/-! ## drayman/draymankeep.Within -/
def within_b {R : Type} (v1 : Int) (n2 : Int) (k : Int → Option R) : Option R :=
  cond (decide (n2 < (1 : Int))) (
    k 0) (
    if n2 = 0 then none else
    cond (decide ((Int.tmod v1 n2) < (0 : Int))) (
      k (IntKind.i64.wrap ((Int.tmod v1 n2) + n2))) (
      k (Int.tmod v1 n2)))
def within_E (y : Int) : PV × List PV := ((PV.int .i64 y), [])
def within_d (v1 : Int) (n2 : Int) : Option (Int) := within_b v1 n2 fun a0 => some a0
def within_D : List PV → Option (Int)
  | [(PV.int .i64 v1), (PV.int .i64 n2)] => within_d v1 n2
  | _ => none
def within_Γ : List (Nat × Ctr) := []
def within_C : Ctr := ⟨[none, none], Int, within_D, within_E, true, .d⟩
theorem within_eq (v1 : Int) (n2 : Int) :
    funK T G0 (ctrOf within_Γ) noL .d true [none, none] (funOf Try.f14) [(PV.int .i64 v1), (PV.int .i64 n2)] = within_b  v1 n2 (fun a0 => some (within_E a0)) := by kernel_rfl
theorem within_inv {ps : List PV} {y : Int} (h : within_D ps = some y) : ∃ (v1 : Int) (n2 : Int), ps = [(PV.int .i64 v1), (PV.int .i64 n2)] := by
  unfold within_D at h
  split at h
  · exact ⟨_, _, rfl⟩
  · cases h
theorem within_nat {R : Type} (v1 : Int) (n2 : Int) (k : Int → Option R) : within_b v1 n2 k = Option.bind (within_b v1 n2 fun a0 => some a0) fun y => k y := by
  unfold within_b
  first | rfl | simp only [Option.bind_assoc, bind_cond, bind_ite, Option.bind_some, Option.bind_none]
theorem within_holds (hΓ : HoldsAll Try.prog G0 within_Γ) : Holds Try.prog G0 14 within_C := by
  refine fun_ok mixed tOk (ctrOf_ok hΓ) Try.func14 rfl rfl rfl rfl (F := funOf Try.f14) (fun ps x h => ?_)
  obtain ⟨y, hy, hx⟩ := bind_inv h
  cases hx
  obtain ⟨v1, n2, rfl⟩ := within_inv hy
  have hy' : within_d v1 n2 = some y := hy
  refine ⟨noL, noL_ok _, (within_eq v1 n2).trans ?_⟩
  unfold within_d at hy'
  rw [within_nat, hy']
  rfl

/-! ## drayman/draymanlaw01.wakes -/
def wakes01_b {R : Type} (k : Bool → Option R) : Option R :=
  k ((drawOf 1) == (270369 : Int))
def wakes01_E (y : Bool) : PV × List PV := ((PV.bool y), [])
def wakes01_d : Option (Bool) := wakes01_b fun a0 => some a0
def wakes01_D : List PV → Option (Bool)
  | [] => wakes01_d
  | _ => none
def wakes01_Γ : List (Nat × Ctr) := [(15, draw_C)]
def wakes01_C : Ctr := ⟨[], Bool, wakes01_D, wakes01_E, true, .d⟩
theorem wakes01_eq :
    funK T G0 (ctrOf wakes01_Γ) noL .d true [] (funOf Try.f16) [] = wakes01_b  (fun a0 => some (wakes01_E a0)) := by kernel_rfl
theorem wakes01_inv {ps : List PV} {y : Bool} (h : wakes01_D ps = some y) : ps = [] := by
  unfold wakes01_D at h
  split at h
  · rfl
  · cases h
theorem wakes01_nat {R : Type} (k : Bool → Option R) : wakes01_b k = Option.bind (wakes01_b fun a0 => some a0) fun y => k y := by
  unfold wakes01_b
  first | rfl | simp only [Option.bind_assoc, bind_cond, bind_ite, Option.bind_some, Option.bind_none]
theorem wakes01_holds (hΓ : HoldsAll Try.prog G0 wakes01_Γ) : Holds Try.prog G0 16 wakes01_C := by
  refine fun_ok mixed tOk (ctrOf_ok hΓ) Try.func16 rfl rfl rfl rfl (F := funOf Try.f16) (fun ps x h => ?_)
  obtain ⟨y, hy, hx⟩ := bind_inv h
  cases hx
  obtain rfl := wakes01_inv hy
  have hy' : wakes01_d = some y := hy
  refine ⟨noL, noL_ok _, (wakes01_eq).trans ?_⟩
  unfold wakes01_d at hy'
  rw [wakes01_nat, hy']
  rfl

/-! ## drayman/draymanlaw01.NumDraws -/
def numDraws_l3 {R : Type} : Nat → Int → Int → Int → List (PV × PV) → (Bool → Option R) → (Unit → Option R) → Option R
  | 0, _, _, _, _, _, _ => none
  | n + 1, x5, n6, k7, kv8, k0, k1 =>
    Option.bind (within_d n6 200) fun y9 =>
    cond (decide (k7 < (IntKind.i64.wrap ((50 : Int) + y9)))) (
      cond ((drawOf x5) == (0 : Int)) (
        k0 false) (
        Option.bind (mget T 22 (PV.int .u32 (drawOf x5)) kv8) fun r10 =>
        Option.bind (PV.asB (Option.getD r10 (PV.bool false))) fun b11 =>
        cond b11 (
          k0 false) (
          cond ((drawOf x5) != (drawOf x5)) (
            k0 false) (
            Option.bind (mset T 22 (PV.int .u32 (drawOf x5)) (PV.bool true) kv8) fun r12 =>
            numDraws_l3 n (drawOf x5) n6 (IntKind.i64.wrap (k7 + (1 : Int))) r12 k0 k1)))) (
      k1 ())
def numDraws_b {R : Type} (n : Nat) (x1 : Int) (n2 : Int) (k : Bool → Option R) : Option R :=
  numDraws_l3 n x1 n2 0 ([] : List (PV × PV)) k
    (fun (_ : Unit) =>
      Option.bind (wakes01_d) fun y4 =>
      k y4)
def numDraws_E (y : Bool) : PV × List PV := ((PV.bool y), [])
def numDraws_D : List PV → Option (Bool)
  | [(PV.int .u32 x1), (PV.int .i64 n2)] => sNumDraws x1 n2
  | _ => none
def numDraws_Γ : List (Nat × Ctr) := [(16, wakes01_C), (14, within_C), (15, draw_C)]
def numDraws_C : Ctr := ⟨[none, none], Bool, numDraws_D, numDraws_E, true, .d⟩
def numDraws_cfg : List (Nat × LC) := [(3, ⟨[0, 1, 5, 6], [], [], []⟩),
  (2000003, ⟨[4], [], [], []⟩),
  (1003000, ⟨[], [], [], []⟩)]
def numDraws_pat : Nat → Option SP
  | 3 => some ⟨sparse .undef [(0, (.val (.int .u32))), (1, (.val (.int .i64))), (5, (.mp 0)), (6, (.val (.int .i64)))] 0 35, [.map], []⟩
  | _ => none
def numDraws_patj : Nat → Option SP
  | _ => none
def numDraws_L3 (n : Nat) (ls : List Leaf) (R : Type) (k : Ex → St → Option R) : Option R :=
  match ls with
  | [.int x5, .int n6, .int k7, .kvs kv8] => numDraws_l3 n x5 n6 k7 kv8 (fun y1013 => k .ret ⟨sparse .undef [(4, (TV.val (PV.bool y1013)))] 0 35, [], []⟩)
      (fun _ => k (.exit 0) ⟨sparse .undef [] 0 35, [], []⟩)
  | _ => none
def numDraws_L (n key : Nat) (ls : List Leaf) (R : Type) (k : Ex → St → Option R) : Option R :=
  match key with
  | 3 => numDraws_L3 n ls R k
  | _ => none
def numDraws_J (n key : Nat) (ls : List Leaf) (R : Type) (k : Ex → St → Option R) : Option R :=
  match key with
  | _ => none
def numDraws_on : Code → Bool := fun _ => false
def numDraws_Λ : Nat → Loops := patL (normBy numDraws_cfg) numDraws_pat numDraws_L (normJ numDraws_cfg) numDraws_on numDraws_patj numDraws_J
theorem numDraws_step3 (n : Nat) (x5 : Int) (n6 : Int) (k7 : Int) (kv8 : List (PV × PV))  (R : Type) (k : Ex → St → Option R) :
    roundK T G0 (ctrOf numDraws_Γ) (normBy numDraws_cfg) (numDraws_Λ n) (codeAt [1, 1, 0, 1, 0, 0] (bodyOf Try.f3)) (buildSt ⟨sparse .undef [(0, (.val (.int .u32))), (1, (.val (.int .i64))), (5, (.mp 0)), (6, (.val (.int .i64)))] 0 35, [.map], []⟩ [.int x5, .int n6, .int k7, .kvs kv8]) R k = numDraws_L3 (n + 1) [.int x5, .int n6, .int k7, .kvs kv8] R k := by kernel_rfl
theorem numDraws_eq (n : Nat) (x1 : Int) (n2 : Int) :
    funK T G0 (ctrOf numDraws_Γ) (numDraws_Λ n) .d true [none, none] (funOf Try.f3) [(PV.int .u32 x1), (PV.int .i64 n2)] = numDraws_b n  x1 n2 (fun a0 => some (numDraws_E a0)) := by kernel_rfl
theorem numDraws_inv {ps : List PV} {y : Bool} (h : numDraws_D ps = some y) : ∃ (x1 : Int) (n2 : Int), ps = [(PV.int .u32 x1), (PV.int .i64 n2)] := by
  unfold numDraws_D at h
  split at h
  · exact ⟨_, _, rfl⟩
  · cases h
theorem numDraws_loops : loopsOf (bodyOf Try.f3) = [codeAt [1, 1, 0, 1, 0, 0] (bodyOf Try.f3)] := by kernel_rfl
theorem numDraws_holds (hΓ : HoldsAll Try.prog G0 numDraws_Γ) (hok : ∀ (x1 : Int) (n2 : Int) (y : Bool), sNumDraws x1 n2 = some y → ∃ n, ∀ (R : Type) (k : Bool → Option R), numDraws_b n  x1 n2 k = k y) : Holds Try.prog G0 3 numDraws_C := by
  refine fun_pat mixed tOk (ctrOf_ok hΓ) Try.func3 rfl rfl rfl rfl (F := funOf Try.f3) (normBy_ok numDraws_cfg) (pat := numDraws_pat) (L := numDraws_L) (normJ_ok numDraws_cfg) (on := numDraws_on) (patj := numDraws_patj) (J := numDraws_J) (fun c hc ls R k => ?_) (fun c hc p hp m ls R k r h => ?_) (fun c hc p hp m ls R k r h => ?_) (fun ps x h => ?_)
  · rw [show (funOf Try.f3).code = bodyOf Try.f3 from rfl, numDraws_loops] at hc
    simp only [List.mem_cons, List.not_mem_nil, or_false] at hc
    rcases hc with rfl
    · show numDraws_L3 0 ls R k = none
      unfold numDraws_L3
      split
      · rfl
      · rfl
  · rw [show (funOf Try.f3).code = bodyOf Try.f3 from rfl, numDraws_loops] at hc
    simp only [List.mem_cons, List.not_mem_nil, or_false] at hc
    rcases hc with rfl
    · have hp' : p = ⟨sparse .undef [(0, (.val (.int .u32))), (1, (.val (.int .i64))), (5, (.mp 0)), (6, (.val (.int .i64)))] 0 35, [.map], []⟩ := (Option.some.inj (hp : some _ = some p)).symm
      subst hp'
      change numDraws_L3 (m + 1) ls R k = some r at h
      have h' := h
      unfold numDraws_L3 at h'
      split at h'
      · exact (numDraws_step3 m _ _ _ _ R k).trans h
      · cases h'
  · cases (List.mem_filter.1 hc).2
  · obtain ⟨y, hy, hx⟩ := bind_inv h
    cases hx
    obtain ⟨x1, n2, rfl⟩ := numDraws_inv hy
    obtain ⟨n, hn⟩ := hok x1 n2 y hy
    exact ⟨n, (numDraws_eq n x1 n2).trans (hn _ _)⟩

end
end Go.Proofs.YtgpjnppakffoiaaV
