/- What the functions of the program come to, as the reading machine has it: printed by dec.py. -/
import Derived.Test.YtgpjnppakffoiaaVTab
import Derived.Test.YtgpjnppakffoiaaS01
namespace Go.Proofs.YtgpjnppakffoiaaV
open Go
set_option maxRecDepth 100000
set_option linter.unusedVariables false
/-! ## drayman/num.Draw -/
def draw_b (x1 : Int) : Option (PV × List PV) :=
  cond (x1 == (0 : Int)) (
    some ((.int .u32 2463534242), [])) (
    some ((.int .u32 (IntKind.u32.wrap (((BitVec.ofInt IntKind.u32.bits (IntKind.u32.wrap (((BitVec.ofInt IntKind.u32.bits (IntKind.u32.wrap (((BitVec.ofInt IntKind.u32.bits x1) ^^^ (BitVec.ofInt IntKind.u32.bits (IntKind.u32.wrap (x1 * 2 ^ 13)))).toNat : Nat))) ^^^ (BitVec.ofInt IntKind.u32.bits (Int.fdiv (IntKind.u32.wrap (((BitVec.ofInt IntKind.u32.bits x1) ^^^ (BitVec.ofInt IntKind.u32.bits (IntKind.u32.wrap (x1 * 2 ^ 13)))).toNat : Nat)) (2 ^ 17)))).toNat : Nat))) ^^^ (BitVec.ofInt IntKind.u32.bits (IntKind.u32.wrap ((IntKind.u32.wrap (((BitVec.ofInt IntKind.u32.bits (IntKind.u32.wrap (((BitVec.ofInt IntKind.u32.bits x1) ^^^ (BitVec.ofInt IntKind.u32.bits (IntKind.u32.wrap (x1 * 2 ^ 13)))).toNat : Nat))) ^^^ (BitVec.ofInt IntKind.u32.bits (Int.fdiv (IntKind.u32.wrap (((BitVec.ofInt IntKind.u32.bits x1) ^^^ (BitVec.ofInt IntKind.u32.bits (IntKind.u32.wrap (x1 * 2 ^ 13)))).toNat : Nat)) (2 ^ 17)))).toNat : Nat)) * 2 ^ 5)))).toNat : Nat))), []))
def draw_F : List PV → Option (PV × List PV)
  | [(.int .u32 x1)] => draw_b x1
  | _ => none
def draw_Γ : List (Nat × Ctr) := []
def draw_C : Ctr := ⟨[none], sDraw, true, .d⟩
theorem draw_eq (x1 : Int) :
    funK T G0 (ctrOf draw_Γ) (fun _ _ _ _ => none) .d true [none] (funOf Try.f15) [(.int .u32 x1)] = draw_b x1 := by kernel_rfl
theorem draw_inv {ps : List PV} {x : PV × List PV} (h : draw_F ps = some x) : ∃ (x1 : Int), ps = [(.int .u32 x1)] := by
  unfold draw_F at h
  split at h
  · exact ⟨_, rfl⟩
  · cases h
theorem draw_holds (hΓ : HoldsAll Try.prog G0 draw_Γ) (hok : ∀ ps x, sDraw ps = some x → draw_F ps = some x) : Holds Try.prog G0 15 draw_C := by
  refine fun_ok tOk (ctrOf_ok hΓ) Try.func15 rfl rfl rfl rfl (F := funOf Try.f15) (fun ps x h => ?_)
  have hn : draw_F ps = some x := hok ps x h
  have hn' := hn
  obtain ⟨x1, rfl⟩ := draw_inv hn
  exact ⟨fun _ _ _ _ => none, fun c hc => (by rw [show loopsOf (funOf Try.f15).code = [] from by kernel_rfl] at hc; cases hc), (draw_eq x1).trans hn'⟩

/-! ## drayman/draymankeep.Within -/
def within_b (v1 : Int) (n2 : Int) : Option (PV × List PV) :=
  cond (decide (n2 < (1 : Int))) (
    some ((.int .i64 0), [])) (
    if n2 = 0 then none else
    cond (decide ((Int.tmod v1 n2) < (0 : Int))) (
      some ((.int .i64 (IntKind.i64.wrap ((Int.tmod v1 n2) + n2))), [])) (
      some ((.int .i64 (Int.tmod v1 n2)), [])))
def within_F : List PV → Option (PV × List PV)
  | [(.int .i64 v1), (.int .i64 n2)] => within_b v1 n2
  | _ => none
def within_Γ : List (Nat × Ctr) := []
def within_C : Ctr := ⟨[none, none], within_F, true, .d⟩
theorem within_eq (v1 : Int) (n2 : Int) :
    funK T G0 (ctrOf within_Γ) (fun _ _ _ _ => none) .d true [none, none] (funOf Try.f14) [(.int .i64 v1), (.int .i64 n2)] = within_b v1 n2 := by kernel_rfl
theorem within_inv {ps : List PV} {x : PV × List PV} (h : within_F ps = some x) : ∃ (v1 : Int) (n2 : Int), ps = [(.int .i64 v1), (.int .i64 n2)] := by
  unfold within_F at h
  split at h
  · exact ⟨_, _, rfl⟩
  · cases h
theorem within_holds (hΓ : HoldsAll Try.prog G0 within_Γ) : Holds Try.prog G0 14 within_C := by
  refine fun_ok tOk (ctrOf_ok hΓ) Try.func14 rfl rfl rfl rfl (F := funOf Try.f14) (fun ps x h => ?_)
  have hn : within_F ps = some x := h
  have hn' := hn
  obtain ⟨v1, n2, rfl⟩ := within_inv hn
  exact ⟨fun _ _ _ _ => none, fun c hc => (by rw [show loopsOf (funOf Try.f14).code = [] from by kernel_rfl] at hc; cases hc), (within_eq v1 n2).trans hn'⟩

/-! ## drayman/draymanlaw01.wakes -/
def wakes01_b : Option (PV × List PV) :=
  some ((.bool ((drawOf (1 : Int)) == (270369 : Int))), [])
def wakes01_F : List PV → Option (PV × List PV)
  | [] => wakes01_b 
  | _ => none
def wakes01_Γ : List (Nat × Ctr) := [(15, draw_C)]
def wakes01_C : Ctr := ⟨[], wakes01_F, true, .d⟩
theorem wakes01_eq :
    funK T G0 (ctrOf wakes01_Γ) (fun _ _ _ _ => none) .d true [] (funOf Try.f16) [] = wakes01_b  := by kernel_rfl
theorem wakes01_inv {ps : List PV} {x : PV × List PV} (h : wakes01_F ps = some x) : ps = [] := by
  unfold wakes01_F at h
  split at h
  · rfl
  · cases h
theorem wakes01_holds (hΓ : HoldsAll Try.prog G0 wakes01_Γ) : Holds Try.prog G0 16 wakes01_C := by
  refine fun_ok tOk (ctrOf_ok hΓ) Try.func16 rfl rfl rfl rfl (F := funOf Try.f16) (fun ps x h => ?_)
  have hn : wakes01_F ps = some x := h
  have hn' := hn
  obtain rfl := wakes01_inv hn
  exact ⟨fun _ _ _ _ => none, fun c hc => (by rw [show loopsOf (funOf Try.f16).code = [] from by kernel_rfl] at hc; cases hc), (wakes01_eq ).trans hn'⟩

/-! ## drayman/draymanlaw01.NumDraws -/
def numDraws_l3 {R : Type} : Nat → Int → Int → Int → List (PV × PV) → (Bool → Option R) → (Unit → Option R) → Option R
  | 0, _, _, _, _, _, _ => none
  | n + 1, x6, n7, k8, kv9, k0, k1 =>
    Option.bind (within_F [(.int .i64 n7), (.int .i64 200)]) fun r10 =>
    Option.bind (PV.asI .i64 r10.1) fun n11 =>
    cond (decide (k8 < (IntKind.i64.wrap ((50 : Int) + n11)))) (
      cond ((drawOf x6) == (0 : Int)) (
        k0 false) (
        Option.bind (mget T 22 (.int .u32 (drawOf x6)) kv9) fun r12 =>
        Option.bind (PV.asB (Option.getD r12 (.bool false))) fun b13 =>
        cond b13 (
          k0 false) (
          cond ((drawOf x6) != (drawOf x6)) (
            k0 false) (
            Option.bind (mset T 22 (.int .u32 (drawOf x6)) (.bool true) kv9) fun r14 =>
            numDraws_l3 n (drawOf x6) n7 (IntKind.i64.wrap (k8 + (1 : Int))) r14 k0 k1)))) (
      k1 ())
def numDraws_b (n : Nat) (x1 : Int) (n2 : Int) : Option (PV × List PV) :=
  numDraws_l3 n x1 n2 0 ([] : List (PV × PV))
    (fun (b3 : Bool) =>
      some ((.bool b3), []))
    (fun (_ : Unit) =>
      Option.bind (wakes01_F []) fun r4 =>
      Option.bind (PV.asB r4.1) fun b5 =>
      some ((.bool b5), []))
def numDraws_F (n : Nat) : List PV → Option (PV × List PV)
  | [(.int .u32 x1), (.int .i64 n2)] => numDraws_b n x1 n2
  | _ => none
def numDraws_Γ : List (Nat × Ctr) := [(16, wakes01_C), (14, within_C), (15, draw_C)]
def numDraws_C : Ctr := ⟨[none, none], sNumDraws, true, .d⟩
def numDraws_cfg : List (Nat × LC) := [(3, ⟨[0, 1, 5, 6], [], [], []⟩),
  (2000003, ⟨[4], [], [], []⟩),
  (1003000, ⟨[], [], [], []⟩)]
def numDraws_pat : Nat → Option SP
  | 3 => some ⟨sparse .undef [(0, (.val (.int .u32))), (1, (.val (.int .i64))), (5, (.mp 0)), (6, (.val (.int .i64)))] 0 35, [.map], []⟩
  | _ => none
def numDraws_L3 (n : Nat) (ls : List Leaf) (R : Type) (k : Ex → St → Option R) : Option R :=
  match ls with
  | [.int x6, .int n7, .int k8, .kvs kv9] => numDraws_l3 n x6 n7 k8 kv9 (fun y1015 => k .ret ⟨sparse .undef [(4, (.val (.bool y1015)))] 0 35, [], []⟩)
      (fun _ => k (.exit 0) ⟨sparse .undef [] 0 35, [], []⟩)
  | _ => none
def numDraws_L (n key : Nat) (ls : List Leaf) (R : Type) (k : Ex → St → Option R) : Option R :=
  match key with
  | 3 => numDraws_L3 n ls R k
  | _ => none
def numDraws_Λ : Nat → Loops := patL (normBy numDraws_cfg) numDraws_pat numDraws_L
theorem numDraws_step3 (n : Nat) (x6 : Int) (n7 : Int) (k8 : Int) (kv9 : List (PV × PV))  (R : Type) (k : Ex → St → Option R) :
    roundK T G0 (ctrOf numDraws_Γ) (normBy numDraws_cfg) (numDraws_Λ n) (codeAt [1, 1, 0, 1, 0, 0] (bodyOf Try.f3)) (buildSt ⟨sparse .undef [(0, (.val (.int .u32))), (1, (.val (.int .i64))), (5, (.mp 0)), (6, (.val (.int .i64)))] 0 35, [.map], []⟩ [.int x6, .int n7, .int k8, .kvs kv9]) R k = numDraws_L3 (n + 1) [.int x6, .int n7, .int k8, .kvs kv9] R k := by kernel_rfl
theorem numDraws_eq (n : Nat) (x1 : Int) (n2 : Int) :
    funK T G0 (ctrOf numDraws_Γ) (numDraws_Λ n) .d true [none, none] (funOf Try.f3) [(.int .u32 x1), (.int .i64 n2)] = numDraws_b n x1 n2 := by kernel_rfl
theorem numDraws_inv {n : Nat} {ps : List PV} {x : PV × List PV} (h : numDraws_F n ps = some x) : ∃ (x1 : Int) (n2 : Int), ps = [(.int .u32 x1), (.int .i64 n2)] := by
  unfold numDraws_F at h
  split at h
  · exact ⟨_, _, rfl⟩
  · cases h
theorem numDraws_loops : loopsOf (bodyOf Try.f3) = [codeAt [1, 1, 0, 1, 0, 0] (bodyOf Try.f3)] := by kernel_rfl
theorem numDraws_holds (hΓ : HoldsAll Try.prog G0 numDraws_Γ) (hok : ∀ ps x, sNumDraws ps = some x → ∃ n, numDraws_F n ps = some x) : Holds Try.prog G0 3 numDraws_C := by
  refine fun_pat tOk (ctrOf_ok hΓ) Try.func3 rfl rfl rfl rfl (F := funOf Try.f3) (normBy_ok numDraws_cfg) (pat := numDraws_pat) (L := numDraws_L) (fun c hc ls R k => ?_) (fun c hc p hp m ls R k r h => ?_) (fun ps x h => ?_)
  · rw [show (funOf Try.f3).code = bodyOf Try.f3 from rfl, numDraws_loops] at hc
    simp only [List.mem_cons, List.not_mem_nil, or_false] at hc
    rcases hc with rfl
    · show numDraws_L3 0 ls R k = none
      unfold numDraws_L3
      split
      · rfl
      · rfl
  · rw [show (funOf Try.f3).code = bodyOf Try.f3 from rfl, numDraws_loops] at hc
    simp only [List.mem_cons, List.not_mem_nil, or_false] at hc
    rcases hc with rfl
    · have hp' : p = ⟨sparse .undef [(0, (.val (.int .u32))), (1, (.val (.int .i64))), (5, (.mp 0)), (6, (.val (.int .i64)))] 0 35, [.map], []⟩ := (Option.some.inj (hp : some _ = some p)).symm
      subst hp'
      change numDraws_L3 (m + 1) ls R k = some r at h
      have h' := h
      unfold numDraws_L3 at h'
      split at h'
      · exact (numDraws_step3 m _ _ _ _ R k).trans h
      · cases h'
  · obtain ⟨n, hn⟩ := hok ps x h
    have hn' := hn
    obtain ⟨x1, n2, rfl⟩ := numDraws_inv hn
    exact ⟨n, (numDraws_eq n x1 n2).trans hn'⟩

end Go.Proofs.YtgpjnppakffoiaaV
