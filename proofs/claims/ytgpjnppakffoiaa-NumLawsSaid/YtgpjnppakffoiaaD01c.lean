/- What the functions of the program come to, as the reading machine has it: printed by dec.py. -/
import Derived.Test.YtgpjnppakffoiaaVTab
import Derived.Test.YtgpjnppakffoiaaD01b
namespace Go.Proofs.YtgpjnppakffoiaaV
open Go
set_option maxRecDepth 100000
set_option linter.unusedVariables false
set_option linter.unusedSimpArgs false
noncomputable section
/-! ## drayman/draymanlaw01.NumTells -/
def numTells_q12 {R : Type} (x33 : Int) (n34 : Int) (k0 : Bool → Option R) : Option R :=
  cond ((drawOf x33) == (drawOf x33)) (
    Option.bind (sPick x33 n34) fun y35 =>
    Option.bind (sPick x33 n34) fun y36 =>
    cond (y35 == y36) (
      Option.bind (wakes01_d) fun y37 =>
      k0 y37) (
      k0 false)) (
    k0 false)
def numTells_q10 {R : Type} (x23 : Int) (n24 : Int) (ok25 : Bool) (may26 : Bool) (p27 : Int) (q28 : Int) (k0 : Bool → Option R) : Option R :=
  cond (ok25 != may26) (
    k0 false) (
    cond ok25 (
      cond (p27 != q28) (
        k0 false) (
        cond (!ok25) (
          cond (p27 != (0 : Int)) (
            k0 false) (
            numTells_q12 x23 n24 k0)) (
          numTells_q12 x23 n24 k0))) (
      cond (!ok25) (
        cond (p27 != (0 : Int)) (
          k0 false) (
          numTells_q12 x23 n24 k0)) (
        numTells_q12 x23 n24 k0)))
def numTells_q7 {R : Type} (a10 : Int) (b11 : Int) (x12 : Int) (n13 : Int) (k0 : Bool → Option R) : Option R :=
  Option.bind (sMul a10 b11) fun y14 =>
  cond (a10 == (0 : Int)) (
    numTells_q10 x12 n13 y14.2 true y14.1 (IntKind.i64.wrap (a10 * b11)) k0) (
    cond (b11 == (0 : Int)) (
      numTells_q10 x12 n13 y14.2 true y14.1 (IntKind.i64.wrap (a10 * b11)) k0) (
      if b11 = 0 then none else
      cond ((IntKind.i64.wrap (Int.tdiv (IntKind.i64.wrap (a10 * b11)) b11)) == a10) (
        cond (a10 == (-1 : Int)) (
          cond (!(b11 == (-9223372036854775808 : Int))) (
            cond (b11 == (-1 : Int)) (
              numTells_q10 x12 n13 y14.2 (!(a10 == (-9223372036854775808 : Int))) y14.1 (IntKind.i64.wrap (a10 * b11)) k0) (
              numTells_q10 x12 n13 y14.2 true y14.1 (IntKind.i64.wrap (a10 * b11)) k0)) (
            numTells_q10 x12 n13 y14.2 false y14.1 (IntKind.i64.wrap (a10 * b11)) k0)) (
          cond (b11 == (-1 : Int)) (
            numTells_q10 x12 n13 y14.2 (!(a10 == (-9223372036854775808 : Int))) y14.1 (IntKind.i64.wrap (a10 * b11)) k0) (
            numTells_q10 x12 n13 y14.2 true y14.1 (IntKind.i64.wrap (a10 * b11)) k0))) (
        numTells_q10 x12 n13 y14.2 false y14.1 (IntKind.i64.wrap (a10 * b11)) k0)))
def numTells_b {R : Type} (a1 : Int) (b2 : Int) (x3 : Int) (n4 : Int) (k : Bool → Option R) : Option R :=
  Option.bind (sAdd a1 b2) fun y5 =>
  cond (y5.2 != ((decide (b2 ≥ (0 : Int))) == (decide ((IntKind.i64.wrap (a1 + b2)) ≥ a1)))) (
    k false) (
    cond y5.2 (
      cond (y5.1 != (IntKind.i64.wrap (a1 + b2))) (
        k false) (
        cond (!y5.2) (
          cond (y5.1 != (0 : Int)) (
            k false) (
            numTells_q7 a1 b2 x3 n4 k)) (
          numTells_q7 a1 b2 x3 n4 k))) (
      cond (!y5.2) (
        cond (y5.1 != (0 : Int)) (
          k false) (
          numTells_q7 a1 b2 x3 n4 k)) (
        numTells_q7 a1 b2 x3 n4 k)))
def numTells_E (y : Bool) : PV × List PV := ((PV.bool y), [])
def numTells_D : List PV → Option (Bool)
  | [(PV.int .i64 a1), (PV.int .i64 b2), (PV.int .u32 x3), (PV.int .i64 n4)] => sNumTells a1 b2 x3 n4
  | _ => none
def numTells_Γ : List (Nat × Ctr) := [(25, nAdd_C), (26, nMul_C), (15, draw_C), (31, rDraw_C), (30, nPick_C), (32, rPick_C), (16, wakes01_C)]
def numTells_C : Ctr := ⟨[none, none, none, none], Bool, numTells_D, numTells_E, true, .d⟩
def numTells_cfg : List (Nat × LC) := [(4000012, ⟨[2, 3], [], [], []⟩),
  (4000010, ⟨[2, 3, 10, 12, 13, 14], [], [], []⟩),
  (4000007, ⟨[0, 1, 2, 3], [], [], []⟩),
  (6000010, ⟨[8], [], [], []⟩),
  (6000012, ⟨[8], [], [], []⟩),
  (6000007, ⟨[8], [], [], []⟩)]
def numTells_pat : Nat → Option SP
  | _ => none
def numTells_patj : Nat → Option SP
  | 12 => some ⟨sparse .undef [(2, (.val (.int .u32))), (3, (.val (.int .i64)))] 0 125, [], []⟩
  | 10 => some ⟨sparse .undef [(2, (.val (.int .u32))), (3, (.val (.int .i64))), (10, (.val .bool)), (12, (.val .bool)), (13, (.val (.int .i64))), (14, (.val (.int .i64)))] 0 125, [], []⟩
  | 7 => some ⟨sparse .undef [(0, (.val (.int .i64))), (1, (.val (.int .i64))), (2, (.val (.int .u32))), (3, (.val (.int .i64)))] 0 125, [], []⟩
  | _ => none
def numTells_J12 (n : Nat) (ls : List Leaf) (R : Type) (k : Ex → St → Option R) : Option R :=
  match ls with
  | [.int x33, .int n34] => numTells_q12 x33 n34 (fun y1038 => k .ret ⟨sparse .undef [(8, (TV.val (PV.bool y1038)))] 0 125, [], []⟩)
  | _ => none
def numTells_J10 (n : Nat) (ls : List Leaf) (R : Type) (k : Ex → St → Option R) : Option R :=
  match ls with
  | [.int x23, .int n24, .bool ok25, .bool may26, .int p27, .int q28] => numTells_q10 x23 n24 ok25 may26 p27 q28 (fun y2039 => k .ret ⟨sparse .undef [(8, (TV.val (PV.bool y2039)))] 0 125, [], []⟩)
  | _ => none
def numTells_J7 (n : Nat) (ls : List Leaf) (R : Type) (k : Ex → St → Option R) : Option R :=
  match ls with
  | [.int a10, .int b11, .int x12, .int n13] => numTells_q7 a10 b11 x12 n13 (fun y3040 => k .ret ⟨sparse .undef [(8, (TV.val (PV.bool y3040)))] 0 125, [], []⟩)
  | _ => none
def numTells_L (n key : Nat) (ls : List Leaf) (R : Type) (k : Ex → St → Option R) : Option R :=
  match key with
  | _ => none
def numTells_J (n key : Nat) (ls : List Leaf) (R : Type) (k : Ex → St → Option R) : Option R :=
  match key with
  | 12 => numTells_J12 n ls R k
  | 10 => numTells_J10 n ls R k
  | 7 => numTells_J7 n ls R k
  | _ => none
def numTells_on : Code → Bool := onKeys [7, 10, 12]
def numTells_Λ : Nat → Loops := patL (normBy numTells_cfg) numTells_pat numTells_L (normJ numTells_cfg) numTells_on numTells_patj numTells_J
theorem numTells_stepq7 (n : Nat) (a10 : Int) (b11 : Int) (x12 : Int) (n13 : Int)  (R : Type) (k : Ex → St → Option R) :
    joinK T G0 (ctrOf numTells_Γ) (normJ numTells_cfg) (numTells_Λ n) (codeAt [1, 1, 1, 1, 1] (bodyOf Try.f12)) (buildSt ⟨sparse .undef [(0, (.val (.int .i64))), (1, (.val (.int .i64))), (2, (.val (.int .u32))), (3, (.val (.int .i64)))] 0 125, [], []⟩ [.int a10, .int b11, .int x12, .int n13]) R k = numTells_J7 n [.int a10, .int b11, .int x12, .int n13] R k := by kernel_rfl
theorem numTells_stepq10 (n : Nat) (x23 : Int) (n24 : Int) (ok25 : Bool) (may26 : Bool) (p27 : Int) (q28 : Int)  (R : Type) (k : Ex → St → Option R) :
    joinK T G0 (ctrOf numTells_Γ) (normJ numTells_cfg) (numTells_Λ n) (codeAt [1, 1, 1, 1, 1, 1, 1, 1] (bodyOf Try.f12)) (buildSt ⟨sparse .undef [(2, (.val (.int .u32))), (3, (.val (.int .i64))), (10, (.val .bool)), (12, (.val .bool)), (13, (.val (.int .i64))), (14, (.val (.int .i64)))] 0 125, [], []⟩ [.int x23, .int n24, .bool ok25, .bool may26, .int p27, .int q28]) R k = numTells_J10 n [.int x23, .int n24, .bool ok25, .bool may26, .int p27, .int q28] R k := by kernel_rfl
theorem numTells_stepq12 (n : Nat) (x33 : Int) (n34 : Int)  (R : Type) (k : Ex → St → Option R) :
    joinK T G0 (ctrOf numTells_Γ) (normJ numTells_cfg) (numTells_Λ n) (codeAt [1, 1, 1, 1, 1, 1, 1, 1, 1] (bodyOf Try.f12)) (buildSt ⟨sparse .undef [(2, (.val (.int .u32))), (3, (.val (.int .i64)))] 0 125, [], []⟩ [.int x33, .int n34]) R k = numTells_J12 n [.int x33, .int n34] R k := by kernel_rfl
theorem numTells_eq (a1 : Int) (b2 : Int) (x3 : Int) (n4 : Int) :
    funK T G0 (ctrOf numTells_Γ) (numTells_Λ 0) .d true [none, none, none, none] (funOf Try.f12) [(PV.int .i64 a1), (PV.int .i64 b2), (PV.int .u32 x3), (PV.int .i64 n4)] = numTells_b  a1 b2 x3 n4 (fun a0 => some (numTells_E a0)) := by kernel_rfl
theorem numTells_inv {ps : List PV} {y : Bool} (h : numTells_D ps = some y) : ∃ (a1 : Int) (b2 : Int) (x3 : Int) (n4 : Int), ps = [(PV.int .i64 a1), (PV.int .i64 b2), (PV.int .u32 x3), (PV.int .i64 n4)] := by
  unfold numTells_D at h
  split at h
  · exact ⟨_, _, _, _, rfl⟩
  · cases h
theorem numTells_loops : loopsOf (bodyOf Try.f12) = [] := by kernel_rfl
theorem numTells_joins : (joinsOf (bodyOf Try.f12)).filter numTells_on = [codeAt [1, 1, 1, 1, 1] (bodyOf Try.f12), codeAt [1, 1, 1, 1, 1, 1, 1, 1] (bodyOf Try.f12), codeAt [1, 1, 1, 1, 1, 1, 1, 1, 1] (bodyOf Try.f12)] := by kernel_rfl
theorem numTells_holds (hΓ : HoldsAll Try.prog G0 numTells_Γ) (hok : ∀ (a1 : Int) (b2 : Int) (x3 : Int) (n4 : Int) (y : Bool), sNumTells a1 b2 x3 n4 = some y → ∀ (R : Type) (k : Bool → Option R), numTells_b  a1 b2 x3 n4 k = k y) : Holds Try.prog G0 12 numTells_C := by
  refine fun_pat mixed tOk (ctrOf_ok hΓ) Try.func12 rfl rfl rfl rfl (F := funOf Try.f12) (normBy_ok numTells_cfg) (pat := numTells_pat) (L := numTells_L) (normJ_ok numTells_cfg) (on := numTells_on) (patj := numTells_patj) (J := numTells_J) (fun c hc ls R k => ?_) (fun c hc p hp m ls R k r h => ?_) (fun c hc p hp m ls R k r h => ?_) (fun ps x h => ?_)
  · rw [show (funOf Try.f12).code = bodyOf Try.f12 from rfl, numTells_loops] at hc
    cases hc
  · rw [show (funOf Try.f12).code = bodyOf Try.f12 from rfl, numTells_loops] at hc
    cases hc
  · rw [show (funOf Try.f12).code = bodyOf Try.f12 from rfl, numTells_joins] at hc
    simp only [List.mem_cons, List.not_mem_nil, or_false] at hc
    rcases hc with rfl | rfl | rfl
    · have hp' : p = ⟨sparse .undef [(0, (.val (.int .i64))), (1, (.val (.int .i64))), (2, (.val (.int .u32))), (3, (.val (.int .i64)))] 0 125, [], []⟩ := (Option.some.inj (hp : some _ = some p)).symm
      subst hp'
      change numTells_J7 m ls R k = some r at h
      have h' := h
      unfold numTells_J7 at h'
      split at h'
      · exact (numTells_stepq7 m _ _ _ _ R k).trans h
      · cases h'
    · have hp' : p = ⟨sparse .undef [(2, (.val (.int .u32))), (3, (.val (.int .i64))), (10, (.val .bool)), (12, (.val .bool)), (13, (.val (.int .i64))), (14, (.val (.int .i64)))] 0 125, [], []⟩ := (Option.some.inj (hp : some _ = some p)).symm
      subst hp'
      change numTells_J10 m ls R k = some r at h
      have h' := h
      unfold numTells_J10 at h'
      split at h'
      · exact (numTells_stepq10 m _ _ _ _ _ _ R k).trans h
      · cases h'
    · have hp' : p = ⟨sparse .undef [(2, (.val (.int .u32))), (3, (.val (.int .i64)))] 0 125, [], []⟩ := (Option.some.inj (hp : some _ = some p)).symm
      subst hp'
      change numTells_J12 m ls R k = some r at h
      have h' := h
      unfold numTells_J12 at h'
      split at h'
      · exact (numTells_stepq12 m _ _ R k).trans h
      · cases h'
  · obtain ⟨y, hy, hx⟩ := bind_inv h
    cases hx
    obtain ⟨a1, b2, x3, n4, rfl⟩ := numTells_inv hy
    exact ⟨0, (numTells_eq a1 b2 x3 n4).trans (hok a1 b2 x3 n4 y hy _ _)⟩

/-! ## drayman/draymanlaw01.NumLaws -/
def numLaws_q9 {R : Type} (a38 : Int) (b39 : Int) (x40 : Int) (y41 : Int) (n42 : Int) (s43 : Int) (b44 : Bool) (k0 : Bool → Option R) (k1 : Int → Int → Int → Int → Option R) : Option R :=
  cond b44 (
    Option.bind (sAdd s43 (IntKind.i64.wrap (0 - b39))) fun y45 =>
    cond (!y45.2) (
      k0 false) (
      cond (y45.1 != a38) (
        k0 false) (
        k1 a38 x40 y41 n42))) (
    k1 a38 x40 y41 n42)
def numLaws_q12 {R : Type} (a22 : Int) (x23 : Int) (y24 : Int) (n25 : Int) (k0 : Bool → Option R) : Option R :=
  Option.bind (sAdd a22 0) fun y26 =>
  Option.bind (sMul a22 1) fun y27 =>
  Option.bind (sPick x23 n25) fun y28 =>
  cond (y26.1 == a22) (
    cond y26.2 (
      cond (y27.1 == a22) (
        cond y27.2 (
          cond (x23 == (0 : Int)) (
            cond ((drawOf x23) != (0 : Int)) (
              cond (decide (n25 < (1 : Int))) (
                cond (y28 == (0 : Int)) (
                  Option.bind (wakes01_d) fun y29 =>
                  k0 y29) (
                  cond (decide (n25 ≥ (1 : Int))) (
                    cond (decide (y28 ≥ (0 : Int))) (
                      cond (decide (y28 < n25)) (
                        Option.bind (wakes01_d) fun y30 =>
                        k0 y30) (
                        k0 false)) (
                      k0 false)) (
                    k0 false))) (
                cond (decide (n25 ≥ (1 : Int))) (
                  cond (decide (y28 ≥ (0 : Int))) (
                    cond (decide (y28 < n25)) (
                      Option.bind (wakes01_d) fun y31 =>
                      k0 y31) (
                      k0 false)) (
                    k0 false)) (
                  k0 false))) (
              k0 false)) (
            cond (y24 == (0 : Int)) (
              cond ((drawOf x23) != (0 : Int)) (
                cond (decide (n25 < (1 : Int))) (
                  cond (y28 == (0 : Int)) (
                    Option.bind (wakes01_d) fun y32 =>
                    k0 y32) (
                    cond (decide (n25 ≥ (1 : Int))) (
                      cond (decide (y28 ≥ (0 : Int))) (
                        cond (decide (y28 < n25)) (
                          Option.bind (wakes01_d) fun y33 =>
                          k0 y33) (
                          k0 false)) (
                        k0 false)) (
                      k0 false))) (
                  cond (decide (n25 ≥ (1 : Int))) (
                    cond (decide (y28 ≥ (0 : Int))) (
                      cond (decide (y28 < n25)) (
                        Option.bind (wakes01_d) fun y34 =>
                        k0 y34) (
                        k0 false)) (
                      k0 false)) (
                    k0 false))) (
                k0 false)) (
              cond (((drawOf x23) == (drawOf y24)) == (x23 == y24)) (
                cond ((drawOf x23) != (0 : Int)) (
                  cond (decide (n25 < (1 : Int))) (
                    cond (y28 == (0 : Int)) (
                      Option.bind (wakes01_d) fun y35 =>
                      k0 y35) (
                      cond (decide (n25 ≥ (1 : Int))) (
                        cond (decide (y28 ≥ (0 : Int))) (
                          cond (decide (y28 < n25)) (
                            Option.bind (wakes01_d) fun y36 =>
                            k0 y36) (
                            k0 false)) (
                          k0 false)) (
                        k0 false))) (
                    cond (decide (n25 ≥ (1 : Int))) (
                      cond (decide (y28 ≥ (0 : Int))) (
                        cond (decide (y28 < n25)) (
                          Option.bind (wakes01_d) fun y37 =>
                          k0 y37) (
                          k0 false)) (
                        k0 false)) (
                      k0 false))) (
                  k0 false)) (
                k0 false)))) (
          k0 false)) (
        k0 false)) (
      k0 false)) (
    k0 false)
def numLaws_b {R : Type} (a1 : Int) (b2 : Int) (x3 : Int) (y4 : Int) (n5 : Int) (k : Bool → Option R) : Option R :=
  Option.bind (sAdd a1 b2) fun y6 =>
  Option.bind (sAdd b2 a1) fun y7 =>
  Option.bind (sMul a1 b2) fun y8 =>
  Option.bind (sMul b2 a1) fun y9 =>
  cond (y6.1 != y7.1) (
    k false) (
    cond (y6.2 != y7.2) (
      k false) (
      cond (y8.1 != y9.1) (
        k false) (
        cond (y8.2 != y9.2) (
          k false) (
          cond y6.2 (
            numLaws_q9 a1 b2 x3 y4 n5 y6.1 (b2 != (-9223372036854775808 : Int)) k
              (fun (a11 : Int) (x12 : Int) (y13 : Int) (n14 : Int) =>
                numLaws_q12 a11 x12 y13 n14 k)) (
            numLaws_q9 a1 b2 x3 y4 n5 y6.1 false k
              (fun (a17 : Int) (x18 : Int) (y19 : Int) (n20 : Int) =>
                numLaws_q12 a17 x18 y19 n20 k))))))
def numLaws_E (y : Bool) : PV × List PV := ((PV.bool y), [])
def numLaws_D : List PV → Option (Bool)
  | [(PV.int .i64 a1), (PV.int .i64 b2), (PV.int .u32 x3), (PV.int .u32 y4), (PV.int .i64 n5)] => sNumLaws a1 b2 x3 y4 n5
  | _ => none
def numLaws_Γ : List (Nat × Ctr) := [(25, nAdd_C), (26, nMul_C), (30, nPick_C), (15, draw_C), (16, wakes01_C)]
def numLaws_C : Ctr := ⟨[none, none, none, none, none], Bool, numLaws_D, numLaws_E, true, .d⟩
def numLaws_cfg : List (Nat × LC) := [(4000012, ⟨[0, 2, 3, 4], [], [], []⟩),
  (4000009, ⟨[0, 1, 2, 3, 4, 11, 72], [], [], []⟩),
  (6000009, ⟨[10], [], [], []⟩),
  (5000009, ⟨[0, 2, 3, 4], [], [], []⟩),
  (6000012, ⟨[10], [], [], []⟩)]
def numLaws_pat : Nat → Option SP
  | _ => none
def numLaws_patj : Nat → Option SP
  | 9 => some ⟨sparse .undef [(0, (.val (.int .i64))), (1, (.val (.int .i64))), (2, (.val (.int .u32))), (3, (.val (.int .u32))), (4, (.val (.int .i64))), (11, (.val (.int .i64))), (72, (.val .bool))] 0 162, [], []⟩
  | 12 => some ⟨sparse .undef [(0, (.val (.int .i64))), (2, (.val (.int .u32))), (3, (.val (.int .u32))), (4, (.val (.int .i64)))] 0 162, [], []⟩
  | _ => none
def numLaws_J9 (n : Nat) (ls : List Leaf) (R : Type) (k : Ex → St → Option R) : Option R :=
  match ls with
  | [.int a38, .int b39, .int x40, .int y41, .int n42, .int s43, .bool b44] => numLaws_q9 a38 b39 x40 y41 n42 s43 b44 (fun y1046 => k .ret ⟨sparse .undef [(10, (TV.val (PV.bool y1046)))] 0 162, [], []⟩)
      (fun y1047 y1048 y1049 y1050 => k .normal ⟨sparse .undef [(0, (TV.val (PV.int .i64 y1047))), (2, (TV.val (PV.int .u32 y1048))), (3, (TV.val (PV.int .u32 y1049))), (4, (TV.val (PV.int .i64 y1050)))] 0 162, [], []⟩)
  | _ => none
def numLaws_J12 (n : Nat) (ls : List Leaf) (R : Type) (k : Ex → St → Option R) : Option R :=
  match ls with
  | [.int a22, .int x23, .int y24, .int n25] => numLaws_q12 a22 x23 y24 n25 (fun y2051 => k .ret ⟨sparse .undef [(10, (TV.val (PV.bool y2051)))] 0 162, [], []⟩)
  | _ => none
def numLaws_L (n key : Nat) (ls : List Leaf) (R : Type) (k : Ex → St → Option R) : Option R :=
  match key with
  | _ => none
def numLaws_J (n key : Nat) (ls : List Leaf) (R : Type) (k : Ex → St → Option R) : Option R :=
  match key with
  | 9 => numLaws_J9 n ls R k
  | 12 => numLaws_J12 n ls R k
  | _ => none
def numLaws_on : Code → Bool := onKeys [12, 9]
def numLaws_Λ : Nat → Loops := patL (normBy numLaws_cfg) numLaws_pat numLaws_L (normJ numLaws_cfg) numLaws_on numLaws_patj numLaws_J
theorem numLaws_stepq12 (n : Nat) (a22 : Int) (x23 : Int) (y24 : Int) (n25 : Int)  (R : Type) (k : Ex → St → Option R) :
    joinK T G0 (ctrOf numLaws_Γ) (normJ numLaws_cfg) (numLaws_Λ n) (codeAt [1, 1, 1, 1, 1, 1, 1] (bodyOf Try.f13)) (buildSt ⟨sparse .undef [(0, (.val (.int .i64))), (2, (.val (.int .u32))), (3, (.val (.int .u32))), (4, (.val (.int .i64)))] 0 162, [], []⟩ [.int a22, .int x23, .int y24, .int n25]) R k = numLaws_J12 n [.int a22, .int x23, .int y24, .int n25] R k := by kernel_rfl
theorem numLaws_stepq9 (n : Nat) (a38 : Int) (b39 : Int) (x40 : Int) (y41 : Int) (n42 : Int) (s43 : Int) (b44 : Bool)  (R : Type) (k : Ex → St → Option R) :
    joinK T G0 (ctrOf numLaws_Γ) (normJ numLaws_cfg) (numLaws_Λ n) (codeAt [1, 1, 1, 1, 1, 1, 0, 1] (bodyOf Try.f13)) (buildSt ⟨sparse .undef [(0, (.val (.int .i64))), (1, (.val (.int .i64))), (2, (.val (.int .u32))), (3, (.val (.int .u32))), (4, (.val (.int .i64))), (11, (.val (.int .i64))), (72, (.val .bool))] 0 162, [], []⟩ [.int a38, .int b39, .int x40, .int y41, .int n42, .int s43, .bool b44]) R k = numLaws_J9 n [.int a38, .int b39, .int x40, .int y41, .int n42, .int s43, .bool b44] R k := by kernel_rfl
theorem numLaws_eq (a1 : Int) (b2 : Int) (x3 : Int) (y4 : Int) (n5 : Int) :
    funK T G0 (ctrOf numLaws_Γ) (numLaws_Λ 0) .d true [none, none, none, none, none] (funOf Try.f13) [(PV.int .i64 a1), (PV.int .i64 b2), (PV.int .u32 x3), (PV.int .u32 y4), (PV.int .i64 n5)] = numLaws_b  a1 b2 x3 y4 n5 (fun a0 => some (numLaws_E a0)) := by kernel_rfl
theorem numLaws_inv {ps : List PV} {y : Bool} (h : numLaws_D ps = some y) : ∃ (a1 : Int) (b2 : Int) (x3 : Int) (y4 : Int) (n5 : Int), ps = [(PV.int .i64 a1), (PV.int .i64 b2), (PV.int .u32 x3), (PV.int .u32 y4), (PV.int .i64 n5)] := by
  unfold numLaws_D at h
  split at h
  · exact ⟨_, _, _, _, _, rfl⟩
  · cases h
theorem numLaws_loops : loopsOf (bodyOf Try.f13) = [] := by kernel_rfl
theorem numLaws_joins : (joinsOf (bodyOf Try.f13)).filter numLaws_on = [codeAt [1, 1, 1, 1, 1, 1, 1] (bodyOf Try.f13), codeAt [1, 1, 1, 1, 1, 1, 0, 1] (bodyOf Try.f13)] := by kernel_rfl
theorem numLaws_holds (hΓ : HoldsAll Try.prog G0 numLaws_Γ) (hok : ∀ (a1 : Int) (b2 : Int) (x3 : Int) (y4 : Int) (n5 : Int) (y : Bool), sNumLaws a1 b2 x3 y4 n5 = some y → ∀ (R : Type) (k : Bool → Option R), numLaws_b  a1 b2 x3 y4 n5 k = k y) : Holds Try.prog G0 13 numLaws_C := by
  refine fun_pat mixed tOk (ctrOf_ok hΓ) Try.func13 rfl rfl rfl rfl (F := funOf Try.f13) (normBy_ok numLaws_cfg) (pat := numLaws_pat) (L := numLaws_L) (normJ_ok numLaws_cfg) (on := numLaws_on) (patj := numLaws_patj) (J := numLaws_J) (fun c hc ls R k => ?_) (fun c hc p hp m ls R k r h => ?_) (fun c hc p hp m ls R k r h => ?_) (fun ps x h => ?_)
  · rw [show (funOf Try.f13).code = bodyOf Try.f13 from rfl, numLaws_loops] at hc
    cases hc
  · rw [show (funOf Try.f13).code = bodyOf Try.f13 from rfl, numLaws_loops] at hc
    cases hc
  · rw [show (funOf Try.f13).code = bodyOf Try.f13 from rfl, numLaws_joins] at hc
    simp only [List.mem_cons, List.not_mem_nil, or_false] at hc
    rcases hc with rfl | rfl
    · have hp' : p = ⟨sparse .undef [(0, (.val (.int .i64))), (2, (.val (.int .u32))), (3, (.val (.int .u32))), (4, (.val (.int .i64)))] 0 162, [], []⟩ := (Option.some.inj (hp : some _ = some p)).symm
      subst hp'
      change numLaws_J12 m ls R k = some r at h
      have h' := h
      unfold numLaws_J12 at h'
      split at h'
      · exact (numLaws_stepq12 m _ _ _ _ R k).trans h
      · cases h'
    · have hp' : p = ⟨sparse .undef [(0, (.val (.int .i64))), (1, (.val (.int .i64))), (2, (.val (.int .u32))), (3, (.val (.int .u32))), (4, (.val (.int .i64))), (11, (.val (.int .i64))), (72, (.val .bool))] 0 162, [], []⟩ := (Option.some.inj (hp : some _ = some p)).symm
      subst hp'
      change numLaws_J9 m ls R k = some r at h
      have h' := h
      unfold numLaws_J9 at h'
      split at h'
      · exact (numLaws_stepq9 m _ _ _ _ _ _ _ R k).trans h
      · cases h'
  · obtain ⟨y, hy, hx⟩ := bind_inv h
    cases hx
    obtain ⟨a1, b2, x3, y4, n5, rfl⟩ := numLaws_inv hy
    exact ⟨0, (numLaws_eq a1 b2 x3 y4 n5).trans (hok a1 b2 x3 y4 n5 y hy _ _)⟩

end
end Go.Proofs.YtgpjnppakffoiaaV
