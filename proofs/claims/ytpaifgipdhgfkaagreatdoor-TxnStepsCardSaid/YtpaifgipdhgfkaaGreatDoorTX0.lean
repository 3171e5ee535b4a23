/- What the functions of the program come to, as the reading machine has it: printed by auto.py. -/
import Derived.Test.YtpaifgipdhgfkaaGreatDoorVTab
import Derived.Test.YtpaifgipdhgfkaaGreatDoorAS
import Derived.Test.YtpaifgipdhgfkaaGreatDoorDL
namespace Go.Proofs.YtpaifgipdhgfkaaGreatDoorV
open Go
set_option maxRecDepth 100000
set_option linter.unusedVariables false
set_option linter.unusedSimpArgs false
noncomputable section
/-! ## drayman/draymankeep.Within -/
def aDraymankeepWithin_b {R : Type} (v1 : Int) (n2 : Int) (k : Int → Option R) : Option R :=
  cond (decide (n2 < (1 : Int))) (
    k 0) (
    if n2 = 0 then none else
    cond (decide ((Int.tmod v1 n2) < (0 : Int))) (
      k (IntKind.i64.wrap ((Int.tmod v1 n2) + n2))) (
      k (Int.tmod v1 n2)))
def aDraymankeepWithin_E (y : Int) : PV × Cs := ((PV.int .i64 y), [])
def aDraymankeepWithin_d (v1 : Int) (n2 : Int) : Option (Int) := aDraymankeepWithin_b v1 n2 fun a0 => some a0
def aDraymankeepWithin_D : Cs → Option (Int)
  | [(PV.int .i64 v1), (PV.int .i64 n2)] => aDraymankeepWithin_d v1 n2
  | _ => none
def aDraymankeepWithin_Γ : List (Nat × Cal) := []
def aDraymankeepWithin_C : Ctr := ⟨[none, none], Int, aDraymankeepWithin_D, aDraymankeepWithin_E, true, .d⟩
theorem aDraymankeepWithin_eq (v1 : Int) (n2 : Int) :
    funK T G0 (ctrOf aDraymankeepWithin_Γ) noL .d true [none, none] (funOf Tryz.f4) [(PV.int .i64 v1), (PV.int .i64 n2)] = aDraymankeepWithin_b  v1 n2 (fun a0 => some (aDraymankeepWithin_E a0)) := by kernel_rfl
theorem aDraymankeepWithin_inv {ps : Cs} {y : Int} (h : aDraymankeepWithin_D ps = some y) : ∃ (v1 : Int) (n2 : Int), ps = [(PV.int .i64 v1), (PV.int .i64 n2)] := by
  unfold aDraymankeepWithin_D at h
  split at h
  · exact ⟨_, _, rfl⟩
  · cases h
theorem aDraymankeepWithin_nat {R : Type} (v1 : Int) (n2 : Int) (k : Int → Option R) : aDraymankeepWithin_b v1 n2 k = Option.bind (aDraymankeepWithin_b v1 n2 fun a0 => some a0) fun y => k y := by
  unfold aDraymankeepWithin_b
  first | rfl | simp only [Option.bind_assoc, bind_cond, bind_ite, Option.bind_some, Option.bind_none]
theorem aDraymankeepWithin_holds (hΓ : HoldsAll Tryz.prog G0 aDraymankeepWithin_Γ) : Holds Tryz.prog G0 4 aDraymankeepWithin_C := by
  refine fun_ok mixed tOk (ctrOf_ok hΓ) Tryz.func4 rfl rfl rfl rfl (F := funOf Tryz.f4) (fun ps x h => ?_)
  obtain ⟨y, hy, hx⟩ := bind_inv h
  cases hx
  obtain ⟨v1, n2, rfl⟩ := aDraymankeepWithin_inv hy
  have hy' : aDraymankeepWithin_d v1 n2 = some y := hy
  refine ⟨noL, noL_ok _, (aDraymankeepWithin_eq v1 n2).trans ?_⟩
  unfold aDraymankeepWithin_d at hy'
  rw [aDraymankeepWithin_nat, hy']
  rfl

/-! ## drayman/txn.Steps -/
def aTxnSteps_b {R : Type} (c1 : Int) (c2 : Int) (c3 : Int) (c4 : Int) (c5 : Int) (c6 : Int) (c7 : Int) (c8 : Int) (k : Int → Option R) : Option R :=
  cond (c1 == (8 : Int)) (
    k (IntKind.i64.wrap (c6 + (2 : Int)))) (
    k 3)
def aTxnSteps_E (y : Int) : PV × Cs := ((PV.int .i64 y), [])
def aTxnSteps_d (c1 : Int) (c2 : Int) (c3 : Int) (c4 : Int) (c5 : Int) (c6 : Int) (c7 : Int) (c8 : Int) : Option (Int) := aTxnSteps_b c1 c2 c3 c4 c5 c6 c7 c8 fun a0 => some a0
def aTxnSteps_D : Cs → Option (Int)
  | [(PV.agg [(PV.int .i64 c1), (PV.int .i64 c2), (PV.int .i64 c3), (PV.int .i64 c4), (PV.int .i64 c5), (PV.int .i64 c6), (PV.int .i64 c7), (PV.int .i64 c8)])] => aTxnSteps_d c1 c2 c3 c4 c5 c6 c7 c8
  | _ => none
def aTxnSteps_Γ : List (Nat × Cal) := [(1000000001, ro_I)]
def aTxnSteps_C : Ctr := ⟨[none], Int, aTxnSteps_D, aTxnSteps_E, true, .d⟩
theorem aTxnSteps_eq (c1 : Int) (c2 : Int) (c3 : Int) (c4 : Int) (c5 : Int) (c6 : Int) (c7 : Int) (c8 : Int) :
    funK T G0 (ctrOf aTxnSteps_Γ) noL .d true [none] (funOf Tryz.f5) [(PV.agg [(PV.int .i64 c1), (PV.int .i64 c2), (PV.int .i64 c3), (PV.int .i64 c4), (PV.int .i64 c5), (PV.int .i64 c6), (PV.int .i64 c7), (PV.int .i64 c8)])] = aTxnSteps_b  c1 c2 c3 c4 c5 c6 c7 c8 (fun a0 => some (aTxnSteps_E a0)) := by kernel_rfl
theorem aTxnSteps_inv {ps : Cs} {y : Int} (h : aTxnSteps_D ps = some y) : ∃ (c1 : Int) (c2 : Int) (c3 : Int) (c4 : Int) (c5 : Int) (c6 : Int) (c7 : Int) (c8 : Int), ps = [(PV.agg [(PV.int .i64 c1), (PV.int .i64 c2), (PV.int .i64 c3), (PV.int .i64 c4), (PV.int .i64 c5), (PV.int .i64 c6), (PV.int .i64 c7), (PV.int .i64 c8)])] := by
  unfold aTxnSteps_D at h
  split at h
  · exact ⟨_, _, _, _, _, _, _, _, rfl⟩
  · cases h
theorem aTxnSteps_nat {R : Type} (c1 : Int) (c2 : Int) (c3 : Int) (c4 : Int) (c5 : Int) (c6 : Int) (c7 : Int) (c8 : Int) (k : Int → Option R) : aTxnSteps_b c1 c2 c3 c4 c5 c6 c7 c8 k = Option.bind (aTxnSteps_b c1 c2 c3 c4 c5 c6 c7 c8 fun a0 => some a0) fun y => k y := by
  unfold aTxnSteps_b
  first | rfl | simp only [Option.bind_assoc, bind_cond, bind_ite, Option.bind_some, Option.bind_none]
theorem aTxnSteps_holds (hΓ : HoldsAll Tryz.prog G0 aTxnSteps_Γ) : Holds Tryz.prog G0 5 aTxnSteps_C := by
  refine fun_ok mixed tOk (ctrOf_ok hΓ) Tryz.func5 rfl rfl rfl rfl (F := funOf Tryz.f5) (fun ps x h => ?_)
  obtain ⟨y, hy, hx⟩ := bind_inv h
  cases hx
  obtain ⟨c1, c2, c3, c4, c5, c6, c7, c8, rfl⟩ := aTxnSteps_inv hy
  have hy' : aTxnSteps_d c1 c2 c3 c4 c5 c6 c7 c8 = some y := hy
  refine ⟨noL, noL_ok _, (aTxnSteps_eq c1 c2 c3 c4 c5 c6 c7 c8).trans ?_⟩
  unfold aTxnSteps_d at hy'
  rw [aTxnSteps_nat, hy']
  rfl

/-! ## drayman/draymanplay.num -/
def aPNum_b {R : Type} (l1 : Rs) (k2 : Int) (k : Int → Option R) : Option R :=
  cond ((l1.length : Int) == (0 : Int)) (
    k (IntKind.i64.wrap (k2 * (7 : Int)))) (
    if (l1.length : Int) = 0 then none else
    Option.bind (idx l1 (Int.tmod k2 (l1.length : Int))) fun e3 =>
    if e3.length = 1 then
      Option.bind (e3[0]?) fun c4 =>
      Option.bind (PV.asI .i64 c4) fun n5 =>
      if (l1.length : Int) = 0 then none else
      if (IntKind.i64.wrap ((1 : Int) + (IntKind.i64.wrap (Int.tdiv k2 (l1.length : Int))))) = 0 then none else
      if (l1.length : Int) = 0 then none else
      k (IntKind.i64.wrap ((IntKind.i64.wrap (Int.tdiv n5 (IntKind.i64.wrap ((1 : Int) + (IntKind.i64.wrap (Int.tdiv k2 (l1.length : Int))))))) + (IntKind.i64.wrap (Int.tdiv k2 (l1.length : Int)))))
    else none)
def aPNum_E (y : Int) : PV × Cs := ((PV.int .i64 y), [])
def aPNum_d (l1 : Rs) (k2 : Int) : Option (Int) := aPNum_b l1 k2 fun a0 => some a0
def aPNum_D : Cs → Option (Int)
  | [(PV.fs l1), (PV.int .i64 k2)] => aPNum_d l1 k2
  | _ => none
def aPNum_Γ : List (Nat × Cal) := []
def aPNum_C : Ctr := ⟨[none, none], Int, aPNum_D, aPNum_E, true, .d⟩
theorem aPNum_eq (l1 : Rs) (k2 : Int) :
    funK T G0 (ctrOf aPNum_Γ) noL .d true [none, none] (funOf Tryz.f13) [(PV.fs l1), (PV.int .i64 k2)] = aPNum_b  l1 k2 (fun a0 => some (aPNum_E a0)) := by kernel_rfl
theorem aPNum_inv {ps : Cs} {y : Int} (h : aPNum_D ps = some y) : ∃ (l1 : Rs) (k2 : Int), ps = [(PV.fs l1), (PV.int .i64 k2)] := by
  unfold aPNum_D at h
  split at h
  · exact ⟨_, _, rfl⟩
  · cases h
theorem aPNum_nat {R : Type} (l1 : Rs) (k2 : Int) (k : Int → Option R) : aPNum_b l1 k2 k = Option.bind (aPNum_b l1 k2 fun a0 => some a0) fun y => k y := by
  unfold aPNum_b
  first | rfl | simp only [Option.bind_assoc, bind_cond, bind_ite, Option.bind_some, Option.bind_none]
theorem aPNum_holds (hΓ : HoldsAll Tryz.prog G0 aPNum_Γ) : Holds Tryz.prog G0 13 aPNum_C := by
  refine fun_ok mixed tOk (ctrOf_ok hΓ) Tryz.func13 rfl rfl rfl rfl (F := funOf Tryz.f13) (fun ps x h => ?_)
  obtain ⟨y, hy, hx⟩ := bind_inv h
  cases hx
  obtain ⟨l1, k2, rfl⟩ := aPNum_inv hy
  have hy' : aPNum_d l1 k2 = some y := hy
  refine ⟨noL, noL_ok _, (aPNum_eq l1 k2).trans ?_⟩
  unfold aPNum_d at hy'
  rw [aPNum_nat, hy']
  rfl

/-! ## drayman/draymanplay.Inst -/
def aPInst_l32 {R : Type} : Nat → Rs → Int → Int → Int → Rs → Rs → Rs → Rs → Rs → (Rs → Int → Int → Rs → Rs → Rs → Rs → Rs → Option R) → Option R
  | 0, _, _, _, _, _, _, _, _, _, _ => none
  | n + 1, l255, size256, a257, b258, es259, es260, es261, es262, es263, k0 =>
    cond (decide (b258 ≤ size256)) (
      Option.bind (aPNum_d l255 (IntKind.i64.wrap ((IntKind.i64.wrap ((20 : Int) + (IntKind.i64.wrap ((3 : Int) * a257)))) + (IntKind.i64.wrap ((5 : Int) * b258))))) fun y264 =>
      Option.bind (aDraymankeepWithin_d y264 14) fun y265 =>
      cond (a257 == b258) (
        if (es263.length + ([[(PV.int .i64 0)]] : Rs).length) * 8 ≤ maxBytes then
          aPInst_l32 n l255 size256 a257 (IntKind.i64.wrap (b258 + (1 : Int))) es259 es260 es261 es262 (es263 ++ [[(PV.int .i64 0)]]) k0
        else none) (
        if (es263.length + ([[(PV.int .i64 (IntKind.i64.wrap ((1 : Int) + y265)))]] : Rs).length) * 8 ≤ maxBytes then
          aPInst_l32 n l255 size256 a257 (IntKind.i64.wrap (b258 + (1 : Int))) es259 es260 es261 es262 (es263 ++ [[(PV.int .i64 (IntKind.i64.wrap ((1 : Int) + y265)))]]) k0
        else none)) (
      k0 l255 size256 a257 es259 es260 es261 es262 es263)
def aPInst_q27 {R : Type} (n : Nat) (l318 : Rs) (size319 : Int) (k320 : Int) (a321 : Int) (b322 : Int) (es323 : Rs) (es324 : Rs) (es325 : Rs) (k0 : Rs → Int → Int → Rs → Rs → Rs → Option R) : Option R :=
  if (es325.length + ([[(PV.int .i64 a321), (PV.int .i64 b322)]] : Rs).length) * 16 ≤ maxBytes then
    k0 l318 size319 k320 es323 es324 (es325 ++ [[(PV.int .i64 a321), (PV.int .i64 b322)]])
  else none
def aPInst_q16 {R : Type} (n : Nat) (l266 : Rs) (size267 : Int) (k268 : Int) (n269 : Int) (es270 : Rs) (es271 : Rs) (i272 : Int) (i273 : Int) (i274 : Int) (i275 : Int) (k0 : Rs → Int → Int → Rs → Rs → Option R) : Option R :=
  Option.bind (aDraymankeepWithin_d n269 9) fun y276 =>
  cond (y276 == (8 : Int)) (
    Option.bind (aDraymankeepWithin_d (IntKind.i64.wrap (Int.tdiv n269 (9 : Int))) 4) fun y277 =>
    if (es271.length + ([[(PV.int .i64 (IntKind.i64.wrap ((-1 : Int) - y277))), (PV.int .i64 i273), (PV.int .i64 i274), (PV.int .i64 i275)]] : Rs).length) * 32 ≤ maxBytes then
      k0 l266 size267 k268 es270 (es271 ++ [[(PV.int .i64 (IntKind.i64.wrap ((-1 : Int) - y277))), (PV.int .i64 i273), (PV.int .i64 i274), (PV.int .i64 i275)]])
    else none) (
    if (es271.length + ([[(PV.int .i64 i272), (PV.int .i64 i273), (PV.int .i64 i274), (PV.int .i64 i275)]] : Rs).length) * 32 ≤ maxBytes then
      k0 l266 size267 k268 es270 (es271 ++ [[(PV.int .i64 i272), (PV.int .i64 i273), (PV.int .i64 i274), (PV.int .i64 i275)]])
    else none)
def aPInst_q25jx01 {R : Type} (n : Nat) (es284 : Rs) (a281 : Int) (b282 : Int) (y287 : Int) (l278 : Rs) (size279 : Int) (k280 : Int) (es283 : Rs) (es285 : Rs) (k0 : Rs → Int → Int → Rs → Rs → Rs → Option R) : Option R :=
  Option.bind (es284[(Int.toNat (IntKind.i64.wrap (a281 - (1 : Int))))]?) fun e288 =>
  Option.bind (e288[0]?) fun c289 =>
  if 0 ≤ (IntKind.i64.wrap (b282 - (1 : Int))) ∧ (IntKind.i64.wrap (b282 - (1 : Int))) < ((List.set es284 (Int.toNat (IntKind.i64.wrap (a281 - (1 : Int)))) (List.set e288 0 (PV.int .i64 y287))).length : Int) then
    Option.bind ((List.set es284 (Int.toNat (IntKind.i64.wrap (a281 - (1 : Int)))) (List.set e288 0 (PV.int .i64 y287)))[(Int.toNat (IntKind.i64.wrap (b282 - (1 : Int))))]?) fun e290 =>
    Option.bind (e290[0]?) fun c291 =>
    aPInst_q27 n l278 size279 k280 a281 b282 es283 (List.set (List.set es284 (Int.toNat (IntKind.i64.wrap (a281 - (1 : Int)))) (List.set e288 0 (PV.int .i64 y287))) (Int.toNat (IntKind.i64.wrap (b282 - (1 : Int)))) (List.set e290 0 (PV.int .i64 (IntKind.i64.wrap (0 - y287))))) es285 k0
  else none
def aPInst_q25 {R : Type} (n : Nat) (l278 : Rs) (size279 : Int) (k280 : Int) (a281 : Int) (b282 : Int) (es283 : Rs) (es284 : Rs) (es285 : Rs) (k0 : Rs → Int → Int → Rs → Rs → Rs → Option R) : Option R :=
  Option.bind (aPNum_d l278 (IntKind.i64.wrap ((16 : Int) + k280))) fun y286 =>
  Option.bind (aDraymankeepWithin_d y286 9) fun y287 =>
  meet (
    if 0 ≤ (IntKind.i64.wrap (a281 - (1 : Int))) ∧ (IntKind.i64.wrap (a281 - (1 : Int))) < (es284.length : Int) then
      (fun (z1 : Option R) =>
        meet (
          z1) (
          z1)) (
        aPInst_q25jx01 n es284 a281 b282 y287 l278 size279 k280 es283 es285 k0)
    else none) (
    if 0 ≤ (IntKind.i64.wrap (a281 - (1 : Int))) ∧ (IntKind.i64.wrap (a281 - (1 : Int))) < (es284.length : Int) then
      aPInst_q25jx01 n es284 a281 b282 y287 l278 size279 k280 es283 es285 k0
    else none)
def aPInst_l28 {R : Type} : Nat → Rs → Int → Int → Rs → Rs → Rs → Rs → (Rs → Rs → Rs → Rs → Option R) → Option R
  | 0, _, _, _, _, _, _, _, _ => none
  | n + 1, l240, size241, a242, es243, es244, es245, es246, k0 =>
    cond (decide (a242 ≤ size241)) (
      aPInst_l32 n l240 size241 a242 0 es243 es244 es245 es246 []
        (fun (l247 : Rs) (size248 : Int) (a249 : Int) (es250 : Rs) (es251 : Rs) (es252 : Rs) (es253 : Rs) (es254 : Rs) =>
          if (es253.length + ([[(PV.fs es254)]] : Rs).length) * 24 ≤ maxBytes then
            aPInst_l28 n l247 size248 (IntKind.i64.wrap (a249 + (1 : Int))) es250 es251 es252 (es253 ++ [[(PV.fs es254)]]) k0
          else none)) (
      k0 es243 es244 es245 es246)
def aPInst_l19 {R : Type} : Nat → Rs → Int → Int → Rs → Rs → Rs → (Rs → Int → Rs → Rs → Rs → Option R) → Option R
  | 0, _, _, _, _, _, _, _ => none
  | n + 1, l218, size219, k220, es221, es222, es223, k0 =>
    Option.bind (aPNum_d l218 14) fun y224 =>
    Option.bind (aDraymankeepWithin_d y224 3) fun y225 =>
    cond (decide (k220 < y225)) (
      cond (decide ((IntKind.i64.wrap ((IntKind.i64.wrap ((2 : Int) * k220)) + (2 : Int))) ≤ size219)) (
        Option.bind (aPNum_d l218 (IntKind.i64.wrap ((15 : Int) + k220))) fun y226 =>
        Option.bind (aDraymankeepWithin_d y226 2) fun y227 =>
        cond (y227 == (1 : Int)) (
          aPInst_q25 n l218 size219 k220 (IntKind.i64.wrap ((IntKind.i64.wrap ((2 : Int) * k220)) + (2 : Int))) (IntKind.i64.wrap ((IntKind.i64.wrap ((2 : Int) * k220)) + (1 : Int))) es221 es222 es223
            (fun (l228 : Rs) (size229 : Int) (k230 : Int) (es231 : Rs) (es232 : Rs) (es233 : Rs) =>
              aPInst_l19 n l228 size229 (IntKind.i64.wrap (k230 + (1 : Int))) es231 es232 es233 k0)) (
          aPInst_q25 n l218 size219 k220 (IntKind.i64.wrap ((IntKind.i64.wrap ((2 : Int) * k220)) + (1 : Int))) (IntKind.i64.wrap ((IntKind.i64.wrap ((2 : Int) * k220)) + (2 : Int))) es221 es222 es223
            (fun (l234 : Rs) (size235 : Int) (k236 : Int) (es237 : Rs) (es238 : Rs) (es239 : Rs) =>
              aPInst_l19 n l234 size235 (IntKind.i64.wrap (k236 + (1 : Int))) es237 es238 es239 k0))) (
        k0 l218 size219 es221 es222 es223)) (
      k0 l218 size219 es221 es222 es223)
def aPInst_l10 {R : Type} : Nat → Rs → Int → Int → Rs → Rs → (Rs → Int → Rs → Rs → Option R) → Option R
  | 0, _, _, _, _, _, _ => none
  | n + 1, l184, size185, k186, es187, es188, k0 =>
    cond (decide (k186 < size185)) (
      Option.bind (aPNum_d l184 (IntKind.i64.wrap ((5 : Int) + k186))) fun y189 =>
      Option.bind (aDraymankeepWithin_d y189 8) fun y190 =>
      Option.bind (aDraymankeepWithin_d (IntKind.i64.wrap (Int.tdiv y189 (8 : Int))) 30) fun y191 =>
      Option.bind (aDraymankeepWithin_d (IntKind.i64.wrap (Int.tdiv y189 (240 : Int))) 6) fun y192 =>
      Option.bind (aDraymankeepWithin_d (IntKind.i64.wrap (Int.tdiv y189 (7 : Int))) 4) fun y193 =>
      meet (
        if 0 ≤ y193 ∧ y193 < (4 : Int) then
          Option.bind (([[(PV.int .i64 900)], [(PV.int .i64 60)], [(PV.int .i64 25)], [(PV.int .i64 8)]] : Rs)[(Int.toNat y193)]?) fun e194 =>
          Option.bind (e194[0]?) fun c195 =>
          Option.bind (PV.asI .i64 c195) fun n196 =>
          aPInst_q16 n l184 size185 k186 y189 es187 es188 y190 y191 (if (1000 : Int) < (IntKind.i64.wrap (y191 + n196)) then (1000 : Int) else (IntKind.i64.wrap (y191 + n196))) y192
            (fun (l197 : Rs) (size198 : Int) (k199 : Int) (es200 : Rs) (es201 : Rs) =>
              aPInst_l10 n l197 size198 (IntKind.i64.wrap (k199 + (1 : Int))) es200 es201 k0)
        else none) (
        if 0 ≤ y193 ∧ y193 < (4 : Int) then
          (fun (z2 : Option R) =>
            meet (
              z2) (
              z2)) (
            Option.bind (([[(PV.int .i64 900)], [(PV.int .i64 60)], [(PV.int .i64 25)], [(PV.int .i64 8)]] : Rs)[(Int.toNat y193)]?) fun e202 =>
            Option.bind (e202[0]?) fun c203 =>
            Option.bind (PV.asI .i64 c203) fun n204 =>
            aPInst_q16 n l184 size185 k186 y189 es187 es188 y190 y191 (if (1000 : Int) < (IntKind.i64.wrap (y191 + n204)) then (1000 : Int) else (IntKind.i64.wrap (y191 + n204))) y192
              (fun (l205 : Rs) (size206 : Int) (k207 : Int) (es208 : Rs) (es209 : Rs) =>
                aPInst_l10 n l205 size206 (IntKind.i64.wrap (k207 + (1 : Int))) es208 es209 k0))
        else none)) (
      k0 l184 size185 es187 es188)
def aPInst_l4 {R : Type} : Nat → Rs → Int → Rs → (Rs → Rs → Option R) → Option R
  | 0, _, _, _, _ => none
  | n + 1, l19, k20, es21, k0 =>
    Option.bind (aPNum_d l19 0) fun y22 =>
    Option.bind (aDraymankeepWithin_d y22 3) fun y23 =>
    cond (decide (k20 < (IntKind.i64.wrap ((1 : Int) + y23)))) (
      Option.bind (aPNum_d l19 (IntKind.i64.wrap ((1 : Int) + k20))) fun y24 =>
      Option.bind (aDraymankeepWithin_d y24 4) fun y25 =>
      Option.bind (aDraymankeepWithin_d (IntKind.i64.wrap (Int.tdiv y24 (4 : Int))) 9) fun y26 =>
      Option.bind (aDraymankeepWithin_d (IntKind.i64.wrap (Int.tdiv y24 (36 : Int))) 4) fun y27 =>
      meet (
        meet (
          if 0 ≤ y25 ∧ y25 < (4 : Int) then
            meet (
              Option.bind (([[(PV.int .i64 20)], [(PV.int .i64 60)], [(PV.int .i64 9)], [(PV.int .i64 30)]] : Rs)[(Int.toNat y25)]?) fun e28 =>
              Option.bind (e28[0]?) fun c29 =>
              Option.bind (PV.asI .i64 c29) fun n30 =>
              if 0 ≤ y27 ∧ y27 < (4 : Int) then
                Option.bind (([[(PV.int .i64 1000)], [(PV.int .i64 200)], [(PV.int .i64 90)], [(PV.int .i64 60)]] : Rs)[(Int.toNat y27)]?) fun e31 =>
                Option.bind (e31[0]?) fun c32 =>
                Option.bind (PV.asI .i64 c32) fun n33 =>
                if (es21.length + ([[(PV.int .i64 n30), (PV.int .i64 y26), (PV.int .i64 n33)]] : Rs).length) * 24 ≤ maxBytes then
                  aPInst_l4 n l19 (IntKind.i64.wrap (k20 + (1 : Int))) (es21 ++ [[(PV.int .i64 n30), (PV.int .i64 y26), (PV.int .i64 n33)]]) k0
                else none
              else none) (
              if 0 ≤ y27 ∧ y27 < (4 : Int) then
                meet (
                  Option.bind (([[(PV.int .i64 20)], [(PV.int .i64 60)], [(PV.int .i64 9)], [(PV.int .i64 30)]] : Rs)[(Int.toNat y25)]?) fun e34 =>
                  Option.bind (e34[0]?) fun c35 =>
                  Option.bind (PV.asI .i64 c35) fun n36 =>
                  Option.bind (([[(PV.int .i64 1000)], [(PV.int .i64 200)], [(PV.int .i64 90)], [(PV.int .i64 60)]] : Rs)[(Int.toNat y27)]?) fun e37 =>
                  Option.bind (e37[0]?) fun c38 =>
                  Option.bind (PV.asI .i64 c38) fun n39 =>
                  if (es21.length + ([[(PV.int .i64 n36), (PV.int .i64 y26), (PV.int .i64 n39)]] : Rs).length) * 24 ≤ maxBytes then
                    aPInst_l4 n l19 (IntKind.i64.wrap (k20 + (1 : Int))) (es21 ++ [[(PV.int .i64 n36), (PV.int .i64 y26), (PV.int .i64 n39)]]) k0
                  else none) (
                  Option.bind (([[(PV.int .i64 1000)], [(PV.int .i64 200)], [(PV.int .i64 90)], [(PV.int .i64 60)]] : Rs)[(Int.toNat y27)]?) fun e40 =>
                  Option.bind (e40[0]?) fun c41 =>
                  Option.bind (PV.asI .i64 c41) fun n42 =>
                  Option.bind (([[(PV.int .i64 20)], [(PV.int .i64 60)], [(PV.int .i64 9)], [(PV.int .i64 30)]] : Rs)[(Int.toNat y25)]?) fun e43 =>
                  Option.bind (e43[0]?) fun c44 =>
                  Option.bind (PV.asI .i64 c44) fun n45 =>
                  if (es21.length + ([[(PV.int .i64 n45), (PV.int .i64 y26), (PV.int .i64 n42)]] : Rs).length) * 24 ≤ maxBytes then
                    aPInst_l4 n l19 (IntKind.i64.wrap (k20 + (1 : Int))) (es21 ++ [[(PV.int .i64 n45), (PV.int .i64 y26), (PV.int .i64 n42)]]) k0
                  else none)
              else none)
          else none) (
          if 0 ≤ y27 ∧ y27 < (4 : Int) then
            meet (
              if 0 ≤ y25 ∧ y25 < (4 : Int) then
                meet (
                  Option.bind (([[(PV.int .i64 20)], [(PV.int .i64 60)], [(PV.int .i64 9)], [(PV.int .i64 30)]] : Rs)[(Int.toNat y25)]?) fun e46 =>
                  Option.bind (e46[0]?) fun c47 =>
                  Option.bind (PV.asI .i64 c47) fun n48 =>
                  Option.bind (([[(PV.int .i64 1000)], [(PV.int .i64 200)], [(PV.int .i64 90)], [(PV.int .i64 60)]] : Rs)[(Int.toNat y27)]?) fun e49 =>
                  Option.bind (e49[0]?) fun c50 =>
                  Option.bind (PV.asI .i64 c50) fun n51 =>
                  if (es21.length + ([[(PV.int .i64 n48), (PV.int .i64 y26), (PV.int .i64 n51)]] : Rs).length) * 24 ≤ maxBytes then
                    aPInst_l4 n l19 (IntKind.i64.wrap (k20 + (1 : Int))) (es21 ++ [[(PV.int .i64 n48), (PV.int .i64 y26), (PV.int .i64 n51)]]) k0
                  else none) (
                  Option.bind (([[(PV.int .i64 1000)], [(PV.int .i64 200)], [(PV.int .i64 90)], [(PV.int .i64 60)]] : Rs)[(Int.toNat y27)]?) fun e52 =>
                  Option.bind (e52[0]?) fun c53 =>
                  Option.bind (PV.asI .i64 c53) fun n54 =>
                  Option.bind (([[(PV.int .i64 20)], [(PV.int .i64 60)], [(PV.int .i64 9)], [(PV.int .i64 30)]] : Rs)[(Int.toNat y25)]?) fun e55 =>
                  Option.bind (e55[0]?) fun c56 =>
                  Option.bind (PV.asI .i64 c56) fun n57 =>
                  if (es21.length + ([[(PV.int .i64 n57), (PV.int .i64 y26), (PV.int .i64 n54)]] : Rs).length) * 24 ≤ maxBytes then
                    aPInst_l4 n l19 (IntKind.i64.wrap (k20 + (1 : Int))) (es21 ++ [[(PV.int .i64 n57), (PV.int .i64 y26), (PV.int .i64 n54)]]) k0
                  else none)
              else none) (
              Option.bind (([[(PV.int .i64 1000)], [(PV.int .i64 200)], [(PV.int .i64 90)], [(PV.int .i64 60)]] : Rs)[(Int.toNat y27)]?) fun e58 =>
              Option.bind (e58[0]?) fun c59 =>
              Option.bind (PV.asI .i64 c59) fun n60 =>
              if 0 ≤ y25 ∧ y25 < (4 : Int) then
                Option.bind (([[(PV.int .i64 20)], [(PV.int .i64 60)], [(PV.int .i64 9)], [(PV.int .i64 30)]] : Rs)[(Int.toNat y25)]?) fun e61 =>
                Option.bind (e61[0]?) fun c62 =>
                Option.bind (PV.asI .i64 c62) fun n63 =>
                if (es21.length + ([[(PV.int .i64 n63), (PV.int .i64 y26), (PV.int .i64 n60)]] : Rs).length) * 24 ≤ maxBytes then
                  aPInst_l4 n l19 (IntKind.i64.wrap (k20 + (1 : Int))) (es21 ++ [[(PV.int .i64 n63), (PV.int .i64 y26), (PV.int .i64 n60)]]) k0
                else none
              else none)
          else none)) (
        meet (
          if 0 ≤ y25 ∧ y25 < (4 : Int) then
            meet (
              meet (
                Option.bind (([[(PV.int .i64 20)], [(PV.int .i64 60)], [(PV.int .i64 9)], [(PV.int .i64 30)]] : Rs)[(Int.toNat y25)]?) fun e64 =>
                Option.bind (e64[0]?) fun c65 =>
                Option.bind (PV.asI .i64 c65) fun n66 =>
                if 0 ≤ y27 ∧ y27 < (4 : Int) then
                  Option.bind (([[(PV.int .i64 1000)], [(PV.int .i64 200)], [(PV.int .i64 90)], [(PV.int .i64 60)]] : Rs)[(Int.toNat y27)]?) fun e67 =>
                  Option.bind (e67[0]?) fun c68 =>
                  Option.bind (PV.asI .i64 c68) fun n69 =>
                  if (es21.length + ([[(PV.int .i64 n66), (PV.int .i64 y26), (PV.int .i64 n69)]] : Rs).length) * 24 ≤ maxBytes then
                    aPInst_l4 n l19 (IntKind.i64.wrap (k20 + (1 : Int))) (es21 ++ [[(PV.int .i64 n66), (PV.int .i64 y26), (PV.int .i64 n69)]]) k0
                  else none
                else none) (
                if 0 ≤ y27 ∧ y27 < (4 : Int) then
                  meet (
                    Option.bind (([[(PV.int .i64 20)], [(PV.int .i64 60)], [(PV.int .i64 9)], [(PV.int .i64 30)]] : Rs)[(Int.toNat y25)]?) fun e70 =>
                    Option.bind (e70[0]?) fun c71 =>
                    Option.bind (PV.asI .i64 c71) fun n72 =>
                    Option.bind (([[(PV.int .i64 1000)], [(PV.int .i64 200)], [(PV.int .i64 90)], [(PV.int .i64 60)]] : Rs)[(Int.toNat y27)]?) fun e73 =>
                    Option.bind (e73[0]?) fun c74 =>
                    Option.bind (PV.asI .i64 c74) fun n75 =>
                    if (es21.length + ([[(PV.int .i64 n72), (PV.int .i64 y26), (PV.int .i64 n75)]] : Rs).length) * 24 ≤ maxBytes then
                      aPInst_l4 n l19 (IntKind.i64.wrap (k20 + (1 : Int))) (es21 ++ [[(PV.int .i64 n72), (PV.int .i64 y26), (PV.int .i64 n75)]]) k0
                    else none) (
                    Option.bind (([[(PV.int .i64 1000)], [(PV.int .i64 200)], [(PV.int .i64 90)], [(PV.int .i64 60)]] : Rs)[(Int.toNat y27)]?) fun e76 =>
                    Option.bind (e76[0]?) fun c77 =>
                    Option.bind (PV.asI .i64 c77) fun n78 =>
                    Option.bind (([[(PV.int .i64 20)], [(PV.int .i64 60)], [(PV.int .i64 9)], [(PV.int .i64 30)]] : Rs)[(Int.toNat y25)]?) fun e79 =>
                    Option.bind (e79[0]?) fun c80 =>
                    Option.bind (PV.asI .i64 c80) fun n81 =>
                    if (es21.length + ([[(PV.int .i64 n81), (PV.int .i64 y26), (PV.int .i64 n78)]] : Rs).length) * 24 ≤ maxBytes then
                      aPInst_l4 n l19 (IntKind.i64.wrap (k20 + (1 : Int))) (es21 ++ [[(PV.int .i64 n81), (PV.int .i64 y26), (PV.int .i64 n78)]]) k0
                    else none)
                else none)) (
              meet (
                Option.bind (([[(PV.int .i64 20)], [(PV.int .i64 60)], [(PV.int .i64 9)], [(PV.int .i64 30)]] : Rs)[(Int.toNat y25)]?) fun e82 =>
                Option.bind (e82[0]?) fun c83 =>
                Option.bind (PV.asI .i64 c83) fun n84 =>
                meet (
                  if 0 ≤ y27 ∧ y27 < (4 : Int) then
                    Option.bind (([[(PV.int .i64 1000)], [(PV.int .i64 200)], [(PV.int .i64 90)], [(PV.int .i64 60)]] : Rs)[(Int.toNat y27)]?) fun e85 =>
                    Option.bind (e85[0]?) fun c86 =>
                    Option.bind (PV.asI .i64 c86) fun n87 =>
                    if (es21.length + ([[(PV.int .i64 n84), (PV.int .i64 y26), (PV.int .i64 n87)]] : Rs).length) * 24 ≤ maxBytes then
                      aPInst_l4 n l19 (IntKind.i64.wrap (k20 + (1 : Int))) (es21 ++ [[(PV.int .i64 n84), (PV.int .i64 y26), (PV.int .i64 n87)]]) k0
                    else none
                  else none) (
                  if 0 ≤ y27 ∧ y27 < (4 : Int) then
                    meet (
                      Option.bind (([[(PV.int .i64 1000)], [(PV.int .i64 200)], [(PV.int .i64 90)], [(PV.int .i64 60)]] : Rs)[(Int.toNat y27)]?) fun e88 =>
                      Option.bind (e88[0]?) fun c89 =>
                      Option.bind (PV.asI .i64 c89) fun n90 =>
                      if (es21.length + ([[(PV.int .i64 n84), (PV.int .i64 y26), (PV.int .i64 n90)]] : Rs).length) * 24 ≤ maxBytes then
                        aPInst_l4 n l19 (IntKind.i64.wrap (k20 + (1 : Int))) (es21 ++ [[(PV.int .i64 n84), (PV.int .i64 y26), (PV.int .i64 n90)]]) k0
                      else none) (
                      Option.bind (([[(PV.int .i64 1000)], [(PV.int .i64 200)], [(PV.int .i64 90)], [(PV.int .i64 60)]] : Rs)[(Int.toNat y27)]?) fun e91 =>
                      Option.bind (e91[0]?) fun c92 =>
                      Option.bind (PV.asI .i64 c92) fun n93 =>
                      (fun (z3 : Option R) =>
                        meet (
                          z3) (
                          meet (
                            z3) (
                            z3))) (
                        if (es21.length + ([[(PV.int .i64 n84), (PV.int .i64 y26), (PV.int .i64 n93)]] : Rs).length) * 24 ≤ maxBytes then
                          aPInst_l4 n l19 (IntKind.i64.wrap (k20 + (1 : Int))) (es21 ++ [[(PV.int .i64 n84), (PV.int .i64 y26), (PV.int .i64 n93)]]) k0
                        else none))
                  else none)) (
                if 0 ≤ y27 ∧ y27 < (4 : Int) then
                  meet (
                    meet (
                      Option.bind (([[(PV.int .i64 20)], [(PV.int .i64 60)], [(PV.int .i64 9)], [(PV.int .i64 30)]] : Rs)[(Int.toNat y25)]?) fun e94 =>
                      Option.bind (e94[0]?) fun c95 =>
                      Option.bind (PV.asI .i64 c95) fun n96 =>
                      Option.bind (([[(PV.int .i64 1000)], [(PV.int .i64 200)], [(PV.int .i64 90)], [(PV.int .i64 60)]] : Rs)[(Int.toNat y27)]?) fun e97 =>
                      Option.bind (e97[0]?) fun c98 =>
                      Option.bind (PV.asI .i64 c98) fun n99 =>
                      if (es21.length + ([[(PV.int .i64 n96), (PV.int .i64 y26), (PV.int .i64 n99)]] : Rs).length) * 24 ≤ maxBytes then
                        aPInst_l4 n l19 (IntKind.i64.wrap (k20 + (1 : Int))) (es21 ++ [[(PV.int .i64 n96), (PV.int .i64 y26), (PV.int .i64 n99)]]) k0
                      else none) (
                      Option.bind (([[(PV.int .i64 1000)], [(PV.int .i64 200)], [(PV.int .i64 90)], [(PV.int .i64 60)]] : Rs)[(Int.toNat y27)]?) fun e100 =>
                      Option.bind (e100[0]?) fun c101 =>
                      Option.bind (PV.asI .i64 c101) fun n102 =>
                      Option.bind (([[(PV.int .i64 20)], [(PV.int .i64 60)], [(PV.int .i64 9)], [(PV.int .i64 30)]] : Rs)[(Int.toNat y25)]?) fun e103 =>
                      Option.bind (e103[0]?) fun c104 =>
                      Option.bind (PV.asI .i64 c104) fun n105 =>
                      if (es21.length + ([[(PV.int .i64 n105), (PV.int .i64 y26), (PV.int .i64 n102)]] : Rs).length) * 24 ≤ maxBytes then
                        aPInst_l4 n l19 (IntKind.i64.wrap (k20 + (1 : Int))) (es21 ++ [[(PV.int .i64 n105), (PV.int .i64 y26), (PV.int .i64 n102)]]) k0
                      else none)) (
                    meet (
                      Option.bind (([[(PV.int .i64 20)], [(PV.int .i64 60)], [(PV.int .i64 9)], [(PV.int .i64 30)]] : Rs)[(Int.toNat y25)]?) fun e106 =>
                      Option.bind (e106[0]?) fun c107 =>
                      Option.bind (PV.asI .i64 c107) fun n108 =>
                      meet (
                        Option.bind (([[(PV.int .i64 1000)], [(PV.int .i64 200)], [(PV.int .i64 90)], [(PV.int .i64 60)]] : Rs)[(Int.toNat y27)]?) fun e109 =>
                        Option.bind (e109[0]?) fun c110 =>
                        Option.bind (PV.asI .i64 c110) fun n111 =>
                        if (es21.length + ([[(PV.int .i64 n108), (PV.int .i64 y26), (PV.int .i64 n111)]] : Rs).length) * 24 ≤ maxBytes then
                          aPInst_l4 n l19 (IntKind.i64.wrap (k20 + (1 : Int))) (es21 ++ [[(PV.int .i64 n108), (PV.int .i64 y26), (PV.int .i64 n111)]]) k0
                        else none) (
                        Option.bind (([[(PV.int .i64 1000)], [(PV.int .i64 200)], [(PV.int .i64 90)], [(PV.int .i64 60)]] : Rs)[(Int.toNat y27)]?) fun e112 =>
                        Option.bind (e112[0]?) fun c113 =>
                        Option.bind (PV.asI .i64 c113) fun n114 =>
                        (fun (z4 : Option R) =>
                          meet (
                            z4) (
                            meet (
                              z4) (
                              z4))) (
                          if (es21.length + ([[(PV.int .i64 n108), (PV.int .i64 y26), (PV.int .i64 n114)]] : Rs).length) * 24 ≤ maxBytes then
                            aPInst_l4 n l19 (IntKind.i64.wrap (k20 + (1 : Int))) (es21 ++ [[(PV.int .i64 n108), (PV.int .i64 y26), (PV.int .i64 n114)]]) k0
                          else none))) (
                      Option.bind (([[(PV.int .i64 1000)], [(PV.int .i64 200)], [(PV.int .i64 90)], [(PV.int .i64 60)]] : Rs)[(Int.toNat y27)]?) fun e115 =>
                      Option.bind (e115[0]?) fun c116 =>
                      Option.bind (PV.asI .i64 c116) fun n117 =>
                      meet (
                        Option.bind (([[(PV.int .i64 20)], [(PV.int .i64 60)], [(PV.int .i64 9)], [(PV.int .i64 30)]] : Rs)[(Int.toNat y25)]?) fun e118 =>
                        Option.bind (e118[0]?) fun c119 =>
                        Option.bind (PV.asI .i64 c119) fun n120 =>
                        if (es21.length + ([[(PV.int .i64 n120), (PV.int .i64 y26), (PV.int .i64 n117)]] : Rs).length) * 24 ≤ maxBytes then
                          aPInst_l4 n l19 (IntKind.i64.wrap (k20 + (1 : Int))) (es21 ++ [[(PV.int .i64 n120), (PV.int .i64 y26), (PV.int .i64 n117)]]) k0
                        else none) (
                        Option.bind (([[(PV.int .i64 20)], [(PV.int .i64 60)], [(PV.int .i64 9)], [(PV.int .i64 30)]] : Rs)[(Int.toNat y25)]?) fun e121 =>
                        Option.bind (e121[0]?) fun c122 =>
                        Option.bind (PV.asI .i64 c122) fun n123 =>
                        (fun (z5 : Option R) =>
                          meet (
                            z5) (
                            meet (
                              z5) (
                              z5))) (
                          if (es21.length + ([[(PV.int .i64 n123), (PV.int .i64 y26), (PV.int .i64 n117)]] : Rs).length) * 24 ≤ maxBytes then
                            aPInst_l4 n l19 (IntKind.i64.wrap (k20 + (1 : Int))) (es21 ++ [[(PV.int .i64 n123), (PV.int .i64 y26), (PV.int .i64 n117)]]) k0
                          else none))))
                else none))
          else none) (
          if 0 ≤ y27 ∧ y27 < (4 : Int) then
            meet (
              meet (
                if 0 ≤ y25 ∧ y25 < (4 : Int) then
                  meet (
                    Option.bind (([[(PV.int .i64 20)], [(PV.int .i64 60)], [(PV.int .i64 9)], [(PV.int .i64 30)]] : Rs)[(Int.toNat y25)]?) fun e124 =>
                    Option.bind (e124[0]?) fun c125 =>
                    Option.bind (PV.asI .i64 c125) fun n126 =>
                    Option.bind (([[(PV.int .i64 1000)], [(PV.int .i64 200)], [(PV.int .i64 90)], [(PV.int .i64 60)]] : Rs)[(Int.toNat y27)]?) fun e127 =>
                    Option.bind (e127[0]?) fun c128 =>
                    Option.bind (PV.asI .i64 c128) fun n129 =>
                    if (es21.length + ([[(PV.int .i64 n126), (PV.int .i64 y26), (PV.int .i64 n129)]] : Rs).length) * 24 ≤ maxBytes then
                      aPInst_l4 n l19 (IntKind.i64.wrap (k20 + (1 : Int))) (es21 ++ [[(PV.int .i64 n126), (PV.int .i64 y26), (PV.int .i64 n129)]]) k0
                    else none) (
                    Option.bind (([[(PV.int .i64 1000)], [(PV.int .i64 200)], [(PV.int .i64 90)], [(PV.int .i64 60)]] : Rs)[(Int.toNat y27)]?) fun e130 =>
                    Option.bind (e130[0]?) fun c131 =>
                    Option.bind (PV.asI .i64 c131) fun n132 =>
                    Option.bind (([[(PV.int .i64 20)], [(PV.int .i64 60)], [(PV.int .i64 9)], [(PV.int .i64 30)]] : Rs)[(Int.toNat y25)]?) fun e133 =>
                    Option.bind (e133[0]?) fun c134 =>
                    Option.bind (PV.asI .i64 c134) fun n135 =>
                    if (es21.length + ([[(PV.int .i64 n135), (PV.int .i64 y26), (PV.int .i64 n132)]] : Rs).length) * 24 ≤ maxBytes then
                      aPInst_l4 n l19 (IntKind.i64.wrap (k20 + (1 : Int))) (es21 ++ [[(PV.int .i64 n135), (PV.int .i64 y26), (PV.int .i64 n132)]]) k0
                    else none)
                else none) (
                Option.bind (([[(PV.int .i64 1000)], [(PV.int .i64 200)], [(PV.int .i64 90)], [(PV.int .i64 60)]] : Rs)[(Int.toNat y27)]?) fun e136 =>
                Option.bind (e136[0]?) fun c137 =>
                Option.bind (PV.asI .i64 c137) fun n138 =>
                if 0 ≤ y25 ∧ y25 < (4 : Int) then
                  Option.bind (([[(PV.int .i64 20)], [(PV.int .i64 60)], [(PV.int .i64 9)], [(PV.int .i64 30)]] : Rs)[(Int.toNat y25)]?) fun e139 =>
                  Option.bind (e139[0]?) fun c140 =>
                  Option.bind (PV.asI .i64 c140) fun n141 =>
                  if (es21.length + ([[(PV.int .i64 n141), (PV.int .i64 y26), (PV.int .i64 n138)]] : Rs).length) * 24 ≤ maxBytes then
                    aPInst_l4 n l19 (IntKind.i64.wrap (k20 + (1 : Int))) (es21 ++ [[(PV.int .i64 n141), (PV.int .i64 y26), (PV.int .i64 n138)]]) k0
                  else none
                else none)) (
              meet (
                if 0 ≤ y25 ∧ y25 < (4 : Int) then
                  meet (
                    meet (
                      Option.bind (([[(PV.int .i64 20)], [(PV.int .i64 60)], [(PV.int .i64 9)], [(PV.int .i64 30)]] : Rs)[(Int.toNat y25)]?) fun e142 =>
                      Option.bind (e142[0]?) fun c143 =>
                      Option.bind (PV.asI .i64 c143) fun n144 =>
                      Option.bind (([[(PV.int .i64 1000)], [(PV.int .i64 200)], [(PV.int .i64 90)], [(PV.int .i64 60)]] : Rs)[(Int.toNat y27)]?) fun e145 =>
                      Option.bind (e145[0]?) fun c146 =>
                      Option.bind (PV.asI .i64 c146) fun n147 =>
                      if (es21.length + ([[(PV.int .i64 n144), (PV.int .i64 y26), (PV.int .i64 n147)]] : Rs).length) * 24 ≤ maxBytes then
                        aPInst_l4 n l19 (IntKind.i64.wrap (k20 + (1 : Int))) (es21 ++ [[(PV.int .i64 n144), (PV.int .i64 y26), (PV.int .i64 n147)]]) k0
                      else none) (
                      Option.bind (([[(PV.int .i64 1000)], [(PV.int .i64 200)], [(PV.int .i64 90)], [(PV.int .i64 60)]] : Rs)[(Int.toNat y27)]?) fun e148 =>
                      Option.bind (e148[0]?) fun c149 =>
                      Option.bind (PV.asI .i64 c149) fun n150 =>
                      Option.bind (([[(PV.int .i64 20)], [(PV.int .i64 60)], [(PV.int .i64 9)], [(PV.int .i64 30)]] : Rs)[(Int.toNat y25)]?) fun e151 =>
                      Option.bind (e151[0]?) fun c152 =>
                      Option.bind (PV.asI .i64 c152) fun n153 =>
                      if (es21.length + ([[(PV.int .i64 n153), (PV.int .i64 y26), (PV.int .i64 n150)]] : Rs).length) * 24 ≤ maxBytes then
                        aPInst_l4 n l19 (IntKind.i64.wrap (k20 + (1 : Int))) (es21 ++ [[(PV.int .i64 n153), (PV.int .i64 y26), (PV.int .i64 n150)]]) k0
                      else none)) (
                    meet (
                      Option.bind (([[(PV.int .i64 20)], [(PV.int .i64 60)], [(PV.int .i64 9)], [(PV.int .i64 30)]] : Rs)[(Int.toNat y25)]?) fun e154 =>
                      Option.bind (e154[0]?) fun c155 =>
                      Option.bind (PV.asI .i64 c155) fun n156 =>
                      meet (
                        Option.bind (([[(PV.int .i64 1000)], [(PV.int .i64 200)], [(PV.int .i64 90)], [(PV.int .i64 60)]] : Rs)[(Int.toNat y27)]?) fun e157 =>
                        Option.bind (e157[0]?) fun c158 =>
                        Option.bind (PV.asI .i64 c158) fun n159 =>
                        if (es21.length + ([[(PV.int .i64 n156), (PV.int .i64 y26), (PV.int .i64 n159)]] : Rs).length) * 24 ≤ maxBytes then
                          aPInst_l4 n l19 (IntKind.i64.wrap (k20 + (1 : Int))) (es21 ++ [[(PV.int .i64 n156), (PV.int .i64 y26), (PV.int .i64 n159)]]) k0
                        else none) (
                        Option.bind (([[(PV.int .i64 1000)], [(PV.int .i64 200)], [(PV.int .i64 90)], [(PV.int .i64 60)]] : Rs)[(Int.toNat y27)]?) fun e160 =>
                        Option.bind (e160[0]?) fun c161 =>
                        Option.bind (PV.asI .i64 c161) fun n162 =>
                        (fun (z6 : Option R) =>
                          meet (
                            z6) (
                            meet (
                              z6) (
                              z6))) (
                          if (es21.length + ([[(PV.int .i64 n156), (PV.int .i64 y26), (PV.int .i64 n162)]] : Rs).length) * 24 ≤ maxBytes then
                            aPInst_l4 n l19 (IntKind.i64.wrap (k20 + (1 : Int))) (es21 ++ [[(PV.int .i64 n156), (PV.int .i64 y26), (PV.int .i64 n162)]]) k0
                          else none))) (
                      Option.bind (([[(PV.int .i64 1000)], [(PV.int .i64 200)], [(PV.int .i64 90)], [(PV.int .i64 60)]] : Rs)[(Int.toNat y27)]?) fun e163 =>
                      Option.bind (e163[0]?) fun c164 =>
                      Option.bind (PV.asI .i64 c164) fun n165 =>
                      meet (
                        Option.bind (([[(PV.int .i64 20)], [(PV.int .i64 60)], [(PV.int .i64 9)], [(PV.int .i64 30)]] : Rs)[(Int.toNat y25)]?) fun e166 =>
                        Option.bind (e166[0]?) fun c167 =>
                        Option.bind (PV.asI .i64 c167) fun n168 =>
                        if (es21.length + ([[(PV.int .i64 n168), (PV.int .i64 y26), (PV.int .i64 n165)]] : Rs).length) * 24 ≤ maxBytes then
                          aPInst_l4 n l19 (IntKind.i64.wrap (k20 + (1 : Int))) (es21 ++ [[(PV.int .i64 n168), (PV.int .i64 y26), (PV.int .i64 n165)]]) k0
                        else none) (
                        Option.bind (([[(PV.int .i64 20)], [(PV.int .i64 60)], [(PV.int .i64 9)], [(PV.int .i64 30)]] : Rs)[(Int.toNat y25)]?) fun e169 =>
                        Option.bind (e169[0]?) fun c170 =>
                        Option.bind (PV.asI .i64 c170) fun n171 =>
                        (fun (z7 : Option R) =>
                          meet (
                            z7) (
                            meet (
                              z7) (
                              z7))) (
                          if (es21.length + ([[(PV.int .i64 n171), (PV.int .i64 y26), (PV.int .i64 n165)]] : Rs).length) * 24 ≤ maxBytes then
                            aPInst_l4 n l19 (IntKind.i64.wrap (k20 + (1 : Int))) (es21 ++ [[(PV.int .i64 n171), (PV.int .i64 y26), (PV.int .i64 n165)]]) k0
                          else none))))
                else none) (
                Option.bind (([[(PV.int .i64 1000)], [(PV.int .i64 200)], [(PV.int .i64 90)], [(PV.int .i64 60)]] : Rs)[(Int.toNat y27)]?) fun e172 =>
                Option.bind (e172[0]?) fun c173 =>
                Option.bind (PV.asI .i64 c173) fun n174 =>
                meet (
                  if 0 ≤ y25 ∧ y25 < (4 : Int) then
                    Option.bind (([[(PV.int .i64 20)], [(PV.int .i64 60)], [(PV.int .i64 9)], [(PV.int .i64 30)]] : Rs)[(Int.toNat y25)]?) fun e175 =>
                    Option.bind (e175[0]?) fun c176 =>
                    Option.bind (PV.asI .i64 c176) fun n177 =>
                    if (es21.length + ([[(PV.int .i64 n177), (PV.int .i64 y26), (PV.int .i64 n174)]] : Rs).length) * 24 ≤ maxBytes then
                      aPInst_l4 n l19 (IntKind.i64.wrap (k20 + (1 : Int))) (es21 ++ [[(PV.int .i64 n177), (PV.int .i64 y26), (PV.int .i64 n174)]]) k0
                    else none
                  else none) (
                  if 0 ≤ y25 ∧ y25 < (4 : Int) then
                    meet (
                      Option.bind (([[(PV.int .i64 20)], [(PV.int .i64 60)], [(PV.int .i64 9)], [(PV.int .i64 30)]] : Rs)[(Int.toNat y25)]?) fun e178 =>
                      Option.bind (e178[0]?) fun c179 =>
                      Option.bind (PV.asI .i64 c179) fun n180 =>
                      if (es21.length + ([[(PV.int .i64 n180), (PV.int .i64 y26), (PV.int .i64 n174)]] : Rs).length) * 24 ≤ maxBytes then
                        aPInst_l4 n l19 (IntKind.i64.wrap (k20 + (1 : Int))) (es21 ++ [[(PV.int .i64 n180), (PV.int .i64 y26), (PV.int .i64 n174)]]) k0
                      else none) (
                      Option.bind (([[(PV.int .i64 20)], [(PV.int .i64 60)], [(PV.int .i64 9)], [(PV.int .i64 30)]] : Rs)[(Int.toNat y25)]?) fun e181 =>
                      Option.bind (e181[0]?) fun c182 =>
                      Option.bind (PV.asI .i64 c182) fun n183 =>
                      (fun (z8 : Option R) =>
                        meet (
                          z8) (
                          meet (
                            z8) (
                            z8))) (
                        if (es21.length + ([[(PV.int .i64 n183), (PV.int .i64 y26), (PV.int .i64 n174)]] : Rs).length) * 24 ≤ maxBytes then
                          aPInst_l4 n l19 (IntKind.i64.wrap (k20 + (1 : Int))) (es21 ++ [[(PV.int .i64 n183), (PV.int .i64 y26), (PV.int .i64 n174)]]) k0
                        else none))
                  else none)))
          else none))) (
      k0 l19 es21)
def aPInst_b {R : Type} (n : Nat) (l1 : Rs) (k : Rs → Rs → Rs → Rs → Option R) : Option R :=
  aPInst_l4 n l1 0 []
    (fun (l2 : Rs) (es3 : Rs) =>
      Option.bind (aPNum_d l2 4) fun y4 =>
      Option.bind (aDraymankeepWithin_d y4 7) fun y5 =>
      aPInst_l10 n l2 (IntKind.i64.wrap ((2 : Int) + y5)) 0 es3 []
        (fun (l6 : Rs) (size7 : Int) (es8 : Rs) (es9 : Rs) =>
          aPInst_l19 n l6 size7 0 es8 es9 []
            (fun (l10 : Rs) (size11 : Int) (es12 : Rs) (es13 : Rs) (es14 : Rs) =>
              aPInst_l28 n l10 size11 0 es12 es13 es14 [] k)))
def aPInst_E (y : Rs × Rs × Rs × Rs) : PV × Cs := ((PV.agg [(PV.fs y.1), (PV.fs y.2.1), (PV.fs y.2.2.1), (PV.fs y.2.2.2)]), [])
def aPInst_tl32 : Nat → Rs → Int → Int → Int → Rs → Rs → Rs → Rs → Rs → Option ((Rs × Int × Int × Rs × Rs × Rs × Rs × Rs))
  | 0, _, _, _, _, _, _, _, _, _ => none
  | n + 1, l255, size256, a257, b258, es259, es260, es261, es262, es263 =>
    cond (decide (b258 ≤ size256)) (
      Option.bind (aPNum_d l255 (IntKind.i64.wrap ((IntKind.i64.wrap ((20 : Int) + (IntKind.i64.wrap ((3 : Int) * a257)))) + (IntKind.i64.wrap ((5 : Int) * b258))))) fun y264 =>
      Option.bind (aDraymankeepWithin_d y264 14) fun y265 =>
      cond (a257 == b258) (
        if (es263.length + ([[(PV.int .i64 0)]] : Rs).length) * 8 ≤ maxBytes then
          aPInst_tl32 n l255 size256 a257 (IntKind.i64.wrap (b258 + (1 : Int))) es259 es260 es261 es262 (es263 ++ [[(PV.int .i64 0)]])
        else none) (
        if (es263.length + ([[(PV.int .i64 (IntKind.i64.wrap ((1 : Int) + y265)))]] : Rs).length) * 8 ≤ maxBytes then
          aPInst_tl32 n l255 size256 a257 (IntKind.i64.wrap (b258 + (1 : Int))) es259 es260 es261 es262 (es263 ++ [[(PV.int .i64 (IntKind.i64.wrap ((1 : Int) + y265)))]])
        else none)) (
      some (l255, size256, a257, es259, es260, es261, es262, es263))
theorem aPInst_twl32 {R : Type} (n : Nat) (l255 : Rs) (size256 : Int) (a257 : Int) (b258 : Int) (es259 : Rs) (es260 : Rs) (es261 : Rs) (es262 : Rs) (es263 : Rs) (k0 : Rs → Int → Int → Rs → Rs → Rs → Rs → Rs → Option R) : Tw (aPInst_tl32 n l255 size256 a257 b258 es259 es260 es261 es262 es263) (aPInst_l32 n l255 size256 a257 b258 es259 es260 es261 es262 es263 k0) (fun s => match s with | (a0, a1, a2, a3, a4, a5, a6, a7) => k0 a0 a1 a2 a3 a4 a5 a6 a7) := by
  induction n generalizing l255 size256 a257 b258 es259 es260 es261 es262 es263 with
  | zero => exact tw_none
  | succ n ih =>
    unfold aPInst_tl32 aPInst_l32
    refine tw_cond (fun _ => ?_) (fun _ => ?_)
    · refine tw_bind fun y264 _ => ?_
      refine tw_bind fun y265 _ => ?_
      refine tw_cond (fun _ => ?_) (fun _ => ?_)
      · refine tw_ite fun _ => ?_
        exact ih _ _ _ _ _ _ _ _ _
      · refine tw_ite fun _ => ?_
        exact ih _ _ _ _ _ _ _ _ _
    · exact tw_some rfl
def aPInst_tq27 (n : Nat) (l318 : Rs) (size319 : Int) (k320 : Int) (a321 : Int) (b322 : Int) (es323 : Rs) (es324 : Rs) (es325 : Rs) : Option ((Rs × Int × Int × Rs × Rs × Rs)) :=
  if (es325.length + ([[(PV.int .i64 a321), (PV.int .i64 b322)]] : Rs).length) * 16 ≤ maxBytes then
    some (l318, size319, k320, es323, es324, (es325 ++ [[(PV.int .i64 a321), (PV.int .i64 b322)]]))
  else none
theorem aPInst_twq27 {R : Type} (n : Nat) (l318 : Rs) (size319 : Int) (k320 : Int) (a321 : Int) (b322 : Int) (es323 : Rs) (es324 : Rs) (es325 : Rs) (k0 : Rs → Int → Int → Rs → Rs → Rs → Option R) : Tw (aPInst_tq27 n l318 size319 k320 a321 b322 es323 es324 es325) (aPInst_q27 n l318 size319 k320 a321 b322 es323 es324 es325 k0) (fun s => match s with | (a0, a1, a2, a3, a4, a5) => k0 a0 a1 a2 a3 a4 a5) := by
  unfold aPInst_tq27 aPInst_q27
  refine tw_ite fun _ => ?_
  exact tw_some rfl
def aPInst_tq16 (n : Nat) (l266 : Rs) (size267 : Int) (k268 : Int) (n269 : Int) (es270 : Rs) (es271 : Rs) (i272 : Int) (i273 : Int) (i274 : Int) (i275 : Int) : Option ((Rs × Int × Int × Rs × Rs)) :=
  Option.bind (aDraymankeepWithin_d n269 9) fun y276 =>
  cond (y276 == (8 : Int)) (
    Option.bind (aDraymankeepWithin_d (IntKind.i64.wrap (Int.tdiv n269 (9 : Int))) 4) fun y277 =>
    if (es271.length + ([[(PV.int .i64 (IntKind.i64.wrap ((-1 : Int) - y277))), (PV.int .i64 i273), (PV.int .i64 i274), (PV.int .i64 i275)]] : Rs).length) * 32 ≤ maxBytes then
      some (l266, size267, k268, es270, (es271 ++ [[(PV.int .i64 (IntKind.i64.wrap ((-1 : Int) - y277))), (PV.int .i64 i273), (PV.int .i64 i274), (PV.int .i64 i275)]]))
    else none) (
    if (es271.length + ([[(PV.int .i64 i272), (PV.int .i64 i273), (PV.int .i64 i274), (PV.int .i64 i275)]] : Rs).length) * 32 ≤ maxBytes then
      some (l266, size267, k268, es270, (es271 ++ [[(PV.int .i64 i272), (PV.int .i64 i273), (PV.int .i64 i274), (PV.int .i64 i275)]]))
    else none)
theorem aPInst_twq16 {R : Type} (n : Nat) (l266 : Rs) (size267 : Int) (k268 : Int) (n269 : Int) (es270 : Rs) (es271 : Rs) (i272 : Int) (i273 : Int) (i274 : Int) (i275 : Int) (k0 : Rs → Int → Int → Rs → Rs → Option R) : Tw (aPInst_tq16 n l266 size267 k268 n269 es270 es271 i272 i273 i274 i275) (aPInst_q16 n l266 size267 k268 n269 es270 es271 i272 i273 i274 i275 k0) (fun s => match s with | (a0, a1, a2, a3, a4) => k0 a0 a1 a2 a3 a4) := by
  unfold aPInst_tq16 aPInst_q16
  refine tw_bind fun y276 _ => ?_
  refine tw_cond (fun _ => ?_) (fun _ => ?_)
  · refine tw_bind fun y277 _ => ?_
    refine tw_ite fun _ => ?_
    exact tw_some rfl
  · refine tw_ite fun _ => ?_
    exact tw_some rfl
def aPInst_tq25 (n : Nat) (l278 : Rs) (size279 : Int) (k280 : Int) (a281 : Int) (b282 : Int) (es283 : Rs) (es284 : Rs) (es285 : Rs) : Option ((Rs × Int × Int × Rs × Rs × Rs)) :=
  Option.bind (aPNum_d l278 (IntKind.i64.wrap ((16 : Int) + k280))) fun y286 =>
  Option.bind (aDraymankeepWithin_d y286 9) fun y287 =>
  if 0 ≤ (IntKind.i64.wrap (a281 - (1 : Int))) ∧ (IntKind.i64.wrap (a281 - (1 : Int))) < (es284.length : Int) then
    Option.bind (es284[(Int.toNat (IntKind.i64.wrap (a281 - (1 : Int))))]?) fun e288 =>
    Option.bind (e288[0]?) fun c289 =>
    if 0 ≤ (IntKind.i64.wrap (b282 - (1 : Int))) ∧ (IntKind.i64.wrap (b282 - (1 : Int))) < ((List.set es284 (Int.toNat (IntKind.i64.wrap (a281 - (1 : Int)))) (List.set e288 0 (PV.int .i64 y287))).length : Int) then
      Option.bind ((List.set es284 (Int.toNat (IntKind.i64.wrap (a281 - (1 : Int)))) (List.set e288 0 (PV.int .i64 y287)))[(Int.toNat (IntKind.i64.wrap (b282 - (1 : Int))))]?) fun e290 =>
      Option.bind (e290[0]?) fun c291 =>
      Option.bind (aPInst_tq27 n l278 size279 k280 a281 b282 es283 (List.set (List.set es284 (Int.toNat (IntKind.i64.wrap (a281 - (1 : Int)))) (List.set e288 0 (PV.int .i64 y287))) (Int.toNat (IntKind.i64.wrap (b282 - (1 : Int)))) (List.set e290 0 (PV.int .i64 (IntKind.i64.wrap (0 - y287))))) es285) fun s => match s with
        | (l292, size293, k294, es295, es296, es297) =>
          some (l292, size293, k294, es295, es296, es297)
    else none
  else none
theorem aPInst_twq25 {R : Type} (n : Nat) (l278 : Rs) (size279 : Int) (k280 : Int) (a281 : Int) (b282 : Int) (es283 : Rs) (es284 : Rs) (es285 : Rs) (k0 : Rs → Int → Int → Rs → Rs → Rs → Option R) : Tw (aPInst_tq25 n l278 size279 k280 a281 b282 es283 es284 es285) (aPInst_q25 n l278 size279 k280 a281 b282 es283 es284 es285 k0) (fun s => match s with | (a0, a1, a2, a3, a4, a5) => k0 a0 a1 a2 a3 a4 a5) := by
  unfold aPInst_tq25 aPInst_q25
  refine tw_bind fun y286 _ => ?_
  refine tw_bind fun y287 _ => ?_
  intro s hs
  obtain ⟨h326, hs⟩ := tw_iteI hs
  obtain ⟨e288, h328, hs⟩ := bind_inv hs
  obtain ⟨c289, h329, hs⟩ := bind_inv hs
  obtain ⟨h330, hs⟩ := tw_iteI hs
  obtain ⟨e290, h331, hs⟩ := bind_inv hs
  obtain ⟨c291, h332, hs⟩ := bind_inv hs
  obtain ⟨s333, h333, hs⟩ := bind_inv hs
  have h333k := fun k0 => aPInst_twq27 (R := R) _ _ _ _ _ _ _ _ _ k0 _ h333
  rcases s333 with ⟨l292, size293, k294, es295, es296, es297⟩
  · cases hs
    simp only [h326, h328, h329, h330, h331, h332, h333k, aPInst_q25jx01, Option.bind_some, cond_true, cond_false, if_true, if_false, ite_true, ite_false, meet_self, and_self, true_and, and_true, eq_self, not_true_eq_false, not_false_eq_true, Bool.false_eq_true, reduceCtorEq]
def aPInst_tl28 : Nat → Rs → Int → Int → Rs → Rs → Rs → Rs → Option ((Rs × Rs × Rs × Rs))
  | 0, _, _, _, _, _, _, _ => none
  | n + 1, l240, size241, a242, es243, es244, es245, es246 =>
    cond (decide (a242 ≤ size241)) (
      Option.bind (aPInst_tl32 n l240 size241 a242 0 es243 es244 es245 es246 []) fun s => match s with
        | (l247, size248, a249, es250, es251, es252, es253, es254) =>
          if (es253.length + ([[(PV.fs es254)]] : Rs).length) * 24 ≤ maxBytes then
            aPInst_tl28 n l247 size248 (IntKind.i64.wrap (a249 + (1 : Int))) es250 es251 es252 (es253 ++ [[(PV.fs es254)]])
          else none) (
      some (es243, es244, es245, es246))
theorem aPInst_twl28 {R : Type} (n : Nat) (l240 : Rs) (size241 : Int) (a242 : Int) (es243 : Rs) (es244 : Rs) (es245 : Rs) (es246 : Rs) (k0 : Rs → Rs → Rs → Rs → Option R) : Tw (aPInst_tl28 n l240 size241 a242 es243 es244 es245 es246) (aPInst_l28 n l240 size241 a242 es243 es244 es245 es246 k0) (fun s => match s with | (a0, a1, a2, a3) => k0 a0 a1 a2 a3) := by
  induction n generalizing l240 size241 a242 es243 es244 es245 es246 with
  | zero => exact tw_none
  | succ n ih =>
    unfold aPInst_tl28 aPInst_l28
    refine tw_cond (fun _ => ?_) (fun _ => ?_)
    · refine tw_call (aPInst_twl32 _ _ _ _ _ _ _ _ _ _ _) (fun s => ?_)
      rcases s with ⟨l247, size248, a249, es250, es251, es252, es253, es254⟩
      · refine tw_ite fun _ => ?_
        exact ih _ _ _ _ _ _ _
    · exact tw_some rfl
def aPInst_tl19 : Nat → Rs → Int → Int → Rs → Rs → Rs → Option ((Rs × Int × Rs × Rs × Rs))
  | 0, _, _, _, _, _, _ => none
  | n + 1, l218, size219, k220, es221, es222, es223 =>
    Option.bind (aPNum_d l218 14) fun y224 =>
    Option.bind (aDraymankeepWithin_d y224 3) fun y225 =>
    cond (decide (k220 < y225)) (
      cond (decide ((IntKind.i64.wrap ((IntKind.i64.wrap ((2 : Int) * k220)) + (2 : Int))) ≤ size219)) (
        Option.bind (aPNum_d l218 (IntKind.i64.wrap ((15 : Int) + k220))) fun y226 =>
        Option.bind (aDraymankeepWithin_d y226 2) fun y227 =>
        cond (y227 == (1 : Int)) (
          Option.bind (aPInst_tq25 n l218 size219 k220 (IntKind.i64.wrap ((IntKind.i64.wrap ((2 : Int) * k220)) + (2 : Int))) (IntKind.i64.wrap ((IntKind.i64.wrap ((2 : Int) * k220)) + (1 : Int))) es221 es222 es223) fun s => match s with
            | (l228, size229, k230, es231, es232, es233) =>
              aPInst_tl19 n l228 size229 (IntKind.i64.wrap (k230 + (1 : Int))) es231 es232 es233) (
          Option.bind (aPInst_tq25 n l218 size219 k220 (IntKind.i64.wrap ((IntKind.i64.wrap ((2 : Int) * k220)) + (1 : Int))) (IntKind.i64.wrap ((IntKind.i64.wrap ((2 : Int) * k220)) + (2 : Int))) es221 es222 es223) fun s => match s with
            | (l234, size235, k236, es237, es238, es239) =>
              aPInst_tl19 n l234 size235 (IntKind.i64.wrap (k236 + (1 : Int))) es237 es238 es239)) (
        some (l218, size219, es221, es222, es223))) (
      some (l218, size219, es221, es222, es223))
theorem aPInst_twl19 {R : Type} (n : Nat) (l218 : Rs) (size219 : Int) (k220 : Int) (es221 : Rs) (es222 : Rs) (es223 : Rs) (k0 : Rs → Int → Rs → Rs → Rs → Option R) : Tw (aPInst_tl19 n l218 size219 k220 es221 es222 es223) (aPInst_l19 n l218 size219 k220 es221 es222 es223 k0) (fun s => match s with | (a0, a1, a2, a3, a4) => k0 a0 a1 a2 a3 a4) := by
  induction n generalizing l218 size219 k220 es221 es222 es223 with
  | zero => exact tw_none
  | succ n ih =>
    unfold aPInst_tl19 aPInst_l19
    refine tw_bind fun y224 _ => ?_
    refine tw_bind fun y225 _ => ?_
    refine tw_cond (fun _ => ?_) (fun _ => ?_)
    · refine tw_cond (fun _ => ?_) (fun _ => ?_)
      · refine tw_bind fun y226 _ => ?_
        refine tw_bind fun y227 _ => ?_
        refine tw_cond (fun _ => ?_) (fun _ => ?_)
        · refine tw_call (aPInst_twq25 _ _ _ _ _ _ _ _ _ _) (fun s => ?_)
          rcases s with ⟨l228, size229, k230, es231, es232, es233⟩
          · exact ih _ _ _ _ _ _
        · refine tw_call (aPInst_twq25 _ _ _ _ _ _ _ _ _ _) (fun s => ?_)
          rcases s with ⟨l234, size235, k236, es237, es238, es239⟩
          · exact ih _ _ _ _ _ _
      · exact tw_some rfl
    · exact tw_some rfl
def aPInst_tl10 : Nat → Rs → Int → Int → Rs → Rs → Option ((Rs × Int × Rs × Rs))
  | 0, _, _, _, _, _ => none
  | n + 1, l184, size185, k186, es187, es188 =>
    cond (decide (k186 < size185)) (
      Option.bind (aPNum_d l184 (IntKind.i64.wrap ((5 : Int) + k186))) fun y189 =>
      Option.bind (aDraymankeepWithin_d y189 8) fun y190 =>
      Option.bind (aDraymankeepWithin_d (IntKind.i64.wrap (Int.tdiv y189 (8 : Int))) 30) fun y191 =>
      Option.bind (aDraymankeepWithin_d (IntKind.i64.wrap (Int.tdiv y189 (240 : Int))) 6) fun y192 =>
      Option.bind (aDraymankeepWithin_d (IntKind.i64.wrap (Int.tdiv y189 (7 : Int))) 4) fun y193 =>
      if 0 ≤ y193 ∧ y193 < (4 : Int) then
        Option.bind (([[(PV.int .i64 900)], [(PV.int .i64 60)], [(PV.int .i64 25)], [(PV.int .i64 8)]] : Rs)[(Int.toNat y193)]?) fun e194 =>
        Option.bind (e194[0]?) fun c195 =>
        Option.bind (PV.asI .i64 c195) fun n196 =>
        Option.bind (aPInst_tq16 n l184 size185 k186 y189 es187 es188 y190 y191 (if (1000 : Int) < (IntKind.i64.wrap (y191 + n196)) then (1000 : Int) else (IntKind.i64.wrap (y191 + n196))) y192) fun s => match s with
          | (l197, size198, k199, es200, es201) =>
            aPInst_tl10 n l197 size198 (IntKind.i64.wrap (k199 + (1 : Int))) es200 es201
      else none) (
      some (l184, size185, es187, es188))
theorem aPInst_twl10 {R : Type} (n : Nat) (l184 : Rs) (size185 : Int) (k186 : Int) (es187 : Rs) (es188 : Rs) (k0 : Rs → Int → Rs → Rs → Option R) : Tw (aPInst_tl10 n l184 size185 k186 es187 es188) (aPInst_l10 n l184 size185 k186 es187 es188 k0) (fun s => match s with | (a0, a1, a2, a3) => k0 a0 a1 a2 a3) := by
  induction n generalizing l184 size185 k186 es187 es188 with
  | zero => exact tw_none
  | succ n ih =>
    unfold aPInst_tl10 aPInst_l10
    refine tw_cond (fun _ => ?_) (fun _ => ?_)
    · refine tw_bind fun y189 _ => ?_
      refine tw_bind fun y190 _ => ?_
      refine tw_bind fun y191 _ => ?_
      refine tw_bind fun y192 _ => ?_
      refine tw_bind fun y193 _ => ?_
      intro s hs
      obtain ⟨h335, hs⟩ := tw_iteI hs
      obtain ⟨e194, h336, hs⟩ := bind_inv hs
      obtain ⟨c195, h337, hs⟩ := bind_inv hs
      obtain ⟨n196, h338, hs⟩ := bind_inv hs
      obtain ⟨s339, h339, hs⟩ := bind_inv hs
      have h339k := fun k0 => aPInst_twq16 (R := R) _ _ _ _ _ _ _ _ _ _ _ k0 _ h339
      rcases s339 with ⟨l197, size198, k199, es200, es201⟩
      · have h340 := ih _ _ _ _ _ s hs
        simp only [h335, h336, h337, h338, h339k, h340, aPInst_q25jx01, Option.bind_some, cond_true, cond_false, if_true, if_false, ite_true, ite_false, meet_self, and_self, true_and, and_true, eq_self, not_true_eq_false, not_false_eq_true, Bool.false_eq_true, reduceCtorEq]
    · exact tw_some rfl
def aPInst_tl4 : Nat → Rs → Int → Rs → Option ((Rs × Rs))
  | 0, _, _, _ => none
  | n + 1, l19, k20, es21 =>
    Option.bind (aPNum_d l19 0) fun y22 =>
    Option.bind (aDraymankeepWithin_d y22 3) fun y23 =>
    cond (decide (k20 < (IntKind.i64.wrap ((1 : Int) + y23)))) (
      Option.bind (aPNum_d l19 (IntKind.i64.wrap ((1 : Int) + k20))) fun y24 =>
      Option.bind (aDraymankeepWithin_d y24 4) fun y25 =>
      Option.bind (aDraymankeepWithin_d (IntKind.i64.wrap (Int.tdiv y24 (4 : Int))) 9) fun y26 =>
      Option.bind (aDraymankeepWithin_d (IntKind.i64.wrap (Int.tdiv y24 (36 : Int))) 4) fun y27 =>
      if 0 ≤ y25 ∧ y25 < (4 : Int) then
        Option.bind (([[(PV.int .i64 20)], [(PV.int .i64 60)], [(PV.int .i64 9)], [(PV.int .i64 30)]] : Rs)[(Int.toNat y25)]?) fun e28 =>
        Option.bind (e28[0]?) fun c29 =>
        Option.bind (PV.asI .i64 c29) fun n30 =>
        if 0 ≤ y27 ∧ y27 < (4 : Int) then
          Option.bind (([[(PV.int .i64 1000)], [(PV.int .i64 200)], [(PV.int .i64 90)], [(PV.int .i64 60)]] : Rs)[(Int.toNat y27)]?) fun e31 =>
          Option.bind (e31[0]?) fun c32 =>
          Option.bind (PV.asI .i64 c32) fun n33 =>
          if (es21.length + ([[(PV.int .i64 n30), (PV.int .i64 y26), (PV.int .i64 n33)]] : Rs).length) * 24 ≤ maxBytes then
            aPInst_tl4 n l19 (IntKind.i64.wrap (k20 + (1 : Int))) (es21 ++ [[(PV.int .i64 n30), (PV.int .i64 y26), (PV.int .i64 n33)]])
          else none
        else none
      else none) (
      some (l19, es21))
theorem aPInst_twl4 {R : Type} (n : Nat) (l19 : Rs) (k20 : Int) (es21 : Rs) (k0 : Rs → Rs → Option R) : Tw (aPInst_tl4 n l19 k20 es21) (aPInst_l4 n l19 k20 es21 k0) (fun s => match s with | (a0, a1) => k0 a0 a1) := by
  induction n generalizing l19 k20 es21 with
  | zero => exact tw_none
  | succ n ih =>
    unfold aPInst_tl4 aPInst_l4
    refine tw_bind fun y22 _ => ?_
    refine tw_bind fun y23 _ => ?_
    refine tw_cond (fun _ => ?_) (fun _ => ?_)
    · refine tw_bind fun y24 _ => ?_
      refine tw_bind fun y25 _ => ?_
      refine tw_bind fun y26 _ => ?_
      refine tw_bind fun y27 _ => ?_
      intro s hs
      obtain ⟨h342, hs⟩ := tw_iteI hs
      obtain ⟨e28, h344, hs⟩ := bind_inv hs
      obtain ⟨c29, h345, hs⟩ := bind_inv hs
      obtain ⟨n30, h346, hs⟩ := bind_inv hs
      obtain ⟨h347, hs⟩ := tw_iteI hs
      obtain ⟨e31, h348, hs⟩ := bind_inv hs
      obtain ⟨c32, h349, hs⟩ := bind_inv hs
      obtain ⟨n33, h350, hs⟩ := bind_inv hs
      obtain ⟨h351, hs⟩ := tw_iteI hs
      have h352 := ih _ _ _ s hs
      simp only [h342, h344, h345, h346, h347, h348, h349, h350, h351, h352, aPInst_q25jx01, Option.bind_some, cond_true, cond_false, if_true, if_false, ite_true, ite_false, meet_self, and_self, true_and, and_true, eq_self, not_true_eq_false, not_false_eq_true, Bool.false_eq_true, reduceCtorEq]
    · exact tw_some rfl
def aPInst_t (l1 : Rs) : Option (Rs × Rs × Rs × Rs) :=
  Option.bind (aPInst_tl4 9223372036854775808 l1 0 []) fun s => match s with
    | (l2, es3) =>
      Option.bind (aPNum_d l2 4) fun y4 =>
      Option.bind (aDraymankeepWithin_d y4 7) fun y5 =>
      Option.bind (aPInst_tl10 9223372036854775808 l2 (IntKind.i64.wrap ((2 : Int) + y5)) 0 es3 []) fun s => match s with
        | (l6, size7, es8, es9) =>
          Option.bind (aPInst_tl19 9223372036854775808 l6 size7 0 es8 es9 []) fun s => match s with
            | (l10, size11, es12, es13, es14) =>
              Option.bind (aPInst_tl28 9223372036854775808 l10 size11 0 es12 es13 es14 []) fun s => match s with
                | (es15, es16, es17, es18) =>
                  some (es15, es16, es17, es18)
theorem aPInst_tw {R : Type} (l1 : Rs) (k : Rs → Rs → Rs → Rs → Option R) : Tw (aPInst_t l1) (aPInst_b 9223372036854775808 l1 k) (fun s => match s with | (a0, a1, a2, a3) => k a0 a1 a2 a3) := by
  unfold aPInst_t aPInst_b
  refine tw_call (aPInst_twl4 _ _ _ _ _) (fun s => ?_)
  rcases s with ⟨l2, es3⟩
  · refine tw_bind fun y4 _ => ?_
    refine tw_bind fun y5 _ => ?_
    refine tw_call (aPInst_twl10 _ _ _ _ _ _ _) (fun s => ?_)
    rcases s with ⟨l6, size7, es8, es9⟩
    · refine tw_call (aPInst_twl19 _ _ _ _ _ _ _ _) (fun s => ?_)
      rcases s with ⟨l10, size11, es12, es13, es14⟩
      · refine tw_call (aPInst_twl28 _ _ _ _ _ _ _ _ _) (fun s => ?_)
        rcases s with ⟨es15, es16, es17, es18⟩
        · exact tw_some rfl
theorem aPInst_ok : ∀ (l1 : Rs) (y : Rs × Rs × Rs × Rs), aPInst_t l1 = some y → ∃ n, ∀ (R : Type) (k : Rs → Rs → Rs → Rs → Option R), aPInst_b n l1 k = k y.1 y.2.1 y.2.2.1 y.2.2.2 := fun l1 y h => ⟨9223372036854775808, fun R k => aPInst_tw l1 k y h⟩
def aPInst_D : Cs → Option (Rs × Rs × Rs × Rs)
  | [(PV.fs l1)] => aPInst_t l1
  | _ => none
def aPInst_Γ : List (Nat × Cal) := [(13, .ctr aPNum_C), (4, .ctr aDraymankeepWithin_C)]
def aPInst_C : Ctr := ⟨[none], Rs × Rs × Rs × Rs, aPInst_D, aPInst_E, false, .d⟩
def aPInst_cfg : List (Nat × LC) := [(4, ⟨[0, 2, 3, 4, 5], [], [], [(4, 0)], []⟩),
  (1004000, ⟨[0, 2, 3, 4], [], [], [], []⟩),
  (10, ⟨[0, 2, 3, 4, 7, 8], [], [], [(4, 1)], []⟩),
  (4000016, ⟨[0, 2, 3, 4, 7, 8, 9, 10], [], [], [], []⟩),
  (1010002, ⟨[0, 2, 3, 4, 7], [], [], [], []⟩),
  (5000016, ⟨[0, 2, 3, 4, 7, 8], [], [], [], []⟩),
  (19, ⟨[0, 2, 3, 4, 7, 11], [], [], [(4, 2)], []⟩),
  (4000027, ⟨[0, 2, 3, 4, 7, 11, 12, 13], [], [], [], []⟩),
  (4000025, ⟨[0, 2, 3, 4, 7, 11, 12, 13], [], [], [], []⟩),
  (1019004, ⟨[0, 2, 3, 4, 7], [], [], [], []⟩),
  (5000027, ⟨[0, 2, 3, 4, 7, 11], [], [], [], []⟩),
  (28, ⟨[0, 2, 3, 4, 7, 15], [], [], [(4, 3)], []⟩),
  (32, ⟨[0, 2, 3, 4, 7, 15, 16, 17], [16], [], [], []⟩),
  (1028006, ⟨[2, 4], [], [], [], []⟩),
  (1032008, ⟨[0, 2, 3, 4, 7, 15, 16], [], [], [], []⟩),
  (5000025, ⟨[0, 2, 3, 4, 7, 11], [], [], [], []⟩)]
def aPInst_p32 : SP := ⟨sparse .undef [(0, (.val .fs)), (2, (.ref 0 0)), (3, (.val (.fn 4 []))), (4, (.ref 1 0)), (7, (.val (.int .i64))), (15, (.val (.int .i64))), (16, (.ow 6)), (17, (.val (.int .i64)))] 0 203, [(.box [(.nil 3), (.nil 4), (.nil 2), (.nil 1)]), (.box [(.ow 2), (.ow 3), (.ow 4), (.ow 5)]), (.row 3), (.row 4), (.row 2), (.row 1), (.row 1)], []⟩
def aPInst_pj27 : SP := ⟨sparse .undef [(0, (.val .fs)), (2, (.ref 0 0)), (3, (.val (.fn 4 []))), (4, (.ref 1 0)), (7, (.val (.int .i64))), (11, (.val (.int .i64))), (12, (.val (.int .i64))), (13, (.val (.int .i64)))] 0 203, [(.box [(.nil 3), (.nil 4), (.nil 2), (.nil 1)]), (.box [(.ow 2), (.ow 3), (.ow 4), (.nil 1)]), (.row 3), (.row 4), (.row 2)], []⟩
def aPInst_pj16 : SP := ⟨sparse .undef [(0, (.val .fs)), (2, (.ref 0 0)), (3, (.val (.fn 4 []))), (4, (.ref 1 0)), (7, (.val (.int .i64))), (8, (.val (.int .i64))), (9, (.val (.int .i64))), (10, (.ref 4 0))] 0 203, [(.box [(.nil 3), (.nil 4), (.nil 2), (.nil 1)]), (.box [(.ow 2), (.ow 3), (.nil 2), (.nil 1)]), (.row 3), (.row 4), (.pbox (.agg [(.int .i64), (.int .i64), (.int .i64), (.int .i64)]) 4)], []⟩
def aPInst_pj25 : SP := ⟨sparse .undef [(0, (.val .fs)), (2, (.ref 0 0)), (3, (.val (.fn 4 []))), (4, (.ref 1 0)), (7, (.val (.int .i64))), (11, (.val (.int .i64))), (12, (.val (.int .i64))), (13, (.val (.int .i64)))] 0 203, [(.box [(.nil 3), (.nil 4), (.nil 2), (.nil 1)]), (.box [(.ow 2), (.ow 3), (.ow 4), (.nil 1)]), (.row 3), (.row 4), (.row 2)], []⟩
def aPInst_p28 : SP := ⟨sparse .undef [(0, (.val .fs)), (2, (.ref 0 0)), (3, (.val (.fn 4 []))), (4, (.ref 1 0)), (7, (.val (.int .i64))), (15, (.val (.int .i64)))] 0 203, [(.box [(.nil 3), (.nil 4), (.nil 2), (.nil 1)]), (.box [(.ow 2), (.ow 3), (.ow 4), (.ow 5)]), (.row 3), (.row 4), (.row 2), (.row 1)], []⟩
def aPInst_p19 : SP := ⟨sparse .undef [(0, (.val .fs)), (2, (.ref 0 0)), (3, (.val (.fn 4 []))), (4, (.ref 1 0)), (7, (.val (.int .i64))), (11, (.val (.int .i64)))] 0 203, [(.box [(.nil 3), (.nil 4), (.nil 2), (.nil 1)]), (.box [(.ow 2), (.ow 3), (.ow 4), (.nil 1)]), (.row 3), (.row 4), (.row 2)], []⟩
def aPInst_p10 : SP := ⟨sparse .undef [(0, (.val .fs)), (2, (.ref 0 0)), (3, (.val (.fn 4 []))), (4, (.ref 1 0)), (7, (.val (.int .i64))), (8, (.val (.int .i64)))] 0 203, [(.box [(.nil 3), (.nil 4), (.nil 2), (.nil 1)]), (.box [(.ow 2), (.ow 3), (.nil 2), (.nil 1)]), (.row 3), (.row 4)], []⟩
def aPInst_p4 : SP := ⟨sparse .undef [(0, (.val .fs)), (2, (.ref 0 0)), (3, (.val (.fn 4 []))), (4, (.ref 1 0)), (5, (.val (.int .i64)))] 0 203, [(.box [(.nil 3), (.nil 4), (.nil 2), (.nil 1)]), (.box [(.ow 2), (.nil 4), (.nil 2), (.nil 1)]), (.row 3)], []⟩
def aPInst_pat : Nat → Option SP
  | 32 => some aPInst_p32
  | 28 => some aPInst_p28
  | 19 => some aPInst_p19
  | 10 => some aPInst_p10
  | 4 => some aPInst_p4
  | _ => none
def aPInst_patj : Nat → Option SP
  | 27 => some aPInst_pj27
  | 16 => some aPInst_pj16
  | 25 => some aPInst_pj25
  | _ => none
def aPInst_L32 (n : Nat) (ls : List Leaf) (R : Type) (k : Ex → St → Option R) : Option R :=
  match ls with
  | [.rows l255, .int size256, .int a257, .int b258, .rows es259, .rows es260, .rows es261, .rows es262, .rows es263] => aPInst_l32 n l255 size256 a257 b258 es259 es260 es261 es262 es263 (fun y1353 y1354 y1355 y1356 y1357 y1358 y1359 y1360 => k (.exit 8) ⟨sparse .undef [(0, (TV.val (PV.fs y1353))), (2, (TV.ref 0 0)), (3, (TV.val (PV.fn (Fn.func 4) []))), (4, (TV.ref 1 0)), (7, (TV.val (PV.int .i64 y1354))), (15, (TV.val (PV.int .i64 y1355))), (16, (TV.ow 6))] 0 203, [(Ob.box [(TV.nil 3), (TV.nil 4), (TV.nil 2), (TV.nil 1)]), (Ob.box [(TV.ow 2), (TV.ow 3), (TV.ow 4), (TV.ow 5)]), (Ob.row y1356 3), (Ob.row y1357 4), (Ob.row y1358 2), (Ob.row y1359 1), (Ob.row y1360 1)], []⟩)
  | _ => none
def aPInst_J27 (n : Nat) (ls : List Leaf) (R : Type) (k : Ex → St → Option R) : Option R :=
  match ls with
  | [.rows l318, .int size319, .int k320, .int a321, .int b322, .rows es323, .rows es324, .rows es325] => aPInst_q27 n l318 size319 k320 a321 b322 es323 es324 es325 (fun y2361 y2362 y2363 y2364 y2365 y2366 => k .normal ⟨sparse .undef [(0, (TV.val (PV.fs y2361))), (2, (TV.ref 0 0)), (3, (TV.val (PV.fn (Fn.func 4) []))), (4, (TV.ref 1 0)), (7, (TV.val (PV.int .i64 y2362))), (11, (TV.val (PV.int .i64 y2363)))] 0 203, [(Ob.box [(TV.nil 3), (TV.nil 4), (TV.nil 2), (TV.nil 1)]), (Ob.box [(TV.ow 2), (TV.ow 3), (TV.ow 4), (TV.nil 1)]), (Ob.row y2364 3), (Ob.row y2365 4), (Ob.row y2366 2)], []⟩)
  | _ => none
def aPInst_J16 (n : Nat) (ls : List Leaf) (R : Type) (k : Ex → St → Option R) : Option R :=
  match ls with
  | [.rows l266, .int size267, .int k268, .int n269, .rows es270, .rows es271, .int i272, .int i273, .int i274, .int i275] => aPInst_q16 n l266 size267 k268 n269 es270 es271 i272 i273 i274 i275 (fun y3367 y3368 y3369 y3370 y3371 => k .normal ⟨sparse .undef [(0, (TV.val (PV.fs y3367))), (2, (TV.ref 0 0)), (3, (TV.val (PV.fn (Fn.func 4) []))), (4, (TV.ref 1 0)), (7, (TV.val (PV.int .i64 y3368))), (8, (TV.val (PV.int .i64 y3369)))] 0 203, [(Ob.box [(TV.nil 3), (TV.nil 4), (TV.nil 2), (TV.nil 1)]), (Ob.box [(TV.ow 2), (TV.ow 3), (TV.nil 2), (TV.nil 1)]), (Ob.row y3370 3), (Ob.row y3371 4)], []⟩)
  | _ => none
def aPInst_J25 (n : Nat) (ls : List Leaf) (R : Type) (k : Ex → St → Option R) : Option R :=
  match ls with
  | [.rows l278, .int size279, .int k280, .int a281, .int b282, .rows es283, .rows es284, .rows es285] => aPInst_q25 n l278 size279 k280 a281 b282 es283 es284 es285 (fun y4372 y4373 y4374 y4375 y4376 y4377 => k .normal ⟨sparse .undef [(0, (TV.val (PV.fs y4372))), (2, (TV.ref 0 0)), (3, (TV.val (PV.fn (Fn.func 4) []))), (4, (TV.ref 1 0)), (7, (TV.val (PV.int .i64 y4373))), (11, (TV.val (PV.int .i64 y4374)))] 0 203, [(Ob.box [(TV.nil 3), (TV.nil 4), (TV.nil 2), (TV.nil 1)]), (Ob.box [(TV.ow 2), (TV.ow 3), (TV.ow 4), (TV.nil 1)]), (Ob.row y4375 3), (Ob.row y4376 4), (Ob.row y4377 2)], []⟩)
  | _ => none
def aPInst_L28 (n : Nat) (ls : List Leaf) (R : Type) (k : Ex → St → Option R) : Option R :=
  match ls with
  | [.rows l240, .int size241, .int a242, .rows es243, .rows es244, .rows es245, .rows es246] => aPInst_l28 n l240 size241 a242 es243 es244 es245 es246 (fun y5378 y5379 y5380 y5381 => k (.exit 6) ⟨sparse .undef [(2, (TV.ref 0 0)), (4, (TV.ref 1 0))] 0 203, [(Ob.box [(TV.nil 3), (TV.nil 4), (TV.nil 2), (TV.nil 1)]), (Ob.box [(TV.ow 2), (TV.ow 3), (TV.ow 4), (TV.ow 5)]), (Ob.row y5378 3), (Ob.row y5379 4), (Ob.row y5380 2), (Ob.row y5381 1)], []⟩)
  | _ => none
def aPInst_L19 (n : Nat) (ls : List Leaf) (R : Type) (k : Ex → St → Option R) : Option R :=
  match ls with
  | [.rows l218, .int size219, .int k220, .rows es221, .rows es222, .rows es223] => aPInst_l19 n l218 size219 k220 es221 es222 es223 (fun y6382 y6383 y6384 y6385 y6386 => k (.exit 4) ⟨sparse .undef [(0, (TV.val (PV.fs y6382))), (2, (TV.ref 0 0)), (3, (TV.val (PV.fn (Fn.func 4) []))), (4, (TV.ref 1 0)), (7, (TV.val (PV.int .i64 y6383)))] 0 203, [(Ob.box [(TV.nil 3), (TV.nil 4), (TV.nil 2), (TV.nil 1)]), (Ob.box [(TV.ow 2), (TV.ow 3), (TV.ow 4), (TV.nil 1)]), (Ob.row y6384 3), (Ob.row y6385 4), (Ob.row y6386 2)], []⟩)
  | _ => none
def aPInst_L10 (n : Nat) (ls : List Leaf) (R : Type) (k : Ex → St → Option R) : Option R :=
  match ls with
  | [.rows l184, .int size185, .int k186, .rows es187, .rows es188] => aPInst_l10 n l184 size185 k186 es187 es188 (fun y7387 y7388 y7389 y7390 => k (.exit 2) ⟨sparse .undef [(0, (TV.val (PV.fs y7387))), (2, (TV.ref 0 0)), (3, (TV.val (PV.fn (Fn.func 4) []))), (4, (TV.ref 1 0)), (7, (TV.val (PV.int .i64 y7388)))] 0 203, [(Ob.box [(TV.nil 3), (TV.nil 4), (TV.nil 2), (TV.nil 1)]), (Ob.box [(TV.ow 2), (TV.ow 3), (TV.nil 2), (TV.nil 1)]), (Ob.row y7389 3), (Ob.row y7390 4)], []⟩)
  | _ => none
def aPInst_L4 (n : Nat) (ls : List Leaf) (R : Type) (k : Ex → St → Option R) : Option R :=
  match ls with
  | [.rows l19, .int k20, .rows es21] => aPInst_l4 n l19 k20 es21 (fun y8391 y8392 => k (.exit 0) ⟨sparse .undef [(0, (TV.val (PV.fs y8391))), (2, (TV.ref 0 0)), (3, (TV.val (PV.fn (Fn.func 4) []))), (4, (TV.ref 1 0))] 0 203, [(Ob.box [(TV.nil 3), (TV.nil 4), (TV.nil 2), (TV.nil 1)]), (Ob.box [(TV.ow 2), (TV.nil 4), (TV.nil 2), (TV.nil 1)]), (Ob.row y8392 3)], []⟩)
  | _ => none
def aPInst_L (n key : Nat) (ls : List Leaf) (R : Type) (k : Ex → St → Option R) : Option R :=
  match key with
  | 32 => aPInst_L32 n ls R k
  | 28 => aPInst_L28 n ls R k
  | 19 => aPInst_L19 n ls R k
  | 10 => aPInst_L10 n ls R k
  | 4 => aPInst_L4 n ls R k
  | _ => none
def aPInst_J (n key : Nat) (ls : List Leaf) (R : Type) (k : Ex → St → Option R) : Option R :=
  match key with
  | 27 => aPInst_J27 n ls R k
  | 16 => aPInst_J16 n ls R k
  | 25 => aPInst_J25 n ls R k
  | _ => none
def aPInst_on : Code → Bool := onKeys [16, 25, 27]
def aPInst_Λ : Nat → Loops := patL (normBy aPInst_cfg) aPInst_pat aPInst_L (normJ aPInst_cfg) aPInst_on aPInst_patj aPInst_J
theorem aPInst_step4 (n : Nat) (l19 : Rs) (k20 : Int) (es21 : Rs)  (R : Type) (k : Ex → St → Option R) :
    roundK T G0 (ctrOf aPInst_Γ) (normBy aPInst_cfg) (aPInst_Λ n) (codeAt [1, 1, 1, 0, 1, 0, 0] (bodyOf Tryz.f7)) (buildSt aPInst_p4 [.rows l19, .int k20, .rows es21]) R k = aPInst_L4 (n + 1) [.rows l19, .int k20, .rows es21] R k := by kernel_rfl
theorem aPInst_step10 (n : Nat) (l184 : Rs) (size185 : Int) (k186 : Int) (es187 : Rs) (es188 : Rs)  (R : Type) (k : Ex → St → Option R) :
    roundK T G0 (ctrOf aPInst_Γ) (normBy aPInst_cfg) (aPInst_Λ n) (codeAt [1, 1, 1, 1, 1, 0, 1, 0, 0] (bodyOf Tryz.f7)) (buildSt aPInst_p10 [.rows l184, .int size185, .int k186, .rows es187, .rows es188]) R k = aPInst_L10 (n + 1) [.rows l184, .int size185, .int k186, .rows es187, .rows es188] R k := by kernel_rfl
theorem aPInst_step19 (n : Nat) (l218 : Rs) (size219 : Int) (k220 : Int) (es221 : Rs) (es222 : Rs) (es223 : Rs)  (R : Type) (k : Ex → St → Option R) :
    roundK T G0 (ctrOf aPInst_Γ) (normBy aPInst_cfg) (aPInst_Λ n) (codeAt [1, 1, 1, 1, 1, 1, 0, 1, 0, 0] (bodyOf Tryz.f7)) (buildSt aPInst_p19 [.rows l218, .int size219, .int k220, .rows es221, .rows es222, .rows es223]) R k = aPInst_L19 (n + 1) [.rows l218, .int size219, .int k220, .rows es221, .rows es222, .rows es223] R k := by kernel_rfl
theorem aPInst_step28 (n : Nat) (l240 : Rs) (size241 : Int) (a242 : Int) (es243 : Rs) (es244 : Rs) (es245 : Rs) (es246 : Rs)  (R : Type) (k : Ex → St → Option R) :
    roundK T G0 (ctrOf aPInst_Γ) (normBy aPInst_cfg) (aPInst_Λ n) (codeAt [1, 1, 1, 1, 1, 1, 1, 0, 1, 0, 0] (bodyOf Tryz.f7)) (buildSt aPInst_p28 [.rows l240, .int size241, .int a242, .rows es243, .rows es244, .rows es245, .rows es246]) R k = aPInst_L28 (n + 1) [.rows l240, .int size241, .int a242, .rows es243, .rows es244, .rows es245, .rows es246] R k := by kernel_rfl
theorem aPInst_step32 (n : Nat) (l255 : Rs) (size256 : Int) (a257 : Int) (b258 : Int) (es259 : Rs) (es260 : Rs) (es261 : Rs) (es262 : Rs) (es263 : Rs)  (R : Type) (k : Ex → St → Option R) :
    roundK T G0 (ctrOf aPInst_Γ) (normBy aPInst_cfg) (aPInst_Λ n) (codeAt [1, 1, 1, 1, 1, 1, 1, 0, 1, 0, 0, 1, 0, 0, 1, 0, 1, 0, 0] (bodyOf Tryz.f7)) (buildSt aPInst_p32 [.rows l255, .int size256, .int a257, .int b258, .rows es259, .rows es260, .rows es261, .rows es262, .rows es263]) R k = aPInst_L32 (n + 1) [.rows l255, .int size256, .int a257, .int b258, .rows es259, .rows es260, .rows es261, .rows es262, .rows es263] R k := by kernel_rfl
theorem aPInst_stepq16 (n : Nat) (l266 : Rs) (size267 : Int) (k268 : Int) (n269 : Int) (es270 : Rs) (es271 : Rs) (i272 : Int) (i273 : Int) (i274 : Int) (i275 : Int)  (R : Type) (k : Ex → St → Option R) :
    joinK T G0 (ctrOf aPInst_Γ) (normJ aPInst_cfg) (aPInst_Λ n) (codeAt [1, 1, 1, 1, 1, 0, 1, 0, 0, 1, 0, 0, 1, 1, 1] (bodyOf Tryz.f7)) (buildSt aPInst_pj16 [.rows l266, .int size267, .int k268, .int n269, .rows es270, .rows es271, .int i272, .int i273, .int i274, .int i275]) R k = aPInst_J16 n [.rows l266, .int size267, .int k268, .int n269, .rows es270, .rows es271, .int i272, .int i273, .int i274, .int i275] R k := by kernel_rfl
theorem aPInst_stepq25 (n : Nat) (l278 : Rs) (size279 : Int) (k280 : Int) (a281 : Int) (b282 : Int) (es283 : Rs) (es284 : Rs) (es285 : Rs)  (R : Type) (k : Ex → St → Option R) :
    joinK T G0 (ctrOf aPInst_Γ) (normJ aPInst_cfg) (aPInst_Λ n) (codeAt [1, 1, 1, 1, 1, 1, 0, 1, 0, 0, 1, 0, 0, 1, 1] (bodyOf Tryz.f7)) (buildSt aPInst_pj25 [.rows l278, .int size279, .int k280, .int a281, .int b282, .rows es283, .rows es284, .rows es285]) R k = aPInst_J25 n [.rows l278, .int size279, .int k280, .int a281, .int b282, .rows es283, .rows es284, .rows es285] R k := by kernel_rfl
theorem aPInst_stepq27 (n : Nat) (l318 : Rs) (size319 : Int) (k320 : Int) (a321 : Int) (b322 : Int) (es323 : Rs) (es324 : Rs) (es325 : Rs)  (R : Type) (k : Ex → St → Option R) :
    joinK T G0 (ctrOf aPInst_Γ) (normJ aPInst_cfg) (aPInst_Λ n) (codeAt [1, 1, 1, 1, 1, 1, 0, 1, 0, 0, 1, 0, 0, 1, 1, 1, 1] (bodyOf Tryz.f7)) (buildSt aPInst_pj27 [.rows l318, .int size319, .int k320, .int a321, .int b322, .rows es323, .rows es324, .rows es325]) R k = aPInst_J27 n [.rows l318, .int size319, .int k320, .int a321, .int b322, .rows es323, .rows es324, .rows es325] R k := by kernel_rfl
theorem aPInst_eq (n : Nat) (l1 : Rs) :
    funK T G0 (ctrOf aPInst_Γ) (aPInst_Λ n) .d false [none] (funOf Tryz.f7) [(PV.fs l1)] = aPInst_b n  l1 (fun a0 a1 a2 a3 => some (aPInst_E (a0, a1, a2, a3))) := by kernel_rfl
theorem aPInst_inv {ps : Cs} {y : Rs × Rs × Rs × Rs} (h : aPInst_D ps = some y) : ∃ (l1 : Rs), ps = [(PV.fs l1)] := by
  unfold aPInst_D at h
  split at h
  · exact ⟨_, rfl⟩
  · cases h
theorem aPInst_loops : loopsOf (bodyOf Tryz.f7) = [codeAt [1, 1, 1, 0, 1, 0, 0] (bodyOf Tryz.f7), codeAt [1, 1, 1, 1, 1, 0, 1, 0, 0] (bodyOf Tryz.f7), codeAt [1, 1, 1, 1, 1, 1, 0, 1, 0, 0] (bodyOf Tryz.f7), codeAt [1, 1, 1, 1, 1, 1, 1, 0, 1, 0, 0] (bodyOf Tryz.f7), codeAt [1, 1, 1, 1, 1, 1, 1, 0, 1, 0, 0, 1, 0, 0, 1, 0, 1, 0, 0] (bodyOf Tryz.f7)] := by kernel_rfl
theorem aPInst_joins : (joinsOf (bodyOf Tryz.f7)).filter aPInst_on = [codeAt [1, 1, 1, 1, 1, 0, 1, 0, 0, 1, 0, 0, 1, 1, 1] (bodyOf Tryz.f7), codeAt [1, 1, 1, 1, 1, 1, 0, 1, 0, 0, 1, 0, 0, 1, 1] (bodyOf Tryz.f7), codeAt [1, 1, 1, 1, 1, 1, 0, 1, 0, 0, 1, 0, 0, 1, 1, 1, 1] (bodyOf Tryz.f7)] := by kernel_rfl
theorem aPInst_holds (hΓ : HoldsAll Tryz.prog G0 aPInst_Γ) (hok : ∀ (l1 : Rs) (y : Rs × Rs × Rs × Rs), aPInst_t l1 = some y → ∃ n, ∀ (R : Type) (k : Rs → Rs → Rs → Rs → Option R), aPInst_b n  l1 k = k y.1 y.2.1 y.2.2.1 y.2.2.2) : Holds Tryz.prog G0 7 aPInst_C := by
  refine fun_pat mixed tOk (ctrOf_ok hΓ) Tryz.func7 rfl rfl rfl rfl (F := funOf Tryz.f7) (normBy_ok aPInst_cfg) (pat := aPInst_pat) (L := aPInst_L) (normJ_ok aPInst_cfg) (on := aPInst_on) (patj := aPInst_patj) (J := aPInst_J) (fun c hc ls R k => ?_) (fun c hc p hp m ls R k r h => ?_) (fun c hc p hp m ls R k r h => ?_) (fun ps x h => ?_)
  · rw [show (funOf Tryz.f7).code = bodyOf Tryz.f7 from rfl, aPInst_loops] at hc
    simp only [List.mem_cons, List.not_mem_nil, or_false] at hc
    rcases hc with rfl | rfl | rfl | rfl | rfl
    · show aPInst_L4 0 ls R k = none
      unfold aPInst_L4
      split
      · rfl
      · rfl
    · show aPInst_L10 0 ls R k = none
      unfold aPInst_L10
      split
      · rfl
      · rfl
    · show aPInst_L19 0 ls R k = none
      unfold aPInst_L19
      split
      · rfl
      · rfl
    · show aPInst_L28 0 ls R k = none
      unfold aPInst_L28
      split
      · rfl
      · rfl
    · show aPInst_L32 0 ls R k = none
      unfold aPInst_L32
      split
      · rfl
      · rfl
  · rw [show (funOf Tryz.f7).code = bodyOf Tryz.f7 from rfl, aPInst_loops] at hc
    simp only [List.mem_cons, List.not_mem_nil, or_false] at hc
    rcases hc with rfl | rfl | rfl | rfl | rfl
    · obtain rfl : aPInst_p4 = p := Option.some.inj hp
      change aPInst_L4 (m + 1) ls R k = some r at h
      have h' := h
      unfold aPInst_L4 at h'
      split at h'
      · exact (aPInst_step4 m _ _ _ R k).trans h
      · cases h'
    · obtain rfl : aPInst_p10 = p := Option.some.inj hp
      change aPInst_L10 (m + 1) ls R k = some r at h
      have h' := h
      unfold aPInst_L10 at h'
      split at h'
      · exact (aPInst_step10 m _ _ _ _ _ R k).trans h
      · cases h'
    · obtain rfl : aPInst_p19 = p := Option.some.inj hp
      change aPInst_L19 (m + 1) ls R k = some r at h
      have h' := h
      unfold aPInst_L19 at h'
      split at h'
      · exact (aPInst_step19 m _ _ _ _ _ _ R k).trans h
      · cases h'
    · obtain rfl : aPInst_p28 = p := Option.some.inj hp
      change aPInst_L28 (m + 1) ls R k = some r at h
      have h' := h
      unfold aPInst_L28 at h'
      split at h'
      · exact (aPInst_step28 m _ _ _ _ _ _ _ R k).trans h
      · cases h'
    · obtain rfl : aPInst_p32 = p := Option.some.inj hp
      change aPInst_L32 (m + 1) ls R k = some r at h
      have h' := h
      unfold aPInst_L32 at h'
      split at h'
      · exact (aPInst_step32 m _ _ _ _ _ _ _ _ _ R k).trans h
      · cases h'
  · rw [show (funOf Tryz.f7).code = bodyOf Tryz.f7 from rfl, aPInst_joins] at hc
    simp only [List.mem_cons, List.not_mem_nil, or_false] at hc
    rcases hc with rfl | rfl | rfl
    · obtain rfl : aPInst_pj16 = p := Option.some.inj hp
      change aPInst_J16 m ls R k = some r at h
      have h' := h
      unfold aPInst_J16 at h'
      split at h'
      · exact (aPInst_stepq16 m _ _ _ _ _ _ _ _ _ _ R k).trans h
      · cases h'
    · obtain rfl : aPInst_pj25 = p := Option.some.inj hp
      change aPInst_J25 m ls R k = some r at h
      have h' := h
      unfold aPInst_J25 at h'
      split at h'
      · exact (aPInst_stepq25 m _ _ _ _ _ _ _ _ R k).trans h
      · cases h'
    · obtain rfl : aPInst_pj27 = p := Option.some.inj hp
      change aPInst_J27 m ls R k = some r at h
      have h' := h
      unfold aPInst_J27 at h'
      split at h'
      · exact (aPInst_stepq27 m _ _ _ _ _ _ _ _ R k).trans h
      · cases h'
  · obtain ⟨y, hy, hx⟩ := bind_inv h
    cases hx
    obtain ⟨l1, rfl⟩ := aPInst_inv hy
    obtain ⟨n, hn⟩ := hok l1 y hy
    exact ⟨n, (aPInst_eq n l1).trans (hn _ _)⟩

/-! ## drayman/txn.New -/
def aTxnNew_b {R : Type} (i1 : Rs) (i2 : Rs) (i3 : Rs) (i4 : Rs) (who5 : Int) (c6 : Int) (c7 : Int) (c8 : Int) (c9 : Int) (c10 : Int) (c11 : Int) (c12 : Int) (c13 : Int) (k : Rs → Rs → Rs → Rs → Int → Int → Int → Int → Int → Int → Int → Int → Int → Int → Int → Rs → Rs → Rs → Rs → Rs → Rs → Int → Rs → Rs → Rs → ByteArray → Bool → Option R) : Option R :=
  k i1 i2 i3 i4 who5 c6 c7 c8 c9 c10 c11 c12 c13 1 0 [] [] [] [] [] [] 0 [] [] [] (ByteArray.mk #[]) false
def aTxnNew_E (y : Rs × Rs × Rs × Rs × Int × Int × Int × Int × Int × Int × Int × Int × Int × Int × Int × Rs × Rs × Rs × Rs × Rs × Rs × Int × Rs × Rs × Rs × ByteArray × Bool) : PV × Cs := ((PV.obj [(PV.fs y.1), (PV.fs y.2.1), (PV.fs y.2.2.1), (PV.fs y.2.2.2.1), (PV.int .i64 y.2.2.2.2.1), (PV.int .i64 y.2.2.2.2.2.1), (PV.int .i64 y.2.2.2.2.2.2.1), (PV.int .i64 y.2.2.2.2.2.2.2.1), (PV.int .i64 y.2.2.2.2.2.2.2.2.1), (PV.int .i64 y.2.2.2.2.2.2.2.2.2.1), (PV.int .i64 y.2.2.2.2.2.2.2.2.2.2.1), (PV.int .i64 y.2.2.2.2.2.2.2.2.2.2.2.1), (PV.int .i64 y.2.2.2.2.2.2.2.2.2.2.2.2.1), (PV.int .i64 y.2.2.2.2.2.2.2.2.2.2.2.2.2.1), (PV.int .i64 y.2.2.2.2.2.2.2.2.2.2.2.2.2.2.1), PV.mnil, (PV.fs y.2.2.2.2.2.2.2.2.2.2.2.2.2.2.2.1), (PV.fs y.2.2.2.2.2.2.2.2.2.2.2.2.2.2.2.2.1), (PV.fs y.2.2.2.2.2.2.2.2.2.2.2.2.2.2.2.2.2.1), (PV.fs y.2.2.2.2.2.2.2.2.2.2.2.2.2.2.2.2.2.2.1), (PV.fs y.2.2.2.2.2.2.2.2.2.2.2.2.2.2.2.2.2.2.2.1), (PV.fs y.2.2.2.2.2.2.2.2.2.2.2.2.2.2.2.2.2.2.2.2.1), (PV.int .i64 y.2.2.2.2.2.2.2.2.2.2.2.2.2.2.2.2.2.2.2.2.2.1), PV.pnil, (PV.fs y.2.2.2.2.2.2.2.2.2.2.2.2.2.2.2.2.2.2.2.2.2.2.1), (PV.fs y.2.2.2.2.2.2.2.2.2.2.2.2.2.2.2.2.2.2.2.2.2.2.2.1), (PV.fs y.2.2.2.2.2.2.2.2.2.2.2.2.2.2.2.2.2.2.2.2.2.2.2.2.1), (PV.str y.2.2.2.2.2.2.2.2.2.2.2.2.2.2.2.2.2.2.2.2.2.2.2.2.2.1), (PV.bool y.2.2.2.2.2.2.2.2.2.2.2.2.2.2.2.2.2.2.2.2.2.2.2.2.2.2)]), [])
def aTxnNew_d (i1 : Rs) (i2 : Rs) (i3 : Rs) (i4 : Rs) (who5 : Int) (c6 : Int) (c7 : Int) (c8 : Int) (c9 : Int) (c10 : Int) (c11 : Int) (c12 : Int) (c13 : Int) : Option (Rs × Rs × Rs × Rs × Int × Int × Int × Int × Int × Int × Int × Int × Int × Int × Int × Rs × Rs × Rs × Rs × Rs × Rs × Int × Rs × Rs × Rs × ByteArray × Bool) := aTxnNew_b i1 i2 i3 i4 who5 c6 c7 c8 c9 c10 c11 c12 c13 fun a0 a1 a2 a3 a4 a5 a6 a7 a8 a9 a10 a11 a12 a13 a14 a15 a16 a17 a18 a19 a20 a21 a22 a23 a24 a25 a26 => some (a0, a1, a2, a3, a4, a5, a6, a7, a8, a9, a10, a11, a12, a13, a14, a15, a16, a17, a18, a19, a20, a21, a22, a23, a24, a25, a26)
def aTxnNew_D : Cs → Option (Rs × Rs × Rs × Rs × Int × Int × Int × Int × Int × Int × Int × Int × Int × Int × Int × Rs × Rs × Rs × Rs × Rs × Rs × Int × Rs × Rs × Rs × ByteArray × Bool)
  | [(PV.agg [(PV.fs i1), (PV.fs i2), (PV.fs i3), (PV.fs i4)]), (PV.int .i64 who5), (PV.agg [(PV.int .i64 c6), (PV.int .i64 c7), (PV.int .i64 c8), (PV.int .i64 c9), (PV.int .i64 c10), (PV.int .i64 c11), (PV.int .i64 c12), (PV.int .i64 c13)])] => aTxnNew_d i1 i2 i3 i4 who5 c6 c7 c8 c9 c10 c11 c12 c13
  | _ => none
def aTxnNew_Γ : List (Nat × Cal) := [(1000000003, ro_I), (1000000005, ro_I)]
def aTxnNew_C : Ctr := ⟨[none, none, none], Rs × Rs × Rs × Rs × Int × Int × Int × Int × Int × Int × Int × Int × Int × Int × Int × Rs × Rs × Rs × Rs × Rs × Rs × Int × Rs × Rs × Rs × ByteArray × Bool, aTxnNew_D, aTxnNew_E, false, (.o [.d, .d, .d, .d, .d, .d, .d, .d, .d, .d, .d, .d, .d, .d, .d, .d, .d, .d, .d, .d, .d, .d, .d, .d, .d, .d, .d, .d, .d])⟩
theorem aTxnNew_eq (i1 : Rs) (i2 : Rs) (i3 : Rs) (i4 : Rs) (who5 : Int) (c6 : Int) (c7 : Int) (c8 : Int) (c9 : Int) (c10 : Int) (c11 : Int) (c12 : Int) (c13 : Int) :
    funK T G0 (ctrOf aTxnNew_Γ) noL (.o [.d, .d, .d, .d, .d, .d, .d, .d, .d, .d, .d, .d, .d, .d, .d, .d, .d, .d, .d, .d, .d, .d, .d, .d, .d, .d, .d, .d, .d]) false [none, none, none] (funOf Tryz.f8) [(PV.agg [(PV.fs i1), (PV.fs i2), (PV.fs i3), (PV.fs i4)]), (PV.int .i64 who5), (PV.agg [(PV.int .i64 c6), (PV.int .i64 c7), (PV.int .i64 c8), (PV.int .i64 c9), (PV.int .i64 c10), (PV.int .i64 c11), (PV.int .i64 c12), (PV.int .i64 c13)])] = aTxnNew_b  i1 i2 i3 i4 who5 c6 c7 c8 c9 c10 c11 c12 c13 (fun a0 a1 a2 a3 a4 a5 a6 a7 a8 a9 a10 a11 a12 a13 a14 a15 a16 a17 a18 a19 a20 a21 a22 a23 a24 a25 a26 => some (aTxnNew_E (a0, a1, a2, a3, a4, a5, a6, a7, a8, a9, a10, a11, a12, a13, a14, a15, a16, a17, a18, a19, a20, a21, a22, a23, a24, a25, a26))) := by kernel_rfl
theorem aTxnNew_inv {ps : Cs} {y : Rs × Rs × Rs × Rs × Int × Int × Int × Int × Int × Int × Int × Int × Int × Int × Int × Rs × Rs × Rs × Rs × Rs × Rs × Int × Rs × Rs × Rs × ByteArray × Bool} (h : aTxnNew_D ps = some y) : ∃ (i1 : Rs) (i2 : Rs) (i3 : Rs) (i4 : Rs) (who5 : Int) (c6 : Int) (c7 : Int) (c8 : Int) (c9 : Int) (c10 : Int) (c11 : Int) (c12 : Int) (c13 : Int), ps = [(PV.agg [(PV.fs i1), (PV.fs i2), (PV.fs i3), (PV.fs i4)]), (PV.int .i64 who5), (PV.agg [(PV.int .i64 c6), (PV.int .i64 c7), (PV.int .i64 c8), (PV.int .i64 c9), (PV.int .i64 c10), (PV.int .i64 c11), (PV.int .i64 c12), (PV.int .i64 c13)])] := by
  unfold aTxnNew_D at h
  split at h
  · exact ⟨_, _, _, _, _, _, _, _, _, _, _, _, _, rfl⟩
  · cases h
theorem aTxnNew_nat {R : Type} (i1 : Rs) (i2 : Rs) (i3 : Rs) (i4 : Rs) (who5 : Int) (c6 : Int) (c7 : Int) (c8 : Int) (c9 : Int) (c10 : Int) (c11 : Int) (c12 : Int) (c13 : Int) (k : Rs → Rs → Rs → Rs → Int → Int → Int → Int → Int → Int → Int → Int → Int → Int → Int → Rs → Rs → Rs → Rs → Rs → Rs → Int → Rs → Rs → Rs → ByteArray → Bool → Option R) : aTxnNew_b i1 i2 i3 i4 who5 c6 c7 c8 c9 c10 c11 c12 c13 k = Option.bind (aTxnNew_b i1 i2 i3 i4 who5 c6 c7 c8 c9 c10 c11 c12 c13 fun a0 a1 a2 a3 a4 a5 a6 a7 a8 a9 a10 a11 a12 a13 a14 a15 a16 a17 a18 a19 a20 a21 a22 a23 a24 a25 a26 => some (a0, a1, a2, a3, a4, a5, a6, a7, a8, a9, a10, a11, a12, a13, a14, a15, a16, a17, a18, a19, a20, a21, a22, a23, a24, a25, a26)) fun y => k y.1 y.2.1 y.2.2.1 y.2.2.2.1 y.2.2.2.2.1 y.2.2.2.2.2.1 y.2.2.2.2.2.2.1 y.2.2.2.2.2.2.2.1 y.2.2.2.2.2.2.2.2.1 y.2.2.2.2.2.2.2.2.2.1 y.2.2.2.2.2.2.2.2.2.2.1 y.2.2.2.2.2.2.2.2.2.2.2.1 y.2.2.2.2.2.2.2.2.2.2.2.2.1 y.2.2.2.2.2.2.2.2.2.2.2.2.2.1 y.2.2.2.2.2.2.2.2.2.2.2.2.2.2.1 y.2.2.2.2.2.2.2.2.2.2.2.2.2.2.2.1 y.2.2.2.2.2.2.2.2.2.2.2.2.2.2.2.2.1 y.2.2.2.2.2.2.2.2.2.2.2.2.2.2.2.2.2.1 y.2.2.2.2.2.2.2.2.2.2.2.2.2.2.2.2.2.2.1 y.2.2.2.2.2.2.2.2.2.2.2.2.2.2.2.2.2.2.2.1 y.2.2.2.2.2.2.2.2.2.2.2.2.2.2.2.2.2.2.2.2.1 y.2.2.2.2.2.2.2.2.2.2.2.2.2.2.2.2.2.2.2.2.2.1 y.2.2.2.2.2.2.2.2.2.2.2.2.2.2.2.2.2.2.2.2.2.2.1 y.2.2.2.2.2.2.2.2.2.2.2.2.2.2.2.2.2.2.2.2.2.2.2.1 y.2.2.2.2.2.2.2.2.2.2.2.2.2.2.2.2.2.2.2.2.2.2.2.2.1 y.2.2.2.2.2.2.2.2.2.2.2.2.2.2.2.2.2.2.2.2.2.2.2.2.2.1 y.2.2.2.2.2.2.2.2.2.2.2.2.2.2.2.2.2.2.2.2.2.2.2.2.2.2 := by
  unfold aTxnNew_b
  first | rfl | simp only [Option.bind_assoc, bind_cond, bind_ite, Option.bind_some, Option.bind_none]
theorem aTxnNew_holds (hΓ : HoldsAll Tryz.prog G0 aTxnNew_Γ) : Holds Tryz.prog G0 8 aTxnNew_C := by
  refine fun_ok mixed tOk (ctrOf_ok hΓ) Tryz.func8 rfl rfl rfl rfl (F := funOf Tryz.f8) (fun ps x h => ?_)
  obtain ⟨y, hy, hx⟩ := bind_inv h
  cases hx
  obtain ⟨i1, i2, i3, i4, who5, c6, c7, c8, c9, c10, c11, c12, c13, rfl⟩ := aTxnNew_inv hy
  have hy' : aTxnNew_d i1 i2 i3 i4 who5 c6 c7 c8 c9 c10 c11 c12 c13 = some y := hy
  refine ⟨noL, noL_ok _, (aTxnNew_eq i1 i2 i3 i4 who5 c6 c7 c8 c9 c10 c11 c12 c13).trans ?_⟩
  unfold aTxnNew_d at hy'
  rw [aTxnNew_nat, hy']
  rfl

/-! ## drayman/stack.New -/
def aStackNew_b {R : Type} (k : Cs → Option R) : Option R :=
  k [(PV.fs [])]
def aStackNew_E (y : (Cs)) : PV × Cs := ((PV.rp y 0), [])
def aStackNew_d : Option ((Cs)) := aStackNew_b fun a0 => some a0
def aStackNew_D : Cs → Option ((Cs))
  | [] => aStackNew_d
  | _ => none
def aStackNew_Γ : List (Nat × Cal) := []
def aStackNew_C : Ctr := ⟨[], (Cs), aStackNew_D, aStackNew_E, false, .d⟩
theorem aStackNew_eq :
    funK T G0 (ctrOf aStackNew_Γ) noL .d false [] (funOf Tryz.f9) [] = aStackNew_b  (fun a0 => some (aStackNew_E a0)) := by kernel_rfl
theorem aStackNew_inv {ps : Cs} {y : (Cs)} (h : aStackNew_D ps = some y) : ps = [] := by
  unfold aStackNew_D at h
  split at h
  · rfl
  · cases h
theorem aStackNew_nat {R : Type} (k : Cs → Option R) : aStackNew_b k = Option.bind (aStackNew_b fun a0 => some a0) fun y => k y := by
  unfold aStackNew_b
  first | rfl | simp only [Option.bind_assoc, bind_cond, bind_ite, Option.bind_some, Option.bind_none]
theorem aStackNew_holds (hΓ : HoldsAll Tryz.prog G0 aStackNew_Γ) : Holds Tryz.prog G0 9 aStackNew_C := by
  refine fun_ok mixed tOk (ctrOf_ok hΓ) Tryz.func9 rfl rfl rfl rfl (F := funOf Tryz.f9) (fun ps x h => ?_)
  obtain ⟨y, hy, hx⟩ := bind_inv h
  cases hx
  obtain rfl := aStackNew_inv hy
  have hy' : aStackNew_d = some y := hy
  refine ⟨noL, noL_ok _, (aStackNew_eq).trans ?_⟩
  unfold aStackNew_d at hy'
  rw [aStackNew_nat, hy']
  rfl

/-! ## (*drayman/txn.Txn).Attempt -/
def aTxnTxnAttempt_b {R : Type} (t1 : Rs) (t2 : Rs) (t3 : Rs) (t4 : Rs) (t5 : Int) (t6 : Int) (t7 : Int) (t8 : Int) (t9 : Int) (t10 : Int) (t11 : Int) (t12 : Int) (t13 : Int) (t14 : Int) (t15 : Int) (t16 : PV) (t17 : Rs) (t18 : Rs) (t19 : Rs) (t20 : Rs) (t21 : Rs) (t22 : Rs) (t23 : Int) (t24 : PV) (t25 : Rs) (t26 : Rs) (t27 : Rs) (t28 : ByteArray) (t29 : Bool) (k : Int → Rs → Rs → Rs → Rs → Int → Int → Int → Int → Int → Int → Int → Int → Int → Int → Int → PV → Rs → Rs → Rs → Rs → Rs → Rs → Int → PV → Rs → Rs → Rs → ByteArray → Bool → Option R) : Option R :=
  k t14 t1 t2 t3 t4 t5 t6 t7 t8 t9 t10 t11 t12 t13 t14 t15 t16 t17 t18 t19 t20 t21 t22 t23 t24 t25 t26 t27 t28 t29
def aTxnTxnAttempt_E (y : Int × Rs × Rs × Rs × Rs × Int × Int × Int × Int × Int × Int × Int × Int × Int × Int × Int × PV × Rs × Rs × Rs × Rs × Rs × Rs × Int × PV × Rs × Rs × Rs × ByteArray × Bool) : PV × Cs := ((PV.int .i64 y.1), [(PV.obj [(PV.fs y.2.1), (PV.fs y.2.2.1), (PV.fs y.2.2.2.1), (PV.fs y.2.2.2.2.1), (PV.int .i64 y.2.2.2.2.2.1), (PV.int .i64 y.2.2.2.2.2.2.1), (PV.int .i64 y.2.2.2.2.2.2.2.1), (PV.int .i64 y.2.2.2.2.2.2.2.2.1), (PV.int .i64 y.2.2.2.2.2.2.2.2.2.1), (PV.int .i64 y.2.2.2.2.2.2.2.2.2.2.1), (PV.int .i64 y.2.2.2.2.2.2.2.2.2.2.2.1), (PV.int .i64 y.2.2.2.2.2.2.2.2.2.2.2.2.1), (PV.int .i64 y.2.2.2.2.2.2.2.2.2.2.2.2.2.1), (PV.int .i64 y.2.2.2.2.2.2.2.2.2.2.2.2.2.2.1), (PV.int .i64 y.2.2.2.2.2.2.2.2.2.2.2.2.2.2.2.1), y.2.2.2.2.2.2.2.2.2.2.2.2.2.2.2.2.1, (PV.fs y.2.2.2.2.2.2.2.2.2.2.2.2.2.2.2.2.2.1), (PV.fs y.2.2.2.2.2.2.2.2.2.2.2.2.2.2.2.2.2.2.1), (PV.fs y.2.2.2.2.2.2.2.2.2.2.2.2.2.2.2.2.2.2.2.1), (PV.fs y.2.2.2.2.2.2.2.2.2.2.2.2.2.2.2.2.2.2.2.2.1), (PV.fs y.2.2.2.2.2.2.2.2.2.2.2.2.2.2.2.2.2.2.2.2.2.1), (PV.fs y.2.2.2.2.2.2.2.2.2.2.2.2.2.2.2.2.2.2.2.2.2.2.1), (PV.int .i64 y.2.2.2.2.2.2.2.2.2.2.2.2.2.2.2.2.2.2.2.2.2.2.2.1), y.2.2.2.2.2.2.2.2.2.2.2.2.2.2.2.2.2.2.2.2.2.2.2.2.1, (PV.fs y.2.2.2.2.2.2.2.2.2.2.2.2.2.2.2.2.2.2.2.2.2.2.2.2.2.1), (PV.fs y.2.2.2.2.2.2.2.2.2.2.2.2.2.2.2.2.2.2.2.2.2.2.2.2.2.2.1), (PV.fs y.2.2.2.2.2.2.2.2.2.2.2.2.2.2.2.2.2.2.2.2.2.2.2.2.2.2.2.1), (PV.str y.2.2.2.2.2.2.2.2.2.2.2.2.2.2.2.2.2.2.2.2.2.2.2.2.2.2.2.2.1), (PV.bool y.2.2.2.2.2.2.2.2.2.2.2.2.2.2.2.2.2.2.2.2.2.2.2.2.2.2.2.2.2)])])
def aTxnTxnAttempt_d (t1 : Rs) (t2 : Rs) (t3 : Rs) (t4 : Rs) (t5 : Int) (t6 : Int) (t7 : Int) (t8 : Int) (t9 : Int) (t10 : Int) (t11 : Int) (t12 : Int) (t13 : Int) (t14 : Int) (t15 : Int) (t16 : PV) (t17 : Rs) (t18 : Rs) (t19 : Rs) (t20 : Rs) (t21 : Rs) (t22 : Rs) (t23 : Int) (t24 : PV) (t25 : Rs) (t26 : Rs) (t27 : Rs) (t28 : ByteArray) (t29 : Bool) : Option (Int × Rs × Rs × Rs × Rs × Int × Int × Int × Int × Int × Int × Int × Int × Int × Int × Int × PV × Rs × Rs × Rs × Rs × Rs × Rs × Int × PV × Rs × Rs × Rs × ByteArray × Bool) := aTxnTxnAttempt_b t1 t2 t3 t4 t5 t6 t7 t8 t9 t10 t11 t12 t13 t14 t15 t16 t17 t18 t19 t20 t21 t22 t23 t24 t25 t26 t27 t28 t29 fun a0 a1 a2 a3 a4 a5 a6 a7 a8 a9 a10 a11 a12 a13 a14 a15 a16 a17 a18 a19 a20 a21 a22 a23 a24 a25 a26 a27 a28 a29 => some (a0, a1, a2, a3, a4, a5, a6, a7, a8, a9, a10, a11, a12, a13, a14, a15, a16, a17, a18, a19, a20, a21, a22, a23, a24, a25, a26, a27, a28, a29)
def aTxnTxnAttempt_D : Cs → Option (Int × Rs × Rs × Rs × Rs × Int × Int × Int × Int × Int × Int × Int × Int × Int × Int × Int × PV × Rs × Rs × Rs × Rs × Rs × Rs × Int × PV × Rs × Rs × Rs × ByteArray × Bool)
  | [(PV.obj [(PV.fs t1), (PV.fs t2), (PV.fs t3), (PV.fs t4), (PV.int .i64 t5), (PV.int .i64 t6), (PV.int .i64 t7), (PV.int .i64 t8), (PV.int .i64 t9), (PV.int .i64 t10), (PV.int .i64 t11), (PV.int .i64 t12), (PV.int .i64 t13), (PV.int .i64 t14), (PV.int .i64 t15), t16, (PV.fs t17), (PV.fs t18), (PV.fs t19), (PV.fs t20), (PV.fs t21), (PV.fs t22), (PV.int .i64 t23), t24, (PV.fs t25), (PV.fs t26), (PV.fs t27), (PV.str t28), (PV.bool t29)])] => aTxnTxnAttempt_d t1 t2 t3 t4 t5 t6 t7 t8 t9 t10 t11 t12 t13 t14 t15 t16 t17 t18 t19 t20 t21 t22 t23 t24 t25 t26 t27 t28 t29
  | _ => none
def aTxnTxnAttempt_Γ : List (Nat × Cal) := []
def aTxnTxnAttempt_C : Ctr := ⟨[some ((.o [.d, .d, .d, .d, .d, .d, .d, .d, .d, .d, .d, .d, .d, .d, .d, .d, .d, .d, .d, .d, .d, .d, .d, .d, .d, .d, .d, .d, .d]), true)], Int × Rs × Rs × Rs × Rs × Int × Int × Int × Int × Int × Int × Int × Int × Int × Int × Int × PV × Rs × Rs × Rs × Rs × Rs × Rs × Int × PV × Rs × Rs × Rs × ByteArray × Bool, aTxnTxnAttempt_D, aTxnTxnAttempt_E, false, .d⟩
theorem aTxnTxnAttempt_eq (t1 : Rs) (t2 : Rs) (t3 : Rs) (t4 : Rs) (t5 : Int) (t6 : Int) (t7 : Int) (t8 : Int) (t9 : Int) (t10 : Int) (t11 : Int) (t12 : Int) (t13 : Int) (t14 : Int) (t15 : Int) (t16 : PV) (t17 : Rs) (t18 : Rs) (t19 : Rs) (t20 : Rs) (t21 : Rs) (t22 : Rs) (t23 : Int) (t24 : PV) (t25 : Rs) (t26 : Rs) (t27 : Rs) (t28 : ByteArray) (t29 : Bool) :
    funK T G0 (ctrOf aTxnTxnAttempt_Γ) noL .d false [some ((.o [.d, .d, .d, .d, .d, .d, .d, .d, .d, .d, .d, .d, .d, .d, .d, .d, .d, .d, .d, .d, .d, .d, .d, .d, .d, .d, .d, .d, .d]), true)] (funOf Tryz.f10) [(PV.obj [(PV.fs t1), (PV.fs t2), (PV.fs t3), (PV.fs t4), (PV.int .i64 t5), (PV.int .i64 t6), (PV.int .i64 t7), (PV.int .i64 t8), (PV.int .i64 t9), (PV.int .i64 t10), (PV.int .i64 t11), (PV.int .i64 t12), (PV.int .i64 t13), (PV.int .i64 t14), (PV.int .i64 t15), t16, (PV.fs t17), (PV.fs t18), (PV.fs t19), (PV.fs t20), (PV.fs t21), (PV.fs t22), (PV.int .i64 t23), t24, (PV.fs t25), (PV.fs t26), (PV.fs t27), (PV.str t28), (PV.bool t29)])] = aTxnTxnAttempt_b  t1 t2 t3 t4 t5 t6 t7 t8 t9 t10 t11 t12 t13 t14 t15 t16 t17 t18 t19 t20 t21 t22 t23 t24 t25 t26 t27 t28 t29 (fun a0 a1 a2 a3 a4 a5 a6 a7 a8 a9 a10 a11 a12 a13 a14 a15 a16 a17 a18 a19 a20 a21 a22 a23 a24 a25 a26 a27 a28 a29 => some (aTxnTxnAttempt_E (a0, a1, a2, a3, a4, a5, a6, a7, a8, a9, a10, a11, a12, a13, a14, a15, a16, a17, a18, a19, a20, a21, a22, a23, a24, a25, a26, a27, a28, a29))) := by kernel_rfl
theorem aTxnTxnAttempt_inv {ps : Cs} {y : Int × Rs × Rs × Rs × Rs × Int × Int × Int × Int × Int × Int × Int × Int × Int × Int × Int × PV × Rs × Rs × Rs × Rs × Rs × Rs × Int × PV × Rs × Rs × Rs × ByteArray × Bool} (h : aTxnTxnAttempt_D ps = some y) : ∃ (t1 : Rs) (t2 : Rs) (t3 : Rs) (t4 : Rs) (t5 : Int) (t6 : Int) (t7 : Int) (t8 : Int) (t9 : Int) (t10 : Int) (t11 : Int) (t12 : Int) (t13 : Int) (t14 : Int) (t15 : Int) (t16 : PV) (t17 : Rs) (t18 : Rs) (t19 : Rs) (t20 : Rs) (t21 : Rs) (t22 : Rs) (t23 : Int) (t24 : PV) (t25 : Rs) (t26 : Rs) (t27 : Rs) (t28 : ByteArray) (t29 : Bool), ps = [(PV.obj [(PV.fs t1), (PV.fs t2), (PV.fs t3), (PV.fs t4), (PV.int .i64 t5), (PV.int .i64 t6), (PV.int .i64 t7), (PV.int .i64 t8), (PV.int .i64 t9), (PV.int .i64 t10), (PV.int .i64 t11), (PV.int .i64 t12), (PV.int .i64 t13), (PV.int .i64 t14), (PV.int .i64 t15), t16, (PV.fs t17), (PV.fs t18), (PV.fs t19), (PV.fs t20), (PV.fs t21), (PV.fs t22), (PV.int .i64 t23), t24, (PV.fs t25), (PV.fs t26), (PV.fs t27), (PV.str t28), (PV.bool t29)])] := by
  unfold aTxnTxnAttempt_D at h
  split at h
  · exact ⟨_, _, _, _, _, _, _, _, _, _, _, _, _, _, _, _, _, _, _, _, _, _, _, _, _, _, _, _, _, rfl⟩
  · cases h
theorem aTxnTxnAttempt_nat {R : Type} (t1 : Rs) (t2 : Rs) (t3 : Rs) (t4 : Rs) (t5 : Int) (t6 : Int) (t7 : Int) (t8 : Int) (t9 : Int) (t10 : Int) (t11 : Int) (t12 : Int) (t13 : Int) (t14 : Int) (t15 : Int) (t16 : PV) (t17 : Rs) (t18 : Rs) (t19 : Rs) (t20 : Rs) (t21 : Rs) (t22 : Rs) (t23 : Int) (t24 : PV) (t25 : Rs) (t26 : Rs) (t27 : Rs) (t28 : ByteArray) (t29 : Bool) (k : Int → Rs → Rs → Rs → Rs → Int → Int → Int → Int → Int → Int → Int → Int → Int → Int → Int → PV → Rs → Rs → Rs → Rs → Rs → Rs → Int → PV → Rs → Rs → Rs → ByteArray → Bool → Option R) : aTxnTxnAttempt_b t1 t2 t3 t4 t5 t6 t7 t8 t9 t10 t11 t12 t13 t14 t15 t16 t17 t18 t19 t20 t21 t22 t23 t24 t25 t26 t27 t28 t29 k = Option.bind (aTxnTxnAttempt_b t1 t2 t3 t4 t5 t6 t7 t8 t9 t10 t11 t12 t13 t14 t15 t16 t17 t18 t19 t20 t21 t22 t23 t24 t25 t26 t27 t28 t29 fun a0 a1 a2 a3 a4 a5 a6 a7 a8 a9 a10 a11 a12 a13 a14 a15 a16 a17 a18 a19 a20 a21 a22 a23 a24 a25 a26 a27 a28 a29 => some (a0, a1, a2, a3, a4, a5, a6, a7, a8, a9, a10, a11, a12, a13, a14, a15, a16, a17, a18, a19, a20, a21, a22, a23, a24, a25, a26, a27, a28, a29)) fun y => k y.1 y.2.1 y.2.2.1 y.2.2.2.1 y.2.2.2.2.1 y.2.2.2.2.2.1 y.2.2.2.2.2.2.1 y.2.2.2.2.2.2.2.1 y.2.2.2.2.2.2.2.2.1 y.2.2.2.2.2.2.2.2.2.1 y.2.2.2.2.2.2.2.2.2.2.1 y.2.2.2.2.2.2.2.2.2.2.2.1 y.2.2.2.2.2.2.2.2.2.2.2.2.1 y.2.2.2.2.2.2.2.2.2.2.2.2.2.1 y.2.2.2.2.2.2.2.2.2.2.2.2.2.2.1 y.2.2.2.2.2.2.2.2.2.2.2.2.2.2.2.1 y.2.2.2.2.2.2.2.2.2.2.2.2.2.2.2.2.1 y.2.2.2.2.2.2.2.2.2.2.2.2.2.2.2.2.2.1 y.2.2.2.2.2.2.2.2.2.2.2.2.2.2.2.2.2.2.1 y.2.2.2.2.2.2.2.2.2.2.2.2.2.2.2.2.2.2.2.1 y.2.2.2.2.2.2.2.2.2.2.2.2.2.2.2.2.2.2.2.2.1 y.2.2.2.2.2.2.2.2.2.2.2.2.2.2.2.2.2.2.2.2.2.1 y.2.2.2.2.2.2.2.2.2.2.2.2.2.2.2.2.2.2.2.2.2.2.1 y.2.2.2.2.2.2.2.2.2.2.2.2.2.2.2.2.2.2.2.2.2.2.2.1 y.2.2.2.2.2.2.2.2.2.2.2.2.2.2.2.2.2.2.2.2.2.2.2.2.1 y.2.2.2.2.2.2.2.2.2.2.2.2.2.2.2.2.2.2.2.2.2.2.2.2.2.1 y.2.2.2.2.2.2.2.2.2.2.2.2.2.2.2.2.2.2.2.2.2.2.2.2.2.2.1 y.2.2.2.2.2.2.2.2.2.2.2.2.2.2.2.2.2.2.2.2.2.2.2.2.2.2.2.1 y.2.2.2.2.2.2.2.2.2.2.2.2.2.2.2.2.2.2.2.2.2.2.2.2.2.2.2.2.1 y.2.2.2.2.2.2.2.2.2.2.2.2.2.2.2.2.2.2.2.2.2.2.2.2.2.2.2.2.2 := by
  unfold aTxnTxnAttempt_b
  first | rfl | simp only [Option.bind_assoc, bind_cond, bind_ite, Option.bind_some, Option.bind_none]
theorem aTxnTxnAttempt_holds (hΓ : HoldsAll Tryz.prog G0 aTxnTxnAttempt_Γ) : Holds Tryz.prog G0 10 aTxnTxnAttempt_C := by
  refine fun_ok mixed tOk (ctrOf_ok hΓ) Tryz.func10 rfl rfl rfl rfl (F := funOf Tryz.f10) (fun ps x h => ?_)
  obtain ⟨y, hy, hx⟩ := bind_inv h
  cases hx
  obtain ⟨t1, t2, t3, t4, t5, t6, t7, t8, t9, t10, t11, t12, t13, t14, t15, t16, t17, t18, t19, t20, t21, t22, t23, t24, t25, t26, t27, t28, t29, rfl⟩ := aTxnTxnAttempt_inv hy
  have hy' : aTxnTxnAttempt_d t1 t2 t3 t4 t5 t6 t7 t8 t9 t10 t11 t12 t13 t14 t15 t16 t17 t18 t19 t20 t21 t22 t23 t24 t25 t26 t27 t28 t29 = some y := hy
  refine ⟨noL, noL_ok _, (aTxnTxnAttempt_eq t1 t2 t3 t4 t5 t6 t7 t8 t9 t10 t11 t12 t13 t14 t15 t16 t17 t18 t19 t20 t21 t22 t23 t24 t25 t26 t27 t28 t29).trans ?_⟩
  unfold aTxnTxnAttempt_d at hy'
  rw [aTxnTxnAttempt_nat, hy']
  rfl

/-! ## drayman/draymanref01.within -/
def aRWithin_b {R : Type} (n1 : Int) (low2 : Int) (high3 : Int) (k : Bool → Option R) : Option R :=
  cond (decide (n1 ≥ low2)) (
    k (decide (n1 ≤ high3))) (
    k false)
def aRWithin_E (y : Bool) : PV × Cs := ((PV.bool y), [])
def aRWithin_d (n1 : Int) (low2 : Int) (high3 : Int) : Option (Bool) := aRWithin_b n1 low2 high3 fun a0 => some a0
def aRWithin_D : Cs → Option (Bool)
  | [(PV.int .i64 n1), (PV.int .i64 low2), (PV.int .i64 high3)] => aRWithin_d n1 low2 high3
  | _ => none
def aRWithin_Γ : List (Nat × Cal) := []
def aRWithin_C : Ctr := ⟨[none, none, none], Bool, aRWithin_D, aRWithin_E, true, .d⟩
theorem aRWithin_eq (n1 : Int) (low2 : Int) (high3 : Int) :
    funK T G0 (ctrOf aRWithin_Γ) noL .d true [none, none, none] (funOf Tryz.f19) [(PV.int .i64 n1), (PV.int .i64 low2), (PV.int .i64 high3)] = aRWithin_b  n1 low2 high3 (fun a0 => some (aRWithin_E a0)) := by kernel_rfl
theorem aRWithin_inv {ps : Cs} {y : Bool} (h : aRWithin_D ps = some y) : ∃ (n1 : Int) (low2 : Int) (high3 : Int), ps = [(PV.int .i64 n1), (PV.int .i64 low2), (PV.int .i64 high3)] := by
  unfold aRWithin_D at h
  split at h
  · exact ⟨_, _, _, rfl⟩
  · cases h
theorem aRWithin_nat {R : Type} (n1 : Int) (low2 : Int) (high3 : Int) (k : Bool → Option R) : aRWithin_b n1 low2 high3 k = Option.bind (aRWithin_b n1 low2 high3 fun a0 => some a0) fun y => k y := by
  unfold aRWithin_b
  first | rfl | simp only [Option.bind_assoc, bind_cond, bind_ite, Option.bind_some, Option.bind_none]
theorem aRWithin_holds (hΓ : HoldsAll Tryz.prog G0 aRWithin_Γ) : Holds Tryz.prog G0 19 aRWithin_C := by
  refine fun_ok mixed tOk (ctrOf_ok hΓ) Tryz.func19 rfl rfl rfl rfl (F := funOf Tryz.f19) (fun ps x h => ?_)
  obtain ⟨y, hy, hx⟩ := bind_inv h
  cases hx
  obtain ⟨n1, low2, high3, rfl⟩ := aRWithin_inv hy
  have hy' : aRWithin_d n1 low2 high3 = some y := hy
  refine ⟨noL, noL_ok _, (aRWithin_eq n1 low2 high3).trans ?_⟩
  unfold aRWithin_d at hy'
  rw [aRWithin_nat, hy']
  rfl

end
end Go.Proofs.YtpaifgipdhgfkaaGreatDoorV
