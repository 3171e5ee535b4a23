/- What the functions of the program come to, as the reading machine has it: printed by dec.py. -/
import Derived.Test.YtkeklbicmfhemabGreatDoorVTab
import Derived.Test.YtkeklbicmfhemabGreatDoorSI
import Derived.Test.YtkeklbicmfhemabGreatDoorD00
namespace Go.Proofs.YtkeklbicmfhemabGreatDoorV
open Go
set_option maxRecDepth 100000
set_option linter.unusedVariables false
set_option linter.unusedSimpArgs false
noncomputable section
/-! ## drayman/draymanplay.num -/
def pNum_b {R : Type} (l1 : List (List PV)) (k2 : Int) (k : Int → Option R) : Option R :=
  cond ((l1.length : Int) == (0 : Int)) (
    k (IntKind.i64.wrap (k2 * (7 : Int)))) (
    if (l1.length : Int) = 0 then none else
    Option.bind (idx l1 (Int.tmod k2 (l1.length : Int))) fun e3 =>
    if e3.length = 1 then
      Option.bind (e3[0]?) fun c4 =>
      Option.bind (PV.asI .i64 c4) fun n5 =>
      if (l1.length : Int) = 0 then none else
      if (IntKind.i64.wrap ((1 : Int) + (IntKind.i64.wrap (Int.tdiv k2 (l1.length : Int))))) = 0 then none else
      if (l1.length : Int) = 0 then none else
      k (IntKind.i64.wrap ((IntKind.i64.wrap (Int.tdiv n5 (IntKind.i64.wrap ((1 : Int) + (IntKind.i64.wrap (Int.tdiv k2 (l1.length : Int))))))) + (IntKind.i64.wrap (Int.tdiv k2 (l1.length : Int)))))
    else none)
def pNum_E (y : Int) : PV × List PV := ((PV.int .i64 y), [])
def pNum_d (l1 : List (List PV)) (k2 : Int) : Option (Int) := pNum_b l1 k2 fun a0 => some a0
def pNum_D : List PV → Option (Int)
  | [(PV.fs l1), (PV.int .i64 k2)] => pNum_d l1 k2
  | _ => none
def pNum_Γ : List (Nat × Cal) := []
def pNum_C : Ctr := ⟨[none, none], Int, pNum_D, pNum_E, true, .d⟩
theorem pNum_eq (l1 : List (List PV)) (k2 : Int) :
    funK T G0 (ctrOf pNum_Γ) noL .d true [none, none] (funOf Tryz.f13) [(PV.fs l1), (PV.int .i64 k2)] = pNum_b  l1 k2 (fun a0 => some (pNum_E a0)) := by kernel_rfl
theorem pNum_inv {ps : List PV} {y : Int} (h : pNum_D ps = some y) : ∃ (l1 : List (List PV)) (k2 : Int), ps = [(PV.fs l1), (PV.int .i64 k2)] := by
  unfold pNum_D at h
  split at h
  · exact ⟨_, _, rfl⟩
  · cases h
theorem pNum_nat {R : Type} (l1 : List (List PV)) (k2 : Int) (k : Int → Option R) : pNum_b l1 k2 k = Option.bind (pNum_b l1 k2 fun a0 => some a0) fun y => k y := by
  unfold pNum_b
  first | rfl | simp only [Option.bind_assoc, bind_cond, bind_ite, Option.bind_some, Option.bind_none]
theorem pNum_holds (hΓ : HoldsAll Tryz.prog G0 pNum_Γ) : Holds Tryz.prog G0 13 pNum_C := by
  refine fun_ok mixed tOk (ctrOf_ok hΓ) Tryz.func13 rfl rfl rfl rfl (F := funOf Tryz.f13) (fun ps x h => ?_)
  obtain ⟨y, hy, hx⟩ := bind_inv h
  cases hx
  obtain ⟨l1, k2, rfl⟩ := pNum_inv hy
  have hy' : pNum_d l1 k2 = some y := hy
  refine ⟨noL, noL_ok _, (pNum_eq l1 k2).trans ?_⟩
  unfold pNum_d at hy'
  rw [pNum_nat, hy']
  rfl

/-! ## drayman/draymanplay.Inst -/
def pInst_l32 {R : Type} : Nat → List (List PV) → Int → Int → Int → List (List PV) → List (List PV) → List (List PV) → List (List PV) → List (List PV) → (List (List PV) → Int → Int → List (List PV) → List (List PV) → List (List PV) → List (List PV) → List (List PV) → Option R) → Option R
  | 0, _, _, _, _, _, _, _, _, _, _ => none
  | n + 1, l255, size256, a257, b258, es259, es260, es261, es262, es263, k0 =>
    cond (decide (b258 ≤ size256)) (
      Option.bind (pNum_d l255 (IntKind.i64.wrap ((IntKind.i64.wrap ((20 : Int) + (IntKind.i64.wrap ((3 : Int) * a257)))) + (IntKind.i64.wrap ((5 : Int) * b258))))) fun y264 =>
      Option.bind (within_d y264 14) fun y265 =>
      cond (a257 == b258) (
        if (es263.length + ([[(PV.int .i64 0)]] : List (List PV)).length) * 8 ≤ maxBytes then
          pInst_l32 n l255 size256 a257 (IntKind.i64.wrap (b258 + (1 : Int))) es259 es260 es261 es262 (es263 ++ [[(PV.int .i64 0)]]) k0
        else none) (
        if (es263.length + ([[(PV.int .i64 (IntKind.i64.wrap ((1 : Int) + y265)))]] : List (List PV)).length) * 8 ≤ maxBytes then
          pInst_l32 n l255 size256 a257 (IntKind.i64.wrap (b258 + (1 : Int))) es259 es260 es261 es262 (es263 ++ [[(PV.int .i64 (IntKind.i64.wrap ((1 : Int) + y265)))]]) k0
        else none)) (
      k0 l255 size256 a257 es259 es260 es261 es262 es263)
def pInst_q27 {R : Type} (n : Nat) (l318 : List (List PV)) (size319 : Int) (k320 : Int) (a321 : Int) (b322 : Int) (es323 : List (List PV)) (es324 : List (List PV)) (es325 : List (List PV)) (k0 : List (List PV) → Int → Int → List (List PV) → List (List PV) → List (List PV) → Option R) : Option R :=
  if (es325.length + ([[(PV.int .i64 a321), (PV.int .i64 b322)]] : List (List PV)).length) * 16 ≤ maxBytes then
    k0 l318 size319 k320 es323 es324 (es325 ++ [[(PV.int .i64 a321), (PV.int .i64 b322)]])
  else none
def pInst_q16 {R : Type} (n : Nat) (l266 : List (List PV)) (size267 : Int) (k268 : Int) (n269 : Int) (es270 : List (List PV)) (es271 : List (List PV)) (i272 : Int) (i273 : Int) (i274 : Int) (i275 : Int) (k0 : List (List PV) → Int → Int → List (List PV) → List (List PV) → Option R) : Option R :=
  Option.bind (within_d n269 9) fun y276 =>
  cond (y276 == (8 : Int)) (
    Option.bind (within_d (IntKind.i64.wrap (Int.tdiv n269 (9 : Int))) 4) fun y277 =>
    if (es271.length + ([[(PV.int .i64 (IntKind.i64.wrap ((-1 : Int) - y277))), (PV.int .i64 i273), (PV.int .i64 i274), (PV.int .i64 i275)]] : List (List PV)).length) * 32 ≤ maxBytes then
      k0 l266 size267 k268 es270 (es271 ++ [[(PV.int .i64 (IntKind.i64.wrap ((-1 : Int) - y277))), (PV.int .i64 i273), (PV.int .i64 i274), (PV.int .i64 i275)]])
    else none) (
    if (es271.length + ([[(PV.int .i64 i272), (PV.int .i64 i273), (PV.int .i64 i274), (PV.int .i64 i275)]] : List (List PV)).length) * 32 ≤ maxBytes then
      k0 l266 size267 k268 es270 (es271 ++ [[(PV.int .i64 i272), (PV.int .i64 i273), (PV.int .i64 i274), (PV.int .i64 i275)]])
    else none)
def pInst_q25 {R : Type} (n : Nat) (l278 : List (List PV)) (size279 : Int) (k280 : Int) (a281 : Int) (b282 : Int) (es283 : List (List PV)) (es284 : List (List PV)) (es285 : List (List PV)) (k0 : List (List PV) → Int → Int → List (List PV) → List (List PV) → List (List PV) → Option R) : Option R :=
  Option.bind (pNum_d l278 (IntKind.i64.wrap ((16 : Int) + k280))) fun y286 =>
  Option.bind (within_d y286 9) fun y287 =>
  meet (
    if 0 ≤ (IntKind.i64.wrap (a281 - (1 : Int))) ∧ (IntKind.i64.wrap (a281 - (1 : Int))) < (es284.length : Int) then
      meet (
        Option.bind (es284[(Int.toNat (IntKind.i64.wrap (a281 - (1 : Int))))]?) fun e288 =>
        Option.bind (e288[0]?) fun c289 =>
        if 0 ≤ (IntKind.i64.wrap (b282 - (1 : Int))) ∧ (IntKind.i64.wrap (b282 - (1 : Int))) < ((List.set es284 (Int.toNat (IntKind.i64.wrap (a281 - (1 : Int)))) (List.set e288 0 (PV.int .i64 y287))).length : Int) then
          Option.bind ((List.set es284 (Int.toNat (IntKind.i64.wrap (a281 - (1 : Int)))) (List.set e288 0 (PV.int .i64 y287)))[(Int.toNat (IntKind.i64.wrap (b282 - (1 : Int))))]?) fun e290 =>
          Option.bind (e290[0]?) fun c291 =>
          pInst_q27 n l278 size279 k280 a281 b282 es283 (List.set (List.set es284 (Int.toNat (IntKind.i64.wrap (a281 - (1 : Int)))) (List.set e288 0 (PV.int .i64 y287))) (Int.toNat (IntKind.i64.wrap (b282 - (1 : Int)))) (List.set e290 0 (PV.int .i64 (IntKind.i64.wrap (0 - y287))))) es285 k0
        else none) (
        Option.bind (es284[(Int.toNat (IntKind.i64.wrap (a281 - (1 : Int))))]?) fun e298 =>
        Option.bind (e298[0]?) fun c299 =>
        if 0 ≤ (IntKind.i64.wrap (b282 - (1 : Int))) ∧ (IntKind.i64.wrap (b282 - (1 : Int))) < ((List.set es284 (Int.toNat (IntKind.i64.wrap (a281 - (1 : Int)))) (List.set e298 0 (PV.int .i64 y287))).length : Int) then
          Option.bind ((List.set es284 (Int.toNat (IntKind.i64.wrap (a281 - (1 : Int)))) (List.set e298 0 (PV.int .i64 y287)))[(Int.toNat (IntKind.i64.wrap (b282 - (1 : Int))))]?) fun e300 =>
          Option.bind (e300[0]?) fun c301 =>
          pInst_q27 n l278 size279 k280 a281 b282 es283 (List.set (List.set es284 (Int.toNat (IntKind.i64.wrap (a281 - (1 : Int)))) (List.set e298 0 (PV.int .i64 y287))) (Int.toNat (IntKind.i64.wrap (b282 - (1 : Int)))) (List.set e300 0 (PV.int .i64 (IntKind.i64.wrap (0 - y287))))) es285 k0
        else none)
    else none) (
    if 0 ≤ (IntKind.i64.wrap (a281 - (1 : Int))) ∧ (IntKind.i64.wrap (a281 - (1 : Int))) < (es284.length : Int) then
      Option.bind (es284[(Int.toNat (IntKind.i64.wrap (a281 - (1 : Int))))]?) fun e308 =>
      Option.bind (e308[0]?) fun c309 =>
      if 0 ≤ (IntKind.i64.wrap (b282 - (1 : Int))) ∧ (IntKind.i64.wrap (b282 - (1 : Int))) < ((List.set es284 (Int.toNat (IntKind.i64.wrap (a281 - (1 : Int)))) (List.set e308 0 (PV.int .i64 y287))).length : Int) then
        Option.bind ((List.set es284 (Int.toNat (IntKind.i64.wrap (a281 - (1 : Int)))) (List.set e308 0 (PV.int .i64 y287)))[(Int.toNat (IntKind.i64.wrap (b282 - (1 : Int))))]?) fun e310 =>
        Option.bind (e310[0]?) fun c311 =>
        pInst_q27 n l278 size279 k280 a281 b282 es283 (List.set (List.set es284 (Int.toNat (IntKind.i64.wrap (a281 - (1 : Int)))) (List.set e308 0 (PV.int .i64 y287))) (Int.toNat (IntKind.i64.wrap (b282 - (1 : Int)))) (List.set e310 0 (PV.int .i64 (IntKind.i64.wrap (0 - y287))))) es285 k0
      else none
    else none)
def pInst_l28 {R : Type} : Nat → List (List PV) → Int → Int → List (List PV) → List (List PV) → List (List PV) → List (List PV) → (List (List PV) → List (List PV) → List (List PV) → List (List PV) → Option R) → Option R
  | 0, _, _, _, _, _, _, _, _ => none
  | n + 1, l240, size241, a242, es243, es244, es245, es246, k0 =>
    cond (decide (a242 ≤ size241)) (
      pInst_l32 n l240 size241 a242 0 es243 es244 es245 es246 []
        (fun (l247 : List (List PV)) (size248 : Int) (a249 : Int) (es250 : List (List PV)) (es251 : List (List PV)) (es252 : List (List PV)) (es253 : List (List PV)) (es254 : List (List PV)) =>
          if (es253.length + ([[(PV.fs es254)]] : List (List PV)).length) * 24 ≤ maxBytes then
            pInst_l28 n l247 size248 (IntKind.i64.wrap (a249 + (1 : Int))) es250 es251 es252 (es253 ++ [[(PV.fs es254)]]) k0
          else none)) (
      k0 es243 es244 es245 es246)
def pInst_l19 {R : Type} : Nat → List (List PV) → Int → Int → List (List PV) → List (List PV) → List (List PV) → (List (List PV) → Int → List (List PV) → List (List PV) → List (List PV) → Option R) → Option R
  | 0, _, _, _, _, _, _, _ => none
  | n + 1, l218, size219, k220, es221, es222, es223, k0 =>
    Option.bind (pNum_d l218 14) fun y224 =>
    Option.bind (within_d y224 3) fun y225 =>
    cond (decide (k220 < y225)) (
      cond (decide ((IntKind.i64.wrap ((IntKind.i64.wrap ((2 : Int) * k220)) + (2 : Int))) ≤ size219)) (
        Option.bind (pNum_d l218 (IntKind.i64.wrap ((15 : Int) + k220))) fun y226 =>
        Option.bind (within_d y226 2) fun y227 =>
        cond (y227 == (1 : Int)) (
          pInst_q25 n l218 size219 k220 (IntKind.i64.wrap ((IntKind.i64.wrap ((2 : Int) * k220)) + (2 : Int))) (IntKind.i64.wrap ((IntKind.i64.wrap ((2 : Int) * k220)) + (1 : Int))) es221 es222 es223
            (fun (l228 : List (List PV)) (size229 : Int) (k230 : Int) (es231 : List (List PV)) (es232 : List (List PV)) (es233 : List (List PV)) =>
              pInst_l19 n l228 size229 (IntKind.i64.wrap (k230 + (1 : Int))) es231 es232 es233 k0)) (
          pInst_q25 n l218 size219 k220 (IntKind.i64.wrap ((IntKind.i64.wrap ((2 : Int) * k220)) + (1 : Int))) (IntKind.i64.wrap ((IntKind.i64.wrap ((2 : Int) * k220)) + (2 : Int))) es221 es222 es223
            (fun (l234 : List (List PV)) (size235 : Int) (k236 : Int) (es237 : List (List PV)) (es238 : List (List PV)) (es239 : List (List PV)) =>
              pInst_l19 n l234 size235 (IntKind.i64.wrap (k236 + (1 : Int))) es237 es238 es239 k0))) (
        k0 l218 size219 es221 es222 es223)) (
      k0 l218 size219 es221 es222 es223)
def pInst_l10 {R : Type} : Nat → List (List PV) → Int → Int → List (List PV) → List (List PV) → (List (List PV) → Int → List (List PV) → List (List PV) → Option R) → Option R
  | 0, _, _, _, _, _, _ => none
  | n + 1, l184, size185, k186, es187, es188, k0 =>
    cond (decide (k186 < size185)) (
      Option.bind (pNum_d l184 (IntKind.i64.wrap ((5 : Int) + k186))) fun y189 =>
      Option.bind (within_d y189 8) fun y190 =>
      Option.bind (within_d (IntKind.i64.wrap (Int.tdiv y189 (8 : Int))) 30) fun y191 =>
      Option.bind (within_d (IntKind.i64.wrap (Int.tdiv y189 (240 : Int))) 6) fun y192 =>
      Option.bind (within_d (IntKind.i64.wrap (Int.tdiv y189 (7 : Int))) 4) fun y193 =>
      meet (
        if 0 ≤ y193 ∧ y193 < (4 : Int) then
          Option.bind (([[(PV.int .i64 900)], [(PV.int .i64 60)], [(PV.int .i64 25)], [(PV.int .i64 8)]] : List (List PV))[(Int.toNat y193)]?) fun e194 =>
          Option.bind (e194[0]?) fun c195 =>
          Option.bind (PV.asI .i64 c195) fun n196 =>
          pInst_q16 n l184 size185 k186 y189 es187 es188 y190 y191 (if (1000 : Int) < (IntKind.i64.wrap (y191 + n196)) then (1000 : Int) else (IntKind.i64.wrap (y191 + n196))) y192
            (fun (l197 : List (List PV)) (size198 : Int) (k199 : Int) (es200 : List (List PV)) (es201 : List (List PV)) =>
              pInst_l10 n l197 size198 (IntKind.i64.wrap (k199 + (1 : Int))) es200 es201 k0)
        else none) (
        if 0 ≤ y193 ∧ y193 < (4 : Int) then
          meet (
            Option.bind (([[(PV.int .i64 900)], [(PV.int .i64 60)], [(PV.int .i64 25)], [(PV.int .i64 8)]] : List (List PV))[(Int.toNat y193)]?) fun e202 =>
            Option.bind (e202[0]?) fun c203 =>
            Option.bind (PV.asI .i64 c203) fun n204 =>
            pInst_q16 n l184 size185 k186 y189 es187 es188 y190 y191 (if (1000 : Int) < (IntKind.i64.wrap (y191 + n204)) then (1000 : Int) else (IntKind.i64.wrap (y191 + n204))) y192
              (fun (l205 : List (List PV)) (size206 : Int) (k207 : Int) (es208 : List (List PV)) (es209 : List (List PV)) =>
                pInst_l10 n l205 size206 (IntKind.i64.wrap (k207 + (1 : Int))) es208 es209 k0)) (
            Option.bind (([[(PV.int .i64 900)], [(PV.int .i64 60)], [(PV.int .i64 25)], [(PV.int .i64 8)]] : List (List PV))[(Int.toNat y193)]?) fun e210 =>
            Option.bind (e210[0]?) fun c211 =>
            Option.bind (PV.asI .i64 c211) fun n212 =>
            pInst_q16 n l184 size185 k186 y189 es187 es188 y190 y191 (if (1000 : Int) < (IntKind.i64.wrap (y191 + n212)) then (1000 : Int) else (IntKind.i64.wrap (y191 + n212))) y192
              (fun (l213 : List (List PV)) (size214 : Int) (k215 : Int) (es216 : List (List PV)) (es217 : List (List PV)) =>
                pInst_l10 n l213 size214 (IntKind.i64.wrap (k215 + (1 : Int))) es216 es217 k0))
        else none)) (
      k0 l184 size185 es187 es188)
def pInst_l4 {R : Type} : Nat → List (List PV) → Int → List (List PV) → (List (List PV) → List (List PV) → Option R) → Option R
  | 0, _, _, _, _ => none
  | n + 1, l19, k20, es21, k0 =>
    Option.bind (pNum_d l19 0) fun y22 =>
    Option.bind (within_d y22 3) fun y23 =>
    cond (decide (k20 < (IntKind.i64.wrap ((1 : Int) + y23)))) (
      Option.bind (pNum_d l19 (IntKind.i64.wrap ((1 : Int) + k20))) fun y24 =>
      Option.bind (within_d y24 4) fun y25 =>
      Option.bind (within_d (IntKind.i64.wrap (Int.tdiv y24 (4 : Int))) 9) fun y26 =>
      Option.bind (within_d (IntKind.i64.wrap (Int.tdiv y24 (36 : Int))) 4) fun y27 =>
      meet (
        meet (
          if 0 ≤ y25 ∧ y25 < (4 : Int) then
            meet (
              Option.bind (([[(PV.int .i64 20)], [(PV.int .i64 60)], [(PV.int .i64 9)], [(PV.int .i64 30)]] : List (List PV))[(Int.toNat y25)]?) fun e28 =>
              Option.bind (e28[0]?) fun c29 =>
              Option.bind (PV.asI .i64 c29) fun n30 =>
              if 0 ≤ y27 ∧ y27 < (4 : Int) then
                Option.bind (([[(PV.int .i64 1000)], [(PV.int .i64 200)], [(PV.int .i64 90)], [(PV.int .i64 60)]] : List (List PV))[(Int.toNat y27)]?) fun e31 =>
                Option.bind (e31[0]?) fun c32 =>
                Option.bind (PV.asI .i64 c32) fun n33 =>
                if (es21.length + ([[(PV.int .i64 n30), (PV.int .i64 y26), (PV.int .i64 n33)]] : List (List PV)).length) * 24 ≤ maxBytes then
                  pInst_l4 n l19 (IntKind.i64.wrap (k20 + (1 : Int))) (es21 ++ [[(PV.int .i64 n30), (PV.int .i64 y26), (PV.int .i64 n33)]]) k0
                else none
              else none) (
              if 0 ≤ y27 ∧ y27 < (4 : Int) then
                meet (
                  Option.bind (([[(PV.int .i64 20)], [(PV.int .i64 60)], [(PV.int .i64 9)], [(PV.int .i64 30)]] : List (List PV))[(Int.toNat y25)]?) fun e34 =>
                  Option.bind (e34[0]?) fun c35 =>
                  Option.bind (PV.asI .i64 c35) fun n36 =>
                  Option.bind (([[(PV.int .i64 1000)], [(PV.int .i64 200)], [(PV.int .i64 90)], [(PV.int .i64 60)]] : List (List PV))[(Int.toNat y27)]?) fun e37 =>
                  Option.bind (e37[0]?) fun c38 =>
                  Option.bind (PV.asI .i64 c38) fun n39 =>
                  if (es21.length + ([[(PV.int .i64 n36), (PV.int .i64 y26), (PV.int .i64 n39)]] : List (List PV)).length) * 24 ≤ maxBytes then
                    pInst_l4 n l19 (IntKind.i64.wrap (k20 + (1 : Int))) (es21 ++ [[(PV.int .i64 n36), (PV.int .i64 y26), (PV.int .i64 n39)]]) k0
                  else none) (
                  Option.bind (([[(PV.int .i64 1000)], [(PV.int .i64 200)], [(PV.int .i64 90)], [(PV.int .i64 60)]] : List (List PV))[(Int.toNat y27)]?) fun e40 =>
                  Option.bind (e40[0]?) fun c41 =>
                  Option.bind (PV.asI .i64 c41) fun n42 =>
                  Option.bind (([[(PV.int .i64 20)], [(PV.int .i64 60)], [(PV.int .i64 9)], [(PV.int .i64 30)]] : List (List PV))[(Int.toNat y25)]?) fun e43 =>
                  Option.bind (e43[0]?) fun c44 =>
                  Option.bind (PV.asI .i64 c44) fun n45 =>
                  if (es21.length + ([[(PV.int .i64 n45), (PV.int .i64 y26), (PV.int .i64 n42)]] : List (List PV)).length) * 24 ≤ maxBytes then
                    pInst_l4 n l19 (IntKind.i64.wrap (k20 + (1 : Int))) (es21 ++ [[(PV.int .i64 n45), (PV.int .i64 y26), (PV.int .i64 n42)]]) k0
                  else none)
              else none)
          else none) (
          if 0 ≤ y27 ∧ y27 < (4 : Int) then
            meet (
              if 0 ≤ y25 ∧ y25 < (4 : Int) then
                meet (
                  Option.bind (([[(PV.int .i64 20)], [(PV.int .i64 60)], [(PV.int .i64 9)], [(PV.int .i64 30)]] : List (List PV))[(Int.toNat y25)]?) fun e46 =>
                  Option.bind (e46[0]?) fun c47 =>
                  Option.bind (PV.asI .i64 c47) fun n48 =>
                  Option.bind (([[(PV.int .i64 1000)], [(PV.int .i64 200)], [(PV.int .i64 90)], [(PV.int .i64 60)]] : List (List PV))[(Int.toNat y27)]?) fun e49 =>
                  Option.bind (e49[0]?) fun c50 =>
                  Option.bind (PV.asI .i64 c50) fun n51 =>
                  if (es21.length + ([[(PV.int .i64 n48), (PV.int .i64 y26), (PV.int .i64 n51)]] : List (List PV)).length) * 24 ≤ maxBytes then
                    pInst_l4 n l19 (IntKind.i64.wrap (k20 + (1 : Int))) (es21 ++ [[(PV.int .i64 n48), (PV.int .i64 y26), (PV.int .i64 n51)]]) k0
                  else none) (
                  Option.bind (([[(PV.int .i64 1000)], [(PV.int .i64 200)], [(PV.int .i64 90)], [(PV.int .i64 60)]] : List (List PV))[(Int.toNat y27)]?) fun e52 =>
                  Option.bind (e52[0]?) fun c53 =>
                  Option.bind (PV.asI .i64 c53) fun n54 =>
                  Option.bind (([[(PV.int .i64 20)], [(PV.int .i64 60)], [(PV.int .i64 9)], [(PV.int .i64 30)]] : List (List PV))[(Int.toNat y25)]?) fun e55 =>
                  Option.bind (e55[0]?) fun c56 =>
                  Option.bind (PV.asI .i64 c56) fun n57 =>
                  if (es21.length + ([[(PV.int .i64 n57), (PV.int .i64 y26), (PV.int .i64 n54)]] : List (List PV)).length) * 24 ≤ maxBytes then
                    pInst_l4 n l19 (IntKind.i64.wrap (k20 + (1 : Int))) (es21 ++ [[(PV.int .i64 n57), (PV.int .i64 y26), (PV.int .i64 n54)]]) k0
                  else none)
              else none) (
              Option.bind (([[(PV.int .i64 1000)], [(PV.int .i64 200)], [(PV.int .i64 90)], [(PV.int .i64 60)]] : List (List PV))[(Int.toNat y27)]?) fun e58 =>
              Option.bind (e58[0]?) fun c59 =>
              Option.bind (PV.asI .i64 c59) fun n60 =>
              if 0 ≤ y25 ∧ y25 < (4 : Int) then
                Option.bind (([[(PV.int .i64 20)], [(PV.int .i64 60)], [(PV.int .i64 9)], [(PV.int .i64 30)]] : List (List PV))[(Int.toNat y25)]?) fun e61 =>
                Option.bind (e61[0]?) fun c62 =>
                Option.bind (PV.asI .i64 c62) fun n63 =>
                if (es21.length + ([[(PV.int .i64 n63), (PV.int .i64 y26), (PV.int .i64 n60)]] : List (List PV)).length) * 24 ≤ maxBytes then
                  pInst_l4 n l19 (IntKind.i64.wrap (k20 + (1 : Int))) (es21 ++ [[(PV.int .i64 n63), (PV.int .i64 y26), (PV.int .i64 n60)]]) k0
                else none
              else none)
          else none)) (
        meet (
        if 0 ≤ y25 ∧ y25 < (4 : Int) then
          meet (
            meet (
              Option.bind (([[(PV.int .i64 20)], [(PV.int .i64 60)], [(PV.int .i64 9)], [(PV.int .i64 30)]] : List (List PV))[(Int.toNat y25)]?) fun e64 =>
              Option.bind (e64[0]?) fun c65 =>
              Option.bind (PV.asI .i64 c65) fun n66 =>
              if 0 ≤ y27 ∧ y27 < (4 : Int) then
                Option.bind (([[(PV.int .i64 1000)], [(PV.int .i64 200)], [(PV.int .i64 90)], [(PV.int .i64 60)]] : List (List PV))[(Int.toNat y27)]?) fun e67 =>
                Option.bind (e67[0]?) fun c68 =>
                Option.bind (PV.asI .i64 c68) fun n69 =>
                if (es21.length + ([[(PV.int .i64 n66), (PV.int .i64 y26), (PV.int .i64 n69)]] : List (List PV)).length) * 24 ≤ maxBytes then
                  pInst_l4 n l19 (IntKind.i64.wrap (k20 + (1 : Int))) (es21 ++ [[(PV.int .i64 n66), (PV.int .i64 y26), (PV.int .i64 n69)]]) k0
                else none
              else none) (
              if 0 ≤ y27 ∧ y27 < (4 : Int) then
                meet (
                  Option.bind (([[(PV.int .i64 20)], [(PV.int .i64 60)], [(PV.int .i64 9)], [(PV.int .i64 30)]] : List (List PV))[(Int.toNat y25)]?) fun e70 =>
                  Option.bind (e70[0]?) fun c71 =>
                  Option.bind (PV.asI .i64 c71) fun n72 =>
                  Option.bind (([[(PV.int .i64 1000)], [(PV.int .i64 200)], [(PV.int .i64 90)], [(PV.int .i64 60)]] : List (List PV))[(Int.toNat y27)]?) fun e73 =>
                  Option.bind (e73[0]?) fun c74 =>
                  Option.bind (PV.asI .i64 c74) fun n75 =>
                  if (es21.length + ([[(PV.int .i64 n72), (PV.int .i64 y26), (PV.int .i64 n75)]] : List (List PV)).length) * 24 ≤ maxBytes then
                    pInst_l4 n l19 (IntKind.i64.wrap (k20 + (1 : Int))) (es21 ++ [[(PV.int .i64 n72), (PV.int .i64 y26), (PV.int .i64 n75)]]) k0
                  else none) (
                  Option.bind (([[(PV.int .i64 1000)], [(PV.int .i64 200)], [(PV.int .i64 90)], [(PV.int .i64 60)]] : List (List PV))[(Int.toNat y27)]?) fun e76 =>
                  Option.bind (e76[0]?) fun c77 =>
                  Option.bind (PV.asI .i64 c77) fun n78 =>
                  Option.bind (([[(PV.int .i64 20)], [(PV.int .i64 60)], [(PV.int .i64 9)], [(PV.int .i64 30)]] : List (List PV))[(Int.toNat y25)]?) fun e79 =>
                  Option.bind (e79[0]?) fun c80 =>
                  Option.bind (PV.asI .i64 c80) fun n81 =>
                  if (es21.length + ([[(PV.int .i64 n81), (PV.int .i64 y26), (PV.int .i64 n78)]] : List (List PV)).length) * 24 ≤ maxBytes then
                    pInst_l4 n l19 (IntKind.i64.wrap (k20 + (1 : Int))) (es21 ++ [[(PV.int .i64 n81), (PV.int .i64 y26), (PV.int .i64 n78)]]) k0
                  else none)
              else none)) (
            meet (
            Option.bind (([[(PV.int .i64 20)], [(PV.int .i64 60)], [(PV.int .i64 9)], [(PV.int .i64 30)]] : List (List PV))[(Int.toNat y25)]?) fun e82 =>
            Option.bind (e82[0]?) fun c83 =>
            Option.bind (PV.asI .i64 c83) fun n84 =>
            meet (
              if 0 ≤ y27 ∧ y27 < (4 : Int) then
                Option.bind (([[(PV.int .i64 1000)], [(PV.int .i64 200)], [(PV.int .i64 90)], [(PV.int .i64 60)]] : List (List PV))[(Int.toNat y27)]?) fun e85 =>
                Option.bind (e85[0]?) fun c86 =>
                Option.bind (PV.asI .i64 c86) fun n87 =>
                if (es21.length + ([[(PV.int .i64 n84), (PV.int .i64 y26), (PV.int .i64 n87)]] : List (List PV)).length) * 24 ≤ maxBytes then
                  pInst_l4 n l19 (IntKind.i64.wrap (k20 + (1 : Int))) (es21 ++ [[(PV.int .i64 n84), (PV.int .i64 y26), (PV.int .i64 n87)]]) k0
                else none
              else none) (
              if 0 ≤ y27 ∧ y27 < (4 : Int) then
                meet (
                  Option.bind (([[(PV.int .i64 1000)], [(PV.int .i64 200)], [(PV.int .i64 90)], [(PV.int .i64 60)]] : List (List PV))[(Int.toNat y27)]?) fun e88 =>
                  Option.bind (e88[0]?) fun c89 =>
                  Option.bind (PV.asI .i64 c89) fun n90 =>
                  if (es21.length + ([[(PV.int .i64 n84), (PV.int .i64 y26), (PV.int .i64 n90)]] : List (List PV)).length) * 24 ≤ maxBytes then
                    pInst_l4 n l19 (IntKind.i64.wrap (k20 + (1 : Int))) (es21 ++ [[(PV.int .i64 n84), (PV.int .i64 y26), (PV.int .i64 n90)]]) k0
                  else none) (
                  Option.bind (([[(PV.int .i64 1000)], [(PV.int .i64 200)], [(PV.int .i64 90)], [(PV.int .i64 60)]] : List (List PV))[(Int.toNat y27)]?) fun e91 =>
                  Option.bind (e91[0]?) fun c92 =>
                  Option.bind (PV.asI .i64 c92) fun n93 =>
                  meet (
                    if (es21.length + ([[(PV.int .i64 n84), (PV.int .i64 y26), (PV.int .i64 n93)]] : List (List PV)).length) * 24 ≤ maxBytes then
                      pInst_l4 n l19 (IntKind.i64.wrap (k20 + (1 : Int))) (es21 ++ [[(PV.int .i64 n84), (PV.int .i64 y26), (PV.int .i64 n93)]]) k0
                    else none) (
                    meet (
                      if (es21.length + ([[(PV.int .i64 n84), (PV.int .i64 y26), (PV.int .i64 n93)]] : List (List PV)).length) * 24 ≤ maxBytes then
                        pInst_l4 n l19 (IntKind.i64.wrap (k20 + (1 : Int))) (es21 ++ [[(PV.int .i64 n84), (PV.int .i64 y26), (PV.int .i64 n93)]]) k0
                      else none) (
                      if (es21.length + ([[(PV.int .i64 n84), (PV.int .i64 y26), (PV.int .i64 n93)]] : List (List PV)).length) * 24 ≤ maxBytes then
                        pInst_l4 n l19 (IntKind.i64.wrap (k20 + (1 : Int))) (es21 ++ [[(PV.int .i64 n84), (PV.int .i64 y26), (PV.int .i64 n93)]]) k0
                      else none)))
              else none)) (
            if 0 ≤ y27 ∧ y27 < (4 : Int) then
              meet (
                meet (
                  Option.bind (([[(PV.int .i64 20)], [(PV.int .i64 60)], [(PV.int .i64 9)], [(PV.int .i64 30)]] : List (List PV))[(Int.toNat y25)]?) fun e94 =>
                  Option.bind (e94[0]?) fun c95 =>
                  Option.bind (PV.asI .i64 c95) fun n96 =>
                  Option.bind (([[(PV.int .i64 1000)], [(PV.int .i64 200)], [(PV.int .i64 90)], [(PV.int .i64 60)]] : List (List PV))[(Int.toNat y27)]?) fun e97 =>
                  Option.bind (e97[0]?) fun c98 =>
                  Option.bind (PV.asI .i64 c98) fun n99 =>
                  if (es21.length + ([[(PV.int .i64 n96), (PV.int .i64 y26), (PV.int .i64 n99)]] : List (List PV)).length) * 24 ≤ maxBytes then
                    pInst_l4 n l19 (IntKind.i64.wrap (k20 + (1 : Int))) (es21 ++ [[(PV.int .i64 n96), (PV.int .i64 y26), (PV.int .i64 n99)]]) k0
                  else none) (
                  Option.bind (([[(PV.int .i64 1000)], [(PV.int .i64 200)], [(PV.int .i64 90)], [(PV.int .i64 60)]] : List (List PV))[(Int.toNat y27)]?) fun e100 =>
                  Option.bind (e100[0]?) fun c101 =>
                  Option.bind (PV.asI .i64 c101) fun n102 =>
                  Option.bind (([[(PV.int .i64 20)], [(PV.int .i64 60)], [(PV.int .i64 9)], [(PV.int .i64 30)]] : List (List PV))[(Int.toNat y25)]?) fun e103 =>
                  Option.bind (e103[0]?) fun c104 =>
                  Option.bind (PV.asI .i64 c104) fun n105 =>
                  if (es21.length + ([[(PV.int .i64 n105), (PV.int .i64 y26), (PV.int .i64 n102)]] : List (List PV)).length) * 24 ≤ maxBytes then
                    pInst_l4 n l19 (IntKind.i64.wrap (k20 + (1 : Int))) (es21 ++ [[(PV.int .i64 n105), (PV.int .i64 y26), (PV.int .i64 n102)]]) k0
                  else none)) (
                meet (
                Option.bind (([[(PV.int .i64 20)], [(PV.int .i64 60)], [(PV.int .i64 9)], [(PV.int .i64 30)]] : List (List PV))[(Int.toNat y25)]?) fun e106 =>
                Option.bind (e106[0]?) fun c107 =>
                Option.bind (PV.asI .i64 c107) fun n108 =>
                meet (
                  Option.bind (([[(PV.int .i64 1000)], [(PV.int .i64 200)], [(PV.int .i64 90)], [(PV.int .i64 60)]] : List (List PV))[(Int.toNat y27)]?) fun e109 =>
                  Option.bind (e109[0]?) fun c110 =>
                  Option.bind (PV.asI .i64 c110) fun n111 =>
                  if (es21.length + ([[(PV.int .i64 n108), (PV.int .i64 y26), (PV.int .i64 n111)]] : List (List PV)).length) * 24 ≤ maxBytes then
                    pInst_l4 n l19 (IntKind.i64.wrap (k20 + (1 : Int))) (es21 ++ [[(PV.int .i64 n108), (PV.int .i64 y26), (PV.int .i64 n111)]]) k0
                  else none) (
                  Option.bind (([[(PV.int .i64 1000)], [(PV.int .i64 200)], [(PV.int .i64 90)], [(PV.int .i64 60)]] : List (List PV))[(Int.toNat y27)]?) fun e112 =>
                  Option.bind (e112[0]?) fun c113 =>
                  Option.bind (PV.asI .i64 c113) fun n114 =>
                  meet (
                    if (es21.length + ([[(PV.int .i64 n108), (PV.int .i64 y26), (PV.int .i64 n114)]] : List (List PV)).length) * 24 ≤ maxBytes then
                      pInst_l4 n l19 (IntKind.i64.wrap (k20 + (1 : Int))) (es21 ++ [[(PV.int .i64 n108), (PV.int .i64 y26), (PV.int .i64 n114)]]) k0
                    else none) (
                    meet (
                      if (es21.length + ([[(PV.int .i64 n108), (PV.int .i64 y26), (PV.int .i64 n114)]] : List (List PV)).length) * 24 ≤ maxBytes then
                        pInst_l4 n l19 (IntKind.i64.wrap (k20 + (1 : Int))) (es21 ++ [[(PV.int .i64 n108), (PV.int .i64 y26), (PV.int .i64 n114)]]) k0
                      else none) (
                      if (es21.length + ([[(PV.int .i64 n108), (PV.int .i64 y26), (PV.int .i64 n114)]] : List (List PV)).length) * 24 ≤ maxBytes then
                        pInst_l4 n l19 (IntKind.i64.wrap (k20 + (1 : Int))) (es21 ++ [[(PV.int .i64 n108), (PV.int .i64 y26), (PV.int .i64 n114)]]) k0
                      else none)))) (
                Option.bind (([[(PV.int .i64 1000)], [(PV.int .i64 200)], [(PV.int .i64 90)], [(PV.int .i64 60)]] : List (List PV))[(Int.toNat y27)]?) fun e115 =>
                Option.bind (e115[0]?) fun c116 =>
                Option.bind (PV.asI .i64 c116) fun n117 =>
                meet (
                  Option.bind (([[(PV.int .i64 20)], [(PV.int .i64 60)], [(PV.int .i64 9)], [(PV.int .i64 30)]] : List (List PV))[(Int.toNat y25)]?) fun e118 =>
                  Option.bind (e118[0]?) fun c119 =>
                  Option.bind (PV.asI .i64 c119) fun n120 =>
                  if (es21.length + ([[(PV.int .i64 n120), (PV.int .i64 y26), (PV.int .i64 n117)]] : List (List PV)).length) * 24 ≤ maxBytes then
                    pInst_l4 n l19 (IntKind.i64.wrap (k20 + (1 : Int))) (es21 ++ [[(PV.int .i64 n120), (PV.int .i64 y26), (PV.int .i64 n117)]]) k0
                  else none) (
                  Option.bind (([[(PV.int .i64 20)], [(PV.int .i64 60)], [(PV.int .i64 9)], [(PV.int .i64 30)]] : List (List PV))[(Int.toNat y25)]?) fun e121 =>
                  Option.bind (e121[0]?) fun c122 =>
                  Option.bind (PV.asI .i64 c122) fun n123 =>
                  meet (
                    if (es21.length + ([[(PV.int .i64 n123), (PV.int .i64 y26), (PV.int .i64 n117)]] : List (List PV)).length) * 24 ≤ maxBytes then
                      pInst_l4 n l19 (IntKind.i64.wrap (k20 + (1 : Int))) (es21 ++ [[(PV.int .i64 n123), (PV.int .i64 y26), (PV.int .i64 n117)]]) k0
                    else none) (
                    meet (
                      if (es21.length + ([[(PV.int .i64 n123), (PV.int .i64 y26), (PV.int .i64 n117)]] : List (List PV)).length) * 24 ≤ maxBytes then
                        pInst_l4 n l19 (IntKind.i64.wrap (k20 + (1 : Int))) (es21 ++ [[(PV.int .i64 n123), (PV.int .i64 y26), (PV.int .i64 n117)]]) k0
                      else none) (
                      if (es21.length + ([[(PV.int .i64 n123), (PV.int .i64 y26), (PV.int .i64 n117)]] : List (List PV)).length) * 24 ≤ maxBytes then
                        pInst_l4 n l19 (IntKind.i64.wrap (k20 + (1 : Int))) (es21 ++ [[(PV.int .i64 n123), (PV.int .i64 y26), (PV.int .i64 n117)]]) k0
                      else none)))))
            else none))
        else none) (
        if 0 ≤ y27 ∧ y27 < (4 : Int) then
          meet (
            meet (
              if 0 ≤ y25 ∧ y25 < (4 : Int) then
                meet (
                  Option.bind (([[(PV.int .i64 20)], [(PV.int .i64 60)], [(PV.int .i64 9)], [(PV.int .i64 30)]] : List (List PV))[(Int.toNat y25)]?) fun e124 =>
                  Option.bind (e124[0]?) fun c125 =>
                  Option.bind (PV.asI .i64 c125) fun n126 =>
                  Option.bind (([[(PV.int .i64 1000)], [(PV.int .i64 200)], [(PV.int .i64 90)], [(PV.int .i64 60)]] : List (List PV))[(Int.toNat y27)]?) fun e127 =>
                  Option.bind (e127[0]?) fun c128 =>
                  Option.bind (PV.asI .i64 c128) fun n129 =>
                  if (es21.length + ([[(PV.int .i64 n126), (PV.int .i64 y26), (PV.int .i64 n129)]] : List (List PV)).length) * 24 ≤ maxBytes then
                    pInst_l4 n l19 (IntKind.i64.wrap (k20 + (1 : Int))) (es21 ++ [[(PV.int .i64 n126), (PV.int .i64 y26), (PV.int .i64 n129)]]) k0
                  else none) (
                  Option.bind (([[(PV.int .i64 1000)], [(PV.int .i64 200)], [(PV.int .i64 90)], [(PV.int .i64 60)]] : List (List PV))[(Int.toNat y27)]?) fun e130 =>
                  Option.bind (e130[0]?) fun c131 =>
                  Option.bind (PV.asI .i64 c131) fun n132 =>
                  Option.bind (([[(PV.int .i64 20)], [(PV.int .i64 60)], [(PV.int .i64 9)], [(PV.int .i64 30)]] : List (List PV))[(Int.toNat y25)]?) fun e133 =>
                  Option.bind (e133[0]?) fun c134 =>
                  Option.bind (PV.asI .i64 c134) fun n135 =>
                  if (es21.length + ([[(PV.int .i64 n135), (PV.int .i64 y26), (PV.int .i64 n132)]] : List (List PV)).length) * 24 ≤ maxBytes then
                    pInst_l4 n l19 (IntKind.i64.wrap (k20 + (1 : Int))) (es21 ++ [[(PV.int .i64 n135), (PV.int .i64 y26), (PV.int .i64 n132)]]) k0
                  else none)
              else none) (
              Option.bind (([[(PV.int .i64 1000)], [(PV.int .i64 200)], [(PV.int .i64 90)], [(PV.int .i64 60)]] : List (List PV))[(Int.toNat y27)]?) fun e136 =>
              Option.bind (e136[0]?) fun c137 =>
              Option.bind (PV.asI .i64 c137) fun n138 =>
              if 0 ≤ y25 ∧ y25 < (4 : Int) then
                Option.bind (([[(PV.int .i64 20)], [(PV.int .i64 60)], [(PV.int .i64 9)], [(PV.int .i64 30)]] : List (List PV))[(Int.toNat y25)]?) fun e139 =>
                Option.bind (e139[0]?) fun c140 =>
                Option.bind (PV.asI .i64 c140) fun n141 =>
                if (es21.length + ([[(PV.int .i64 n141), (PV.int .i64 y26), (PV.int .i64 n138)]] : List (List PV)).length) * 24 ≤ maxBytes then
                  pInst_l4 n l19 (IntKind.i64.wrap (k20 + (1 : Int))) (es21 ++ [[(PV.int .i64 n141), (PV.int .i64 y26), (PV.int .i64 n138)]]) k0
                else none
              else none)) (
            meet (
            if 0 ≤ y25 ∧ y25 < (4 : Int) then
              meet (
                meet (
                  Option.bind (([[(PV.int .i64 20)], [(PV.int .i64 60)], [(PV.int .i64 9)], [(PV.int .i64 30)]] : List (List PV))[(Int.toNat y25)]?) fun e142 =>
                  Option.bind (e142[0]?) fun c143 =>
                  Option.bind (PV.asI .i64 c143) fun n144 =>
                  Option.bind (([[(PV.int .i64 1000)], [(PV.int .i64 200)], [(PV.int .i64 90)], [(PV.int .i64 60)]] : List (List PV))[(Int.toNat y27)]?) fun e145 =>
                  Option.bind (e145[0]?) fun c146 =>
                  Option.bind (PV.asI .i64 c146) fun n147 =>
                  if (es21.length + ([[(PV.int .i64 n144), (PV.int .i64 y26), (PV.int .i64 n147)]] : List (List PV)).length) * 24 ≤ maxBytes then
                    pInst_l4 n l19 (IntKind.i64.wrap (k20 + (1 : Int))) (es21 ++ [[(PV.int .i64 n144), (PV.int .i64 y26), (PV.int .i64 n147)]]) k0
                  else none) (
                  Option.bind (([[(PV.int .i64 1000)], [(PV.int .i64 200)], [(PV.int .i64 90)], [(PV.int .i64 60)]] : List (List PV))[(Int.toNat y27)]?) fun e148 =>
                  Option.bind (e148[0]?) fun c149 =>
                  Option.bind (PV.asI .i64 c149) fun n150 =>
                  Option.bind (([[(PV.int .i64 20)], [(PV.int .i64 60)], [(PV.int .i64 9)], [(PV.int .i64 30)]] : List (List PV))[(Int.toNat y25)]?) fun e151 =>
                  Option.bind (e151[0]?) fun c152 =>
                  Option.bind (PV.asI .i64 c152) fun n153 =>
                  if (es21.length + ([[(PV.int .i64 n153), (PV.int .i64 y26), (PV.int .i64 n150)]] : List (List PV)).length) * 24 ≤ maxBytes then
                    pInst_l4 n l19 (IntKind.i64.wrap (k20 + (1 : Int))) (es21 ++ [[(PV.int .i64 n153), (PV.int .i64 y26), (PV.int .i64 n150)]]) k0
                  else none)) (
                meet (
                Option.bind (([[(PV.int .i64 20)], [(PV.int .i64 60)], [(PV.int .i64 9)], [(PV.int .i64 30)]] : List (List PV))[(Int.toNat y25)]?) fun e154 =>
                Option.bind (e154[0]?) fun c155 =>
                Option.bind (PV.asI .i64 c155) fun n156 =>
                meet (
                  Option.bind (([[(PV.int .i64 1000)], [(PV.int .i64 200)], [(PV.int .i64 90)], [(PV.int .i64 60)]] : List (List PV))[(Int.toNat y27)]?) fun e157 =>
                  Option.bind (e157[0]?) fun c158 =>
                  Option.bind (PV.asI .i64 c158) fun n159 =>
                  if (es21.length + ([[(PV.int .i64 n156), (PV.int .i64 y26), (PV.int .i64 n159)]] : List (List PV)).length) * 24 ≤ maxBytes then
                    pInst_l4 n l19 (IntKind.i64.wrap (k20 + (1 : Int))) (es21 ++ [[(PV.int .i64 n156), (PV.int .i64 y26), (PV.int .i64 n159)]]) k0
                  else none) (
                  Option.bind (([[(PV.int .i64 1000)], [(PV.int .i64 200)], [(PV.int .i64 90)], [(PV.int .i64 60)]] : List (List PV))[(Int.toNat y27)]?) fun e160 =>
                  Option.bind (e160[0]?) fun c161 =>
                  Option.bind (PV.asI .i64 c161) fun n162 =>
                  meet (
                    if (es21.length + ([[(PV.int .i64 n156), (PV.int .i64 y26), (PV.int .i64 n162)]] : List (List PV)).length) * 24 ≤ maxBytes then
                      pInst_l4 n l19 (IntKind.i64.wrap (k20 + (1 : Int))) (es21 ++ [[(PV.int .i64 n156), (PV.int .i64 y26), (PV.int .i64 n162)]]) k0
                    else none) (
                    meet (
                      if (es21.length + ([[(PV.int .i64 n156), (PV.int .i64 y26), (PV.int .i64 n162)]] : List (List PV)).length) * 24 ≤ maxBytes then
                        pInst_l4 n l19 (IntKind.i64.wrap (k20 + (1 : Int))) (es21 ++ [[(PV.int .i64 n156), (PV.int .i64 y26), (PV.int .i64 n162)]]) k0
                      else none) (
                      if (es21.length + ([[(PV.int .i64 n156), (PV.int .i64 y26), (PV.int .i64 n162)]] : List (List PV)).length) * 24 ≤ maxBytes then
                        pInst_l4 n l19 (IntKind.i64.wrap (k20 + (1 : Int))) (es21 ++ [[(PV.int .i64 n156), (PV.int .i64 y26), (PV.int .i64 n162)]]) k0
                      else none)))) (
                Option.bind (([[(PV.int .i64 1000)], [(PV.int .i64 200)], [(PV.int .i64 90)], [(PV.int .i64 60)]] : List (List PV))[(Int.toNat y27)]?) fun e163 =>
                Option.bind (e163[0]?) fun c164 =>
                Option.bind (PV.asI .i64 c164) fun n165 =>
                meet (
                  Option.bind (([[(PV.int .i64 20)], [(PV.int .i64 60)], [(PV.int .i64 9)], [(PV.int .i64 30)]] : List (List PV))[(Int.toNat y25)]?) fun e166 =>
                  Option.bind (e166[0]?) fun c167 =>
                  Option.bind (PV.asI .i64 c167) fun n168 =>
                  if (es21.length + ([[(PV.int .i64 n168), (PV.int .i64 y26), (PV.int .i64 n165)]] : List (List PV)).length) * 24 ≤ maxBytes then
                    pInst_l4 n l19 (IntKind.i64.wrap (k20 + (1 : Int))) (es21 ++ [[(PV.int .i64 n168), (PV.int .i64 y26), (PV.int .i64 n165)]]) k0
                  else none) (
                  Option.bind (([[(PV.int .i64 20)], [(PV.int .i64 60)], [(PV.int .i64 9)], [(PV.int .i64 30)]] : List (List PV))[(Int.toNat y25)]?) fun e169 =>
                  Option.bind (e169[0]?) fun c170 =>
                  Option.bind (PV.asI .i64 c170) fun n171 =>
                  meet (
                    if (es21.length + ([[(PV.int .i64 n171), (PV.int .i64 y26), (PV.int .i64 n165)]] : List (List PV)).length) * 24 ≤ maxBytes then
                      pInst_l4 n l19 (IntKind.i64.wrap (k20 + (1 : Int))) (es21 ++ [[(PV.int .i64 n171), (PV.int .i64 y26), (PV.int .i64 n165)]]) k0
                    else none) (
                    meet (
                      if (es21.length + ([[(PV.int .i64 n171), (PV.int .i64 y26), (PV.int .i64 n165)]] : List (List PV)).length) * 24 ≤ maxBytes then
                        pInst_l4 n l19 (IntKind.i64.wrap (k20 + (1 : Int))) (es21 ++ [[(PV.int .i64 n171), (PV.int .i64 y26), (PV.int .i64 n165)]]) k0
                      else none) (
                      if (es21.length + ([[(PV.int .i64 n171), (PV.int .i64 y26), (PV.int .i64 n165)]] : List (List PV)).length) * 24 ≤ maxBytes then
                        pInst_l4 n l19 (IntKind.i64.wrap (k20 + (1 : Int))) (es21 ++ [[(PV.int .i64 n171), (PV.int .i64 y26), (PV.int .i64 n165)]]) k0
                      else none)))))
            else none) (
            Option.bind (([[(PV.int .i64 1000)], [(PV.int .i64 200)], [(PV.int .i64 90)], [(PV.int .i64 60)]] : List (List PV))[(Int.toNat y27)]?) fun e172 =>
            Option.bind (e172[0]?) fun c173 =>
            Option.bind (PV.asI .i64 c173) fun n174 =>
            meet (
              if 0 ≤ y25 ∧ y25 < (4 : Int) then
                Option.bind (([[(PV.int .i64 20)], [(PV.int .i64 60)], [(PV.int .i64 9)], [(PV.int .i64 30)]] : List (List PV))[(Int.toNat y25)]?) fun e175 =>
                Option.bind (e175[0]?) fun c176 =>
                Option.bind (PV.asI .i64 c176) fun n177 =>
                if (es21.length + ([[(PV.int .i64 n177), (PV.int .i64 y26), (PV.int .i64 n174)]] : List (List PV)).length) * 24 ≤ maxBytes then
                  pInst_l4 n l19 (IntKind.i64.wrap (k20 + (1 : Int))) (es21 ++ [[(PV.int .i64 n177), (PV.int .i64 y26), (PV.int .i64 n174)]]) k0
                else none
              else none) (
              if 0 ≤ y25 ∧ y25 < (4 : Int) then
                meet (
                  Option.bind (([[(PV.int .i64 20)], [(PV.int .i64 60)], [(PV.int .i64 9)], [(PV.int .i64 30)]] : List (List PV))[(Int.toNat y25)]?) fun e178 =>
                  Option.bind (e178[0]?) fun c179 =>
                  Option.bind (PV.asI .i64 c179) fun n180 =>
                  if (es21.length + ([[(PV.int .i64 n180), (PV.int .i64 y26), (PV.int .i64 n174)]] : List (List PV)).length) * 24 ≤ maxBytes then
                    pInst_l4 n l19 (IntKind.i64.wrap (k20 + (1 : Int))) (es21 ++ [[(PV.int .i64 n180), (PV.int .i64 y26), (PV.int .i64 n174)]]) k0
                  else none) (
                  Option.bind (([[(PV.int .i64 20)], [(PV.int .i64 60)], [(PV.int .i64 9)], [(PV.int .i64 30)]] : List (List PV))[(Int.toNat y25)]?) fun e181 =>
                  Option.bind (e181[0]?) fun c182 =>
                  Option.bind (PV.asI .i64 c182) fun n183 =>
                  meet (
                    if (es21.length + ([[(PV.int .i64 n183), (PV.int .i64 y26), (PV.int .i64 n174)]] : List (List PV)).length) * 24 ≤ maxBytes then
                      pInst_l4 n l19 (IntKind.i64.wrap (k20 + (1 : Int))) (es21 ++ [[(PV.int .i64 n183), (PV.int .i64 y26), (PV.int .i64 n174)]]) k0
                    else none) (
                    meet (
                      if (es21.length + ([[(PV.int .i64 n183), (PV.int .i64 y26), (PV.int .i64 n174)]] : List (List PV)).length) * 24 ≤ maxBytes then
                        pInst_l4 n l19 (IntKind.i64.wrap (k20 + (1 : Int))) (es21 ++ [[(PV.int .i64 n183), (PV.int .i64 y26), (PV.int .i64 n174)]]) k0
                      else none) (
                      if (es21.length + ([[(PV.int .i64 n183), (PV.int .i64 y26), (PV.int .i64 n174)]] : List (List PV)).length) * 24 ≤ maxBytes then
                        pInst_l4 n l19 (IntKind.i64.wrap (k20 + (1 : Int))) (es21 ++ [[(PV.int .i64 n183), (PV.int .i64 y26), (PV.int .i64 n174)]]) k0
                      else none)))
              else none)))
        else none))) (
      k0 l19 es21)
def pInst_b {R : Type} (n : Nat) (l1 : List (List PV)) (k : List (List PV) → List (List PV) → List (List PV) → List (List PV) → Option R) : Option R :=
  pInst_l4 n l1 0 []
    (fun (l2 : List (List PV)) (es3 : List (List PV)) =>
      Option.bind (pNum_d l2 4) fun y4 =>
      Option.bind (within_d y4 7) fun y5 =>
      pInst_l10 n l2 (IntKind.i64.wrap ((2 : Int) + y5)) 0 es3 []
        (fun (l6 : List (List PV)) (size7 : Int) (es8 : List (List PV)) (es9 : List (List PV)) =>
          pInst_l19 n l6 size7 0 es8 es9 []
            (fun (l10 : List (List PV)) (size11 : Int) (es12 : List (List PV)) (es13 : List (List PV)) (es14 : List (List PV)) =>
              pInst_l28 n l10 size11 0 es12 es13 es14 [] k)))
def pInst_E (y : (List (List PV)) × (List (List PV)) × (List (List PV)) × (List (List PV))) : PV × List PV := ((PV.agg [(PV.fs y.1), (PV.fs y.2.1), (PV.fs y.2.2.1), (PV.fs y.2.2.2)]), [])
def pInst_D : List PV → Option ((List (List PV)) × (List (List PV)) × (List (List PV)) × (List (List PV)))
  | [(PV.fs l1)] => sPInst l1
  | _ => none
def pInst_Γ : List (Nat × Cal) := [(13, .ctr pNum_C), (12, .ctr within_C)]
def pInst_C : Ctr := ⟨[none], (List (List PV)) × (List (List PV)) × (List (List PV)) × (List (List PV)), pInst_D, pInst_E, false, .d⟩
def pInst_cfg : List (Nat × LC) := [(4, ⟨[0, 2, 3, 4, 5], [], [], [(4, 0)]⟩),
  (1004000, ⟨[0, 2, 3, 4], [], [], []⟩),
  (10, ⟨[0, 2, 3, 4, 7, 8], [], [], [(4, 1)]⟩),
  (4000016, ⟨[0, 2, 3, 4, 7, 8, 9, 10], [], [], []⟩),
  (1010002, ⟨[0, 2, 3, 4, 7], [], [], []⟩),
  (5000016, ⟨[0, 2, 3, 4, 7, 8], [], [], []⟩),
  (19, ⟨[0, 2, 3, 4, 7, 11], [], [], [(4, 2)]⟩),
  (4000027, ⟨[0, 2, 3, 4, 7, 11, 12, 13], [], [], []⟩),
  (4000025, ⟨[0, 2, 3, 4, 7, 11, 12, 13], [], [], []⟩),
  (1019004, ⟨[0, 2, 3, 4, 7], [], [], []⟩),
  (5000027, ⟨[0, 2, 3, 4, 7, 11], [], [], []⟩),
  (28, ⟨[0, 2, 3, 4, 7, 15], [], [], [(4, 3)]⟩),
  (32, ⟨[0, 2, 3, 4, 7, 15, 16, 17], [16], [], []⟩),
  (1028006, ⟨[2, 4], [], [], []⟩),
  (1032008, ⟨[0, 2, 3, 4, 7, 15, 16], [], [], []⟩),
  (5000025, ⟨[0, 2, 3, 4, 7, 11], [], [], []⟩)]
def pInst_pat : Nat → Option SP
  | 32 => some ⟨sparse .undef [(0, (.val .fs)), (2, (.ref 0 0)), (3, (.val (.fn 12 []))), (4, (.ref 1 0)), (7, (.val (.int .i64))), (15, (.val (.int .i64))), (16, (.ow 6)), (17, (.val (.int .i64)))] 0 203, [(.box [(.nil 3), (.nil 4), (.nil 2), (.nil 1)]), (.box [(.ow 2), (.ow 3), (.ow 4), (.ow 5)]), (.row 3), (.row 4), (.row 2), (.row 1), (.row 1)], []⟩
  | 28 => some ⟨sparse .undef [(0, (.val .fs)), (2, (.ref 0 0)), (3, (.val (.fn 12 []))), (4, (.ref 1 0)), (7, (.val (.int .i64))), (15, (.val (.int .i64)))] 0 203, [(.box [(.nil 3), (.nil 4), (.nil 2), (.nil 1)]), (.box [(.ow 2), (.ow 3), (.ow 4), (.ow 5)]), (.row 3), (.row 4), (.row 2), (.row 1)], []⟩
  | 19 => some ⟨sparse .undef [(0, (.val .fs)), (2, (.ref 0 0)), (3, (.val (.fn 12 []))), (4, (.ref 1 0)), (7, (.val (.int .i64))), (11, (.val (.int .i64)))] 0 203, [(.box [(.nil 3), (.nil 4), (.nil 2), (.nil 1)]), (.box [(.ow 2), (.ow 3), (.ow 4), (.nil 1)]), (.row 3), (.row 4), (.row 2)], []⟩
  | 10 => some ⟨sparse .undef [(0, (.val .fs)), (2, (.ref 0 0)), (3, (.val (.fn 12 []))), (4, (.ref 1 0)), (7, (.val (.int .i64))), (8, (.val (.int .i64)))] 0 203, [(.box [(.nil 3), (.nil 4), (.nil 2), (.nil 1)]), (.box [(.ow 2), (.ow 3), (.nil 2), (.nil 1)]), (.row 3), (.row 4)], []⟩
  | 4 => some ⟨sparse .undef [(0, (.val .fs)), (2, (.ref 0 0)), (3, (.val (.fn 12 []))), (4, (.ref 1 0)), (5, (.val (.int .i64)))] 0 203, [(.box [(.nil 3), (.nil 4), (.nil 2), (.nil 1)]), (.box [(.ow 2), (.nil 4), (.nil 2), (.nil 1)]), (.row 3)], []⟩
  | _ => none
def pInst_patj : Nat → Option SP
  | 27 => some ⟨sparse .undef [(0, (.val .fs)), (2, (.ref 0 0)), (3, (.val (.fn 12 []))), (4, (.ref 1 0)), (7, (.val (.int .i64))), (11, (.val (.int .i64))), (12, (.val (.int .i64))), (13, (.val (.int .i64)))] 0 203, [(.box [(.nil 3), (.nil 4), (.nil 2), (.nil 1)]), (.box [(.ow 2), (.ow 3), (.ow 4), (.nil 1)]), (.row 3), (.row 4), (.row 2)], []⟩
  | 16 => some ⟨sparse .undef [(0, (.val .fs)), (2, (.ref 0 0)), (3, (.val (.fn 12 []))), (4, (.ref 1 0)), (7, (.val (.int .i64))), (8, (.val (.int .i64))), (9, (.val (.int .i64))), (10, (.ref 4 0))] 0 203, [(.box [(.nil 3), (.nil 4), (.nil 2), (.nil 1)]), (.box [(.ow 2), (.ow 3), (.nil 2), (.nil 1)]), (.row 3), (.row 4), (.pbox (.agg [(.int .i64), (.int .i64), (.int .i64), (.int .i64)]) 4)], []⟩
  | 25 => some ⟨sparse .undef [(0, (.val .fs)), (2, (.ref 0 0)), (3, (.val (.fn 12 []))), (4, (.ref 1 0)), (7, (.val (.int .i64))), (11, (.val (.int .i64))), (12, (.val (.int .i64))), (13, (.val (.int .i64)))] 0 203, [(.box [(.nil 3), (.nil 4), (.nil 2), (.nil 1)]), (.box [(.ow 2), (.ow 3), (.ow 4), (.nil 1)]), (.row 3), (.row 4), (.row 2)], []⟩
  | _ => none
def pInst_L32 (n : Nat) (ls : List Leaf) (R : Type) (k : Ex → St → Option R) : Option R :=
  match ls with
  | [.rows l255, .int size256, .int a257, .int b258, .rows es259, .rows es260, .rows es261, .rows es262, .rows es263] => pInst_l32 n l255 size256 a257 b258 es259 es260 es261 es262 es263 (fun y1326 y1327 y1328 y1329 y1330 y1331 y1332 y1333 => k (.exit 8) ⟨sparse .undef [(0, (TV.val (PV.fs y1326))), (2, (TV.ref 0 0)), (3, (TV.val (PV.fn (Fn.func 12) []))), (4, (TV.ref 1 0)), (7, (TV.val (PV.int .i64 y1327))), (15, (TV.val (PV.int .i64 y1328))), (16, (TV.ow 6))] 0 203, [(Ob.box [(TV.nil 3), (TV.nil 4), (TV.nil 2), (TV.nil 1)]), (Ob.box [(TV.ow 2), (TV.ow 3), (TV.ow 4), (TV.ow 5)]), (Ob.row y1329 3), (Ob.row y1330 4), (Ob.row y1331 2), (Ob.row y1332 1), (Ob.row y1333 1)], []⟩)
  | _ => none
def pInst_J27 (n : Nat) (ls : List Leaf) (R : Type) (k : Ex → St → Option R) : Option R :=
  match ls with
  | [.rows l318, .int size319, .int k320, .int a321, .int b322, .rows es323, .rows es324, .rows es325] => pInst_q27 n l318 size319 k320 a321 b322 es323 es324 es325 (fun y2334 y2335 y2336 y2337 y2338 y2339 => k .normal ⟨sparse .undef [(0, (TV.val (PV.fs y2334))), (2, (TV.ref 0 0)), (3, (TV.val (PV.fn (Fn.func 12) []))), (4, (TV.ref 1 0)), (7, (TV.val (PV.int .i64 y2335))), (11, (TV.val (PV.int .i64 y2336)))] 0 203, [(Ob.box [(TV.nil 3), (TV.nil 4), (TV.nil 2), (TV.nil 1)]), (Ob.box [(TV.ow 2), (TV.ow 3), (TV.ow 4), (TV.nil 1)]), (Ob.row y2337 3), (Ob.row y2338 4), (Ob.row y2339 2)], []⟩)
  | _ => none
def pInst_J16 (n : Nat) (ls : List Leaf) (R : Type) (k : Ex → St → Option R) : Option R :=
  match ls with
  | [.rows l266, .int size267, .int k268, .int n269, .rows es270, .rows es271, .int i272, .int i273, .int i274, .int i275] => pInst_q16 n l266 size267 k268 n269 es270 es271 i272 i273 i274 i275 (fun y3340 y3341 y3342 y3343 y3344 => k .normal ⟨sparse .undef [(0, (TV.val (PV.fs y3340))), (2, (TV.ref 0 0)), (3, (TV.val (PV.fn (Fn.func 12) []))), (4, (TV.ref 1 0)), (7, (TV.val (PV.int .i64 y3341))), (8, (TV.val (PV.int .i64 y3342)))] 0 203, [(Ob.box [(TV.nil 3), (TV.nil 4), (TV.nil 2), (TV.nil 1)]), (Ob.box [(TV.ow 2), (TV.ow 3), (TV.nil 2), (TV.nil 1)]), (Ob.row y3343 3), (Ob.row y3344 4)], []⟩)
  | _ => none
def pInst_J25 (n : Nat) (ls : List Leaf) (R : Type) (k : Ex → St → Option R) : Option R :=
  match ls with
  | [.rows l278, .int size279, .int k280, .int a281, .int b282, .rows es283, .rows es284, .rows es285] => pInst_q25 n l278 size279 k280 a281 b282 es283 es284 es285 (fun y4345 y4346 y4347 y4348 y4349 y4350 => k .normal ⟨sparse .undef [(0, (TV.val (PV.fs y4345))), (2, (TV.ref 0 0)), (3, (TV.val (PV.fn (Fn.func 12) []))), (4, (TV.ref 1 0)), (7, (TV.val (PV.int .i64 y4346))), (11, (TV.val (PV.int .i64 y4347)))] 0 203, [(Ob.box [(TV.nil 3), (TV.nil 4), (TV.nil 2), (TV.nil 1)]), (Ob.box [(TV.ow 2), (TV.ow 3), (TV.ow 4), (TV.nil 1)]), (Ob.row y4348 3), (Ob.row y4349 4), (Ob.row y4350 2)], []⟩)
  | _ => none
def pInst_L28 (n : Nat) (ls : List Leaf) (R : Type) (k : Ex → St → Option R) : Option R :=
  match ls with
  | [.rows l240, .int size241, .int a242, .rows es243, .rows es244, .rows es245, .rows es246] => pInst_l28 n l240 size241 a242 es243 es244 es245 es246 (fun y5351 y5352 y5353 y5354 => k (.exit 6) ⟨sparse .undef [(2, (TV.ref 0 0)), (4, (TV.ref 1 0))] 0 203, [(Ob.box [(TV.nil 3), (TV.nil 4), (TV.nil 2), (TV.nil 1)]), (Ob.box [(TV.ow 2), (TV.ow 3), (TV.ow 4), (TV.ow 5)]), (Ob.row y5351 3), (Ob.row y5352 4), (Ob.row y5353 2), (Ob.row y5354 1)], []⟩)
  | _ => none
def pInst_L19 (n : Nat) (ls : List Leaf) (R : Type) (k : Ex → St → Option R) : Option R :=
  match ls with
  | [.rows l218, .int size219, .int k220, .rows es221, .rows es222, .rows es223] => pInst_l19 n l218 size219 k220 es221 es222 es223 (fun y6355 y6356 y6357 y6358 y6359 => k (.exit 4) ⟨sparse .undef [(0, (TV.val (PV.fs y6355))), (2, (TV.ref 0 0)), (3, (TV.val (PV.fn (Fn.func 12) []))), (4, (TV.ref 1 0)), (7, (TV.val (PV.int .i64 y6356)))] 0 203, [(Ob.box [(TV.nil 3), (TV.nil 4), (TV.nil 2), (TV.nil 1)]), (Ob.box [(TV.ow 2), (TV.ow 3), (TV.ow 4), (TV.nil 1)]), (Ob.row y6357 3), (Ob.row y6358 4), (Ob.row y6359 2)], []⟩)
  | _ => none
def pInst_L10 (n : Nat) (ls : List Leaf) (R : Type) (k : Ex → St → Option R) : Option R :=
  match ls with
  | [.rows l184, .int size185, .int k186, .rows es187, .rows es188] => pInst_l10 n l184 size185 k186 es187 es188 (fun y7360 y7361 y7362 y7363 => k (.exit 2) ⟨sparse .undef [(0, (TV.val (PV.fs y7360))), (2, (TV.ref 0 0)), (3, (TV.val (PV.fn (Fn.func 12) []))), (4, (TV.ref 1 0)), (7, (TV.val (PV.int .i64 y7361)))] 0 203, [(Ob.box [(TV.nil 3), (TV.nil 4), (TV.nil 2), (TV.nil 1)]), (Ob.box [(TV.ow 2), (TV.ow 3), (TV.nil 2), (TV.nil 1)]), (Ob.row y7362 3), (Ob.row y7363 4)], []⟩)
  | _ => none
def pInst_L4 (n : Nat) (ls : List Leaf) (R : Type) (k : Ex → St → Option R) : Option R :=
  match ls with
  | [.rows l19, .int k20, .rows es21] => pInst_l4 n l19 k20 es21 (fun y8364 y8365 => k (.exit 0) ⟨sparse .undef [(0, (TV.val (PV.fs y8364))), (2, (TV.ref 0 0)), (3, (TV.val (PV.fn (Fn.func 12) []))), (4, (TV.ref 1 0))] 0 203, [(Ob.box [(TV.nil 3), (TV.nil 4), (TV.nil 2), (TV.nil 1)]), (Ob.box [(TV.ow 2), (TV.nil 4), (TV.nil 2), (TV.nil 1)]), (Ob.row y8365 3)], []⟩)
  | _ => none
def pInst_L (n key : Nat) (ls : List Leaf) (R : Type) (k : Ex → St → Option R) : Option R :=
  match key with
  | 32 => pInst_L32 n ls R k
  | 28 => pInst_L28 n ls R k
  | 19 => pInst_L19 n ls R k
  | 10 => pInst_L10 n ls R k
  | 4 => pInst_L4 n ls R k
  | _ => none
def pInst_J (n key : Nat) (ls : List Leaf) (R : Type) (k : Ex → St → Option R) : Option R :=
  match key with
  | 27 => pInst_J27 n ls R k
  | 16 => pInst_J16 n ls R k
  | 25 => pInst_J25 n ls R k
  | _ => none
def pInst_on : Code → Bool := onKeys [16, 25, 27]
def pInst_Λ : Nat → Loops := patL (normBy pInst_cfg) pInst_pat pInst_L (normJ pInst_cfg) pInst_on pInst_patj pInst_J
theorem pInst_step4 (n : Nat) (l19 : List (List PV)) (k20 : Int) (es21 : List (List PV))  (R : Type) (k : Ex → St → Option R) :
    roundK T G0 (ctrOf pInst_Γ) (normBy pInst_cfg) (pInst_Λ n) (codeAt [1, 1, 1, 0, 1, 0, 0] (bodyOf Tryz.f4)) (buildSt ⟨sparse .undef [(0, (.val .fs)), (2, (.ref 0 0)), (3, (.val (.fn 12 []))), (4, (.ref 1 0)), (5, (.val (.int .i64)))] 0 203, [(.box [(.nil 3), (.nil 4), (.nil 2), (.nil 1)]), (.box [(.ow 2), (.nil 4), (.nil 2), (.nil 1)]), (.row 3)], []⟩ [.rows l19, .int k20, .rows es21]) R k = pInst_L4 (n + 1) [.rows l19, .int k20, .rows es21] R k := by kernel_rfl
theorem pInst_step10 (n : Nat) (l184 : List (List PV)) (size185 : Int) (k186 : Int) (es187 : List (List PV)) (es188 : List (List PV))  (R : Type) (k : Ex → St → Option R) :
    roundK T G0 (ctrOf pInst_Γ) (normBy pInst_cfg) (pInst_Λ n) (codeAt [1, 1, 1, 1, 1, 0, 1, 0, 0] (bodyOf Tryz.f4)) (buildSt ⟨sparse .undef [(0, (.val .fs)), (2, (.ref 0 0)), (3, (.val (.fn 12 []))), (4, (.ref 1 0)), (7, (.val (.int .i64))), (8, (.val (.int .i64)))] 0 203, [(.box [(.nil 3), (.nil 4), (.nil 2), (.nil 1)]), (.box [(.ow 2), (.ow 3), (.nil 2), (.nil 1)]), (.row 3), (.row 4)], []⟩ [.rows l184, .int size185, .int k186, .rows es187, .rows es188]) R k = pInst_L10 (n + 1) [.rows l184, .int size185, .int k186, .rows es187, .rows es188] R k := by kernel_rfl
theorem pInst_step19 (n : Nat) (l218 : List (List PV)) (size219 : Int) (k220 : Int) (es221 : List (List PV)) (es222 : List (List PV)) (es223 : List (List PV))  (R : Type) (k : Ex → St → Option R) :
    roundK T G0 (ctrOf pInst_Γ) (normBy pInst_cfg) (pInst_Λ n) (codeAt [1, 1, 1, 1, 1, 1, 0, 1, 0, 0] (bodyOf Tryz.f4)) (buildSt ⟨sparse .undef [(0, (.val .fs)), (2, (.ref 0 0)), (3, (.val (.fn 12 []))), (4, (.ref 1 0)), (7, (.val (.int .i64))), (11, (.val (.int .i64)))] 0 203, [(.box [(.nil 3), (.nil 4), (.nil 2), (.nil 1)]), (.box [(.ow 2), (.ow 3), (.ow 4), (.nil 1)]), (.row 3), (.row 4), (.row 2)], []⟩ [.rows l218, .int size219, .int k220, .rows es221, .rows es222, .rows es223]) R k = pInst_L19 (n + 1) [.rows l218, .int size219, .int k220, .rows es221, .rows es222, .rows es223] R k := by kernel_rfl
theorem pInst_step28 (n : Nat) (l240 : List (List PV)) (size241 : Int) (a242 : Int) (es243 : List (List PV)) (es244 : List (List PV)) (es245 : List (List PV)) (es246 : List (List PV))  (R : Type) (k : Ex → St → Option R) :
    roundK T G0 (ctrOf pInst_Γ) (normBy pInst_cfg) (pInst_Λ n) (codeAt [1, 1, 1, 1, 1, 1, 1, 0, 1, 0, 0] (bodyOf Tryz.f4)) (buildSt ⟨sparse .undef [(0, (.val .fs)), (2, (.ref 0 0)), (3, (.val (.fn 12 []))), (4, (.ref 1 0)), (7, (.val (.int .i64))), (15, (.val (.int .i64)))] 0 203, [(.box [(.nil 3), (.nil 4), (.nil 2), (.nil 1)]), (.box [(.ow 2), (.ow 3), (.ow 4), (.ow 5)]), (.row 3), (.row 4), (.row 2), (.row 1)], []⟩ [.rows l240, .int size241, .int a242, .rows es243, .rows es244, .rows es245, .rows es246]) R k = pInst_L28 (n + 1) [.rows l240, .int size241, .int a242, .rows es243, .rows es244, .rows es245, .rows es246] R k := by kernel_rfl
theorem pInst_step32 (n : Nat) (l255 : List (List PV)) (size256 : Int) (a257 : Int) (b258 : Int) (es259 : List (List PV)) (es260 : List (List PV)) (es261 : List (List PV)) (es262 : List (List PV)) (es263 : List (List PV))  (R : Type) (k : Ex → St → Option R) :
    roundK T G0 (ctrOf pInst_Γ) (normBy pInst_cfg) (pInst_Λ n) (codeAt [1, 1, 1, 1, 1, 1, 1, 0, 1, 0, 0, 1, 0, 0, 1, 0, 1, 0, 0] (bodyOf Tryz.f4)) (buildSt ⟨sparse .undef [(0, (.val .fs)), (2, (.ref 0 0)), (3, (.val (.fn 12 []))), (4, (.ref 1 0)), (7, (.val (.int .i64))), (15, (.val (.int .i64))), (16, (.ow 6)), (17, (.val (.int .i64)))] 0 203, [(.box [(.nil 3), (.nil 4), (.nil 2), (.nil 1)]), (.box [(.ow 2), (.ow 3), (.ow 4), (.ow 5)]), (.row 3), (.row 4), (.row 2), (.row 1), (.row 1)], []⟩ [.rows l255, .int size256, .int a257, .int b258, .rows es259, .rows es260, .rows es261, .rows es262, .rows es263]) R k = pInst_L32 (n + 1) [.rows l255, .int size256, .int a257, .int b258, .rows es259, .rows es260, .rows es261, .rows es262, .rows es263] R k := by kernel_rfl
theorem pInst_stepq16 (n : Nat) (l266 : List (List PV)) (size267 : Int) (k268 : Int) (n269 : Int) (es270 : List (List PV)) (es271 : List (List PV)) (i272 : Int) (i273 : Int) (i274 : Int) (i275 : Int)  (R : Type) (k : Ex → St → Option R) :
    joinK T G0 (ctrOf pInst_Γ) (normJ pInst_cfg) (pInst_Λ n) (codeAt [1, 1, 1, 1, 1, 0, 1, 0, 0, 1, 0, 0, 1, 1, 1] (bodyOf Tryz.f4)) (buildSt ⟨sparse .undef [(0, (.val .fs)), (2, (.ref 0 0)), (3, (.val (.fn 12 []))), (4, (.ref 1 0)), (7, (.val (.int .i64))), (8, (.val (.int .i64))), (9, (.val (.int .i64))), (10, (.ref 4 0))] 0 203, [(.box [(.nil 3), (.nil 4), (.nil 2), (.nil 1)]), (.box [(.ow 2), (.ow 3), (.nil 2), (.nil 1)]), (.row 3), (.row 4), (.pbox (.agg [(.int .i64), (.int .i64), (.int .i64), (.int .i64)]) 4)], []⟩ [.rows l266, .int size267, .int k268, .int n269, .rows es270, .rows es271, .int i272, .int i273, .int i274, .int i275]) R k = pInst_J16 n [.rows l266, .int size267, .int k268, .int n269, .rows es270, .rows es271, .int i272, .int i273, .int i274, .int i275] R k := by kernel_rfl
theorem pInst_stepq25 (n : Nat) (l278 : List (List PV)) (size279 : Int) (k280 : Int) (a281 : Int) (b282 : Int) (es283 : List (List PV)) (es284 : List (List PV)) (es285 : List (List PV))  (R : Type) (k : Ex → St → Option R) :
    joinK T G0 (ctrOf pInst_Γ) (normJ pInst_cfg) (pInst_Λ n) (codeAt [1, 1, 1, 1, 1, 1, 0, 1, 0, 0, 1, 0, 0, 1, 1] (bodyOf Tryz.f4)) (buildSt ⟨sparse .undef [(0, (.val .fs)), (2, (.ref 0 0)), (3, (.val (.fn 12 []))), (4, (.ref 1 0)), (7, (.val (.int .i64))), (11, (.val (.int .i64))), (12, (.val (.int .i64))), (13, (.val (.int .i64)))] 0 203, [(.box [(.nil 3), (.nil 4), (.nil 2), (.nil 1)]), (.box [(.ow 2), (.ow 3), (.ow 4), (.nil 1)]), (.row 3), (.row 4), (.row 2)], []⟩ [.rows l278, .int size279, .int k280, .int a281, .int b282, .rows es283, .rows es284, .rows es285]) R k = pInst_J25 n [.rows l278, .int size279, .int k280, .int a281, .int b282, .rows es283, .rows es284, .rows es285] R k := by kernel_rfl
theorem pInst_stepq27 (n : Nat) (l318 : List (List PV)) (size319 : Int) (k320 : Int) (a321 : Int) (b322 : Int) (es323 : List (List PV)) (es324 : List (List PV)) (es325 : List (List PV))  (R : Type) (k : Ex → St → Option R) :
    joinK T G0 (ctrOf pInst_Γ) (normJ pInst_cfg) (pInst_Λ n) (codeAt [1, 1, 1, 1, 1, 1, 0, 1, 0, 0, 1, 0, 0, 1, 1, 1, 1] (bodyOf Tryz.f4)) (buildSt ⟨sparse .undef [(0, (.val .fs)), (2, (.ref 0 0)), (3, (.val (.fn 12 []))), (4, (.ref 1 0)), (7, (.val (.int .i64))), (11, (.val (.int .i64))), (12, (.val (.int .i64))), (13, (.val (.int .i64)))] 0 203, [(.box [(.nil 3), (.nil 4), (.nil 2), (.nil 1)]), (.box [(.ow 2), (.ow 3), (.ow 4), (.nil 1)]), (.row 3), (.row 4), (.row 2)], []⟩ [.rows l318, .int size319, .int k320, .int a321, .int b322, .rows es323, .rows es324, .rows es325]) R k = pInst_J27 n [.rows l318, .int size319, .int k320, .int a321, .int b322, .rows es323, .rows es324, .rows es325] R k := by kernel_rfl
theorem pInst_eq (n : Nat) (l1 : List (List PV)) :
    funK T G0 (ctrOf pInst_Γ) (pInst_Λ n) .d false [none] (funOf Tryz.f4) [(PV.fs l1)] = pInst_b n  l1 (fun a0 a1 a2 a3 => some (pInst_E (a0, a1, a2, a3))) := by kernel_rfl
theorem pInst_inv {ps : List PV} {y : (List (List PV)) × (List (List PV)) × (List (List PV)) × (List (List PV))} (h : pInst_D ps = some y) : ∃ (l1 : List (List PV)), ps = [(PV.fs l1)] := by
  unfold pInst_D at h
  split at h
  · exact ⟨_, rfl⟩
  · cases h
theorem pInst_loops : loopsOf (bodyOf Tryz.f4) = [codeAt [1, 1, 1, 0, 1, 0, 0] (bodyOf Tryz.f4), codeAt [1, 1, 1, 1, 1, 0, 1, 0, 0] (bodyOf Tryz.f4), codeAt [1, 1, 1, 1, 1, 1, 0, 1, 0, 0] (bodyOf Tryz.f4), codeAt [1, 1, 1, 1, 1, 1, 1, 0, 1, 0, 0] (bodyOf Tryz.f4), codeAt [1, 1, 1, 1, 1, 1, 1, 0, 1, 0, 0, 1, 0, 0, 1, 0, 1, 0, 0] (bodyOf Tryz.f4)] := by kernel_rfl
theorem pInst_joins : (joinsOf (bodyOf Tryz.f4)).filter pInst_on = [codeAt [1, 1, 1, 1, 1, 0, 1, 0, 0, 1, 0, 0, 1, 1, 1] (bodyOf Tryz.f4), codeAt [1, 1, 1, 1, 1, 1, 0, 1, 0, 0, 1, 0, 0, 1, 1] (bodyOf Tryz.f4), codeAt [1, 1, 1, 1, 1, 1, 0, 1, 0, 0, 1, 0, 0, 1, 1, 1, 1] (bodyOf Tryz.f4)] := by kernel_rfl
theorem pInst_holds (hΓ : HoldsAll Tryz.prog G0 pInst_Γ) (hok : ∀ (l1 : List (List PV)) (y : (List (List PV)) × (List (List PV)) × (List (List PV)) × (List (List PV))), sPInst l1 = some y → ∃ n, ∀ (R : Type) (k : List (List PV) → List (List PV) → List (List PV) → List (List PV) → Option R), pInst_b n  l1 k = k y.1 y.2.1 y.2.2.1 y.2.2.2) : Holds Tryz.prog G0 4 pInst_C := by
  refine fun_pat mixed tOk (ctrOf_ok hΓ) Tryz.func4 rfl rfl rfl rfl (F := funOf Tryz.f4) (normBy_ok pInst_cfg) (pat := pInst_pat) (L := pInst_L) (normJ_ok pInst_cfg) (on := pInst_on) (patj := pInst_patj) (J := pInst_J) (fun c hc ls R k => ?_) (fun c hc p hp m ls R k r h => ?_) (fun c hc p hp m ls R k r h => ?_) (fun ps x h => ?_)
  · rw [show (funOf Tryz.f4).code = bodyOf Tryz.f4 from rfl, pInst_loops] at hc
    simp only [List.mem_cons, List.not_mem_nil, or_false] at hc
    rcases hc with rfl | rfl | rfl | rfl | rfl
    · show pInst_L4 0 ls R k = none
      unfold pInst_L4
      split
      · rfl
      · rfl
    · show pInst_L10 0 ls R k = none
      unfold pInst_L10
      split
      · rfl
      · rfl
    · show pInst_L19 0 ls R k = none
      unfold pInst_L19
      split
      · rfl
      · rfl
    · show pInst_L28 0 ls R k = none
      unfold pInst_L28
      split
      · rfl
      · rfl
    · show pInst_L32 0 ls R k = none
      unfold pInst_L32
      split
      · rfl
      · rfl
  · rw [show (funOf Tryz.f4).code = bodyOf Tryz.f4 from rfl, pInst_loops] at hc
    simp only [List.mem_cons, List.not_mem_nil, or_false] at hc
    rcases hc with rfl | rfl | rfl | rfl | rfl
    · have hp' : p = ⟨sparse .undef [(0, (.val .fs)), (2, (.ref 0 0)), (3, (.val (.fn 12 []))), (4, (.ref 1 0)), (5, (.val (.int .i64)))] 0 203, [(.box [(.nil 3), (.nil 4), (.nil 2), (.nil 1)]), (.box [(.ow 2), (.nil 4), (.nil 2), (.nil 1)]), (.row 3)], []⟩ := (Option.some.inj (hp : some _ = some p)).symm
      subst hp'
      change pInst_L4 (m + 1) ls R k = some r at h
      have h' := h
      unfold pInst_L4 at h'
      split at h'
      · exact (pInst_step4 m _ _ _ R k).trans h
      · cases h'
    · have hp' : p = ⟨sparse .undef [(0, (.val .fs)), (2, (.ref 0 0)), (3, (.val (.fn 12 []))), (4, (.ref 1 0)), (7, (.val (.int .i64))), (8, (.val (.int .i64)))] 0 203, [(.box [(.nil 3), (.nil 4), (.nil 2), (.nil 1)]), (.box [(.ow 2), (.ow 3), (.nil 2), (.nil 1)]), (.row 3), (.row 4)], []⟩ := (Option.some.inj (hp : some _ = some p)).symm
      subst hp'
      change pInst_L10 (m + 1) ls R k = some r at h
      have h' := h
      unfold pInst_L10 at h'
      split at h'
      · exact (pInst_step10 m _ _ _ _ _ R k).trans h
      · cases h'
    · have hp' : p = ⟨sparse .undef [(0, (.val .fs)), (2, (.ref 0 0)), (3, (.val (.fn 12 []))), (4, (.ref 1 0)), (7, (.val (.int .i64))), (11, (.val (.int .i64)))] 0 203, [(.box [(.nil 3), (.nil 4), (.nil 2), (.nil 1)]), (.box [(.ow 2), (.ow 3), (.ow 4), (.nil 1)]), (.row 3), (.row 4), (.row 2)], []⟩ := (Option.some.inj (hp : some _ = some p)).symm
      subst hp'
      change pInst_L19 (m + 1) ls R k = some r at h
      have h' := h
      unfold pInst_L19 at h'
      split at h'
      · exact (pInst_step19 m _ _ _ _ _ _ R k).trans h
      · cases h'
    · have hp' : p = ⟨sparse .undef [(0, (.val .fs)), (2, (.ref 0 0)), (3, (.val (.fn 12 []))), (4, (.ref 1 0)), (7, (.val (.int .i64))), (15, (.val (.int .i64)))] 0 203, [(.box [(.nil 3), (.nil 4), (.nil 2), (.nil 1)]), (.box [(.ow 2), (.ow 3), (.ow 4), (.ow 5)]), (.row 3), (.row 4), (.row 2), (.row 1)], []⟩ := (Option.some.inj (hp : some _ = some p)).symm
      subst hp'
      change pInst_L28 (m + 1) ls R k = some r at h
      have h' := h
      unfold pInst_L28 at h'
      split at h'
      · exact (pInst_step28 m _ _ _ _ _ _ _ R k).trans h
      · cases h'
    · have hp' : p = ⟨sparse .undef [(0, (.val .fs)), (2, (.ref 0 0)), (3, (.val (.fn 12 []))), (4, (.ref 1 0)), (7, (.val (.int .i64))), (15, (.val (.int .i64))), (16, (.ow 6)), (17, (.val (.int .i64)))] 0 203, [(.box [(.nil 3), (.nil 4), (.nil 2), (.nil 1)]), (.box [(.ow 2), (.ow 3), (.ow 4), (.ow 5)]), (.row 3), (.row 4), (.row 2), (.row 1), (.row 1)], []⟩ := (Option.some.inj (hp : some _ = some p)).symm
      subst hp'
      change pInst_L32 (m + 1) ls R k = some r at h
      have h' := h
      unfold pInst_L32 at h'
      split at h'
      · exact (pInst_step32 m _ _ _ _ _ _ _ _ _ R k).trans h
      · cases h'
  · rw [show (funOf Tryz.f4).code = bodyOf Tryz.f4 from rfl, pInst_joins] at hc
    simp only [List.mem_cons, List.not_mem_nil, or_false] at hc
    rcases hc with rfl | rfl | rfl
    · have hp' : p = ⟨sparse .undef [(0, (.val .fs)), (2, (.ref 0 0)), (3, (.val (.fn 12 []))), (4, (.ref 1 0)), (7, (.val (.int .i64))), (8, (.val (.int .i64))), (9, (.val (.int .i64))), (10, (.ref 4 0))] 0 203, [(.box [(.nil 3), (.nil 4), (.nil 2), (.nil 1)]), (.box [(.ow 2), (.ow 3), (.nil 2), (.nil 1)]), (.row 3), (.row 4), (.pbox (.agg [(.int .i64), (.int .i64), (.int .i64), (.int .i64)]) 4)], []⟩ := (Option.some.inj (hp : some _ = some p)).symm
      subst hp'
      change pInst_J16 m ls R k = some r at h
      have h' := h
      unfold pInst_J16 at h'
      split at h'
      · exact (pInst_stepq16 m _ _ _ _ _ _ _ _ _ _ R k).trans h
      · cases h'
    · have hp' : p = ⟨sparse .undef [(0, (.val .fs)), (2, (.ref 0 0)), (3, (.val (.fn 12 []))), (4, (.ref 1 0)), (7, (.val (.int .i64))), (11, (.val (.int .i64))), (12, (.val (.int .i64))), (13, (.val (.int .i64)))] 0 203, [(.box [(.nil 3), (.nil 4), (.nil 2), (.nil 1)]), (.box [(.ow 2), (.ow 3), (.ow 4), (.nil 1)]), (.row 3), (.row 4), (.row 2)], []⟩ := (Option.some.inj (hp : some _ = some p)).symm
      subst hp'
      change pInst_J25 m ls R k = some r at h
      have h' := h
      unfold pInst_J25 at h'
      split at h'
      · exact (pInst_stepq25 m _ _ _ _ _ _ _ _ R k).trans h
      · cases h'
    · have hp' : p = ⟨sparse .undef [(0, (.val .fs)), (2, (.ref 0 0)), (3, (.val (.fn 12 []))), (4, (.ref 1 0)), (7, (.val (.int .i64))), (11, (.val (.int .i64))), (12, (.val (.int .i64))), (13, (.val (.int .i64)))] 0 203, [(.box [(.nil 3), (.nil 4), (.nil 2), (.nil 1)]), (.box [(.ow 2), (.ow 3), (.ow 4), (.nil 1)]), (.row 3), (.row 4), (.row 2)], []⟩ := (Option.some.inj (hp : some _ = some p)).symm
      subst hp'
      change pInst_J27 m ls R k = some r at h
      have h' := h
      unfold pInst_J27 at h'
      split at h'
      · exact (pInst_stepq27 m _ _ _ _ _ _ _ _ R k).trans h
      · cases h'
  · obtain ⟨y, hy, hx⟩ := bind_inv h
    cases hx
    obtain ⟨l1, rfl⟩ := pInst_inv hy
    obtain ⟨n, hn⟩ := hok l1 y hy
    exact ⟨n, (pInst_eq n l1).trans (hn _ _)⟩

end
end Go.Proofs.YtkeklbicmfhemabGreatDoorV
