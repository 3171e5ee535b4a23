/- What the functions of the program come to, as the reading machine has it: printed by dec.py. -/
import Derived.Test.YtkeklbicmfhemaaDoorVTab
import Derived.Test.YtkeklbicmfhemaaDoorD15
namespace Go.Proofs.YtkeklbicmfhemaaDoorV
open Go
set_option maxRecDepth 100000
set_option linter.unusedVariables false
set_option linter.unusedSimpArgs false
noncomputable section
/-! ## drayman/draymanlaw15.num -/
def num15_b {R : Type} (l1 : List (List PV)) (k2 : Int) (k : Int → Option R) : Option R :=
  cond (decide (k2 < (l1.length : Int))) (
    Option.bind (idx l1 k2) fun e3 =>
    if e3.length = 1 then
      Option.bind (e3[0]?) fun c4 =>
      Option.bind (PV.asI .i64 c4) fun n5 =>
      Option.bind (within_d n5 1000) fun y6 =>
      k y6
    else none) (
    k k2)
def num15_E (y : Int) : PV × List PV := ((PV.int .i64 y), [])
def num15_d (l1 : List (List PV)) (k2 : Int) : Option (Int) := num15_b l1 k2 fun a0 => some a0
def num15_D : List PV → Option (Int)
  | [(PV.fs l1), (PV.int .i64 k2)] => num15_d l1 k2
  | _ => none
def num15_Γ : List (Nat × Cal) := [(16, .ctr within_C)]
def num15_C : Ctr := ⟨[none, none], Int, num15_D, num15_E, true, .d⟩
theorem num15_eq (l1 : List (List PV)) (k2 : Int) :
    funK T G0 (ctrOf num15_Γ) noL .d true [none, none] (funOf Tryd.f51) [(PV.fs l1), (PV.int .i64 k2)] = num15_b  l1 k2 (fun a0 => some (num15_E a0)) := by kernel_rfl
theorem num15_inv {ps : List PV} {y : Int} (h : num15_D ps = some y) : ∃ (l1 : List (List PV)) (k2 : Int), ps = [(PV.fs l1), (PV.int .i64 k2)] := by
  unfold num15_D at h
  split at h
  · exact ⟨_, _, rfl⟩
  · cases h
theorem num15_nat {R : Type} (l1 : List (List PV)) (k2 : Int) (k : Int → Option R) : num15_b l1 k2 k = Option.bind (num15_b l1 k2 fun a0 => some a0) fun y => k y := by
  unfold num15_b
  first | rfl | simp only [Option.bind_assoc, bind_cond, bind_ite, Option.bind_some, Option.bind_none]
theorem num15_holds (hΓ : HoldsAll Tryd.prog G0 num15_Γ) : Holds Tryd.prog G0 51 num15_C := by
  refine fun_ok mixed tOk (ctrOf_ok hΓ) Tryd.func51 rfl rfl rfl rfl (F := funOf Tryd.f51) (fun ps x h => ?_)
  obtain ⟨y, hy, hx⟩ := bind_inv h
  cases hx
  obtain ⟨l1, k2, rfl⟩ := num15_inv hy
  have hy' : num15_d l1 k2 = some y := hy
  refine ⟨noL, noL_ok _, (num15_eq l1 k2).trans ?_⟩
  unfold num15_d at hy'
  rw [num15_nat, hy']
  rfl

/-! ## drayman/draymanlaw15.Of -/
def of15_q17 {R : Type} (l260 : List (List PV)) (how261 : Int) (i262 : Int) (b263 : Bool) (i264 : Int) (i265 : Int) (i266 : Int) (i267 : Int) (i268 : Int) (i269 : Int) (i270 : Int) (i271 : Int) (i272 : Int) (i273 : Int) (i274 : Int) (i275 : Int) (i276 : Int) (i277 : Int) (i278 : Int) (i279 : Int) (k0 : List (List PV) → Int → Int → Int → Int → Int → Int → Int → Int → Int → Int → Int → Int → Int → Int → Int → Int → Int → Option R) : Option R :=
  cond b263 (
    Option.bind (num15_d l260 0) fun y280 =>
    k0 l260 how261 i264 i265 i266 i267 i268 i269 i270 i271 i272 i273 y280 i275 i276 i277 i278 i279) (
    cond (i262 == (8 : Int)) (
      Option.bind (num15_d l260 0) fun y281 =>
      Option.bind (within_d y281 20) fun y282 =>
      Option.bind (num15_d l260 1) fun y283 =>
      Option.bind (num15_d l260 2) fun y284 =>
      cond (decide ((l260.length : Int) > (3 : Int))) (
        Option.bind (num15_d l260 3) fun y285 =>
        k0 l260 how261 i264 i265 i266 i267 i268 i269 i270 i271 i272 i273 y284 i275 i276 (IntKind.i64.wrap ((1 : Int) + y282)) y283 y285) (
        k0 l260 how261 i264 i265 i266 i267 i268 i269 i270 i271 i272 i273 y284 i275 i276 (IntKind.i64.wrap ((1 : Int) + y282)) y283 i279)) (
      k0 l260 how261 i264 i265 i266 i267 i268 i269 i270 i271 i272 i273 i274 i275 i276 i277 i278 i279))
def of15_q13 {R : Type} (l185 : List (List PV)) (how186 : Int) (i187 : Int) (b188 : Bool) (i189 : Int) (i190 : Int) (i191 : Int) (i192 : Int) (i193 : Int) (i194 : Int) (i195 : Int) (i196 : Int) (i197 : Int) (i198 : Int) (i199 : Int) (i200 : Int) (i201 : Int) (i202 : Int) (i203 : Int) (i204 : Int) (k0 : List (List PV) → Int → Int → Int → Int → Int → Int → Int → Int → Int → Int → Int → Int → Int → Int → Int → Int → Int → Option R) : Option R :=
  cond b188 (
    Option.bind (num15_d l185 0) fun y205 =>
    k0 l185 how186 i189 i190 i191 i192 i193 i194 i195 i196 i197 y205 i199 i200 i201 i202 i203 i204) (
    cond (i187 == (6 : Int)) (
      of15_q17 l185 how186 i187 true i189 i190 i191 i192 i193 i194 i195 i196 i197 i198 i199 i200 i201 i202 i203 i204 k0) (
      cond (i187 == (7 : Int)) (
        of15_q17 l185 how186 i187 true i189 i190 i191 i192 i193 i194 i195 i196 i197 i198 i199 i200 i201 i202 i203 i204 k0) (
        of15_q17 l185 how186 i187 (i187 == (11 : Int)) i189 i190 i191 i192 i193 i194 i195 i196 i197 i198 i199 i200 i201 i202 i203 i204 k0)))
def of15_q7 {R : Type} (l107 : List (List PV)) (how108 : Int) (i109 : Int) (b110 : Bool) (i111 : Int) (i112 : Int) (i113 : Int) (i114 : Int) (i115 : Int) (i116 : Int) (i117 : Int) (i118 : Int) (i119 : Int) (i120 : Int) (i121 : Int) (i122 : Int) (i123 : Int) (i124 : Int) (i125 : Int) (i126 : Int) (k0 : List (List PV) → Int → Int → Int → Int → Int → Int → Int → Int → Int → Int → Int → Int → Int → Int → Int → Int → Int → Option R) : Option R :=
  cond b110 (
    Option.bind (num15_d l107 0) fun y127 =>
    Option.bind (num15_d l107 1) fun y128 =>
    Option.bind (num15_d l107 2) fun y129 =>
    cond (decide ((l107.length : Int) > (3 : Int))) (
      Option.bind (num15_d l107 3) fun y130 =>
      k0 l107 how108 i111 i112 i113 i114 i115 i116 i117 i118 i119 y127 y128 y129 y130 i124 i125 i126) (
      k0 l107 how108 i111 i112 i113 i114 i115 i116 i117 i118 i119 y127 y128 y129 i123 i124 i125 i126)) (
    cond (i109 == (2 : Int)) (
      of15_q13 l107 how108 i109 true i111 i112 i113 i114 i115 i116 i117 i118 i119 i120 i121 i122 i123 i124 i125 i126 k0) (
      cond (i109 == (4 : Int)) (
        of15_q13 l107 how108 i109 true i111 i112 i113 i114 i115 i116 i117 i118 i119 i120 i121 i122 i123 i124 i125 i126 k0) (
        of15_q13 l107 how108 i109 (i109 == (5 : Int)) i111 i112 i113 i114 i115 i116 i117 i118 i119 i120 i121 i122 i123 i124 i125 i126 k0)))
def of15_q23 {R : Type} (l286 : List (List PV)) (how287 : Int) (b288 : Bool) (i289 : Int) (i290 : Int) (i291 : Int) (i292 : Int) (i293 : Int) (i294 : Int) (i295 : Int) (i296 : Int) (i297 : Int) (i298 : Int) (i299 : Int) (i300 : Int) (i301 : Int) (i302 : Int) (i303 : Int) (i304 : Int) (k0 : Int → Int → Int → Int → Int → Int → Int → Int → Int → Int → Int → Int → Int → Int → Int → Int → Option R) : Option R :=
  cond b288 (
    Option.bind (within_d (IntKind.i64.wrap (Int.tdiv how287 (4 : Int))) 8) fun y305 =>
    cond (y305 == (0 : Int)) (
      Option.bind (idx l286 (0 : Int)) fun e306 =>
      if e306.length = 1 then
        Option.bind (e306[0]?) fun c307 =>
        Option.bind (PV.asI .i64 c307) fun n308 =>
        k0 i289 i290 i291 i292 i293 i294 i295 i296 n308 i298 i299 i300 i301 i302 i303 i304
      else none) (
      cond (y305 == (1 : Int)) (
        Option.bind (idx l286 (0 : Int)) fun e309 =>
        if e309.length = 1 then
          Option.bind (e309[0]?) fun c310 =>
          Option.bind (PV.asI .i64 c310) fun n311 =>
          k0 i289 i290 i291 i292 i293 i294 i295 i296 i297 n311 i299 i300 i301 i302 i303 i304
        else none) (
        cond (y305 == (2 : Int)) (
          Option.bind (idx l286 (0 : Int)) fun e312 =>
          if e312.length = 1 then
            Option.bind (e312[0]?) fun c313 =>
            Option.bind (PV.asI .i64 c313) fun n314 =>
            k0 i289 i290 i291 i292 i293 i294 i295 i296 i297 i298 n314 i300 i301 i302 i303 i304
          else none) (
          cond (y305 == (3 : Int)) (
            Option.bind (idx l286 (0 : Int)) fun e315 =>
            if e315.length = 1 then
              Option.bind (e315[0]?) fun c316 =>
              Option.bind (PV.asI .i64 c316) fun n317 =>
              k0 i289 i290 i291 i292 i293 i294 i295 i296 i297 i298 i299 n317 i301 i302 i303 i304
            else none) (
            cond (y305 == (4 : Int)) (
              Option.bind (idx l286 (0 : Int)) fun e318 =>
              if e318.length = 1 then
                Option.bind (e318[0]?) fun c319 =>
                Option.bind (PV.asI .i64 c319) fun n320 =>
                k0 i289 i290 i291 i292 i293 i294 i295 i296 i297 i298 i299 i300 n320 i302 i303 i304
              else none) (
              cond (y305 == (5 : Int)) (
                Option.bind (idx l286 (0 : Int)) fun e321 =>
                if e321.length = 1 then
                  Option.bind (e321[0]?) fun c322 =>
                  Option.bind (PV.asI .i64 c322) fun n323 =>
                  k0 i289 i290 i291 i292 i293 i294 i295 i296 i297 i298 i299 i300 i301 n323 i303 i304
                else none) (
                cond (y305 == (6 : Int)) (
                  Option.bind (idx l286 (0 : Int)) fun e324 =>
                  if e324.length = 1 then
                    Option.bind (e324[0]?) fun c325 =>
                    Option.bind (PV.asI .i64 c325) fun n326 =>
                    k0 i289 i290 i291 i292 i293 i294 i295 i296 i297 i298 i299 i300 i301 i302 n326 i304
                  else none) (
                  Option.bind (idx l286 (0 : Int)) fun e327 =>
                  if e327.length = 1 then
                    Option.bind (e327[0]?) fun c328 =>
                    Option.bind (PV.asI .i64 c328) fun n329 =>
                    k0 i289 i290 i291 i292 i293 i294 i295 i296 i297 i298 i299 i300 i301 i302 i303 n329
                  else none)))))))) (
    k0 i289 i290 i291 i292 i293 i294 i295 i296 i297 i298 i299 i300 i301 i302 i303 i304)
def of15_q22 {R : Type} (l57 : List (List PV)) (how58 : Int) (i59 : Int) (i60 : Int) (i61 : Int) (i62 : Int) (i63 : Int) (i64 : Int) (i65 : Int) (i66 : Int) (i67 : Int) (i68 : Int) (i69 : Int) (i70 : Int) (i71 : Int) (i72 : Int) (i73 : Int) (i74 : Int) (k0 : Int → Int → Int → Int → Int → Int → Int → Int → Option R) : Option R :=
  cond ((Int.tmod how58 (4 : Int)) == (3 : Int)) (
    of15_q23 l57 how58 (decide ((l57.length : Int) > (0 : Int))) i59 i60 i61 i62 i63 i64 i65 i66 i67 i68 i69 i70 i71 i72 i73 i74
      (fun (i75 : Int) (i76 : Int) (i77 : Int) (i78 : Int) (i79 : Int) (i80 : Int) (i81 : Int) (i82 : Int) (i83 : Int) (i84 : Int) (i85 : Int) (i86 : Int) (i87 : Int) (i88 : Int) (i89 : Int) (i90 : Int) =>
        k0 i83 i84 i85 i86 i87 i88 i89 i90)) (
    of15_q23 l57 how58 false i59 i60 i61 i62 i63 i64 i65 i66 i67 i68 i69 i70 i71 i72 i73 i74
      (fun (i91 : Int) (i92 : Int) (i93 : Int) (i94 : Int) (i95 : Int) (i96 : Int) (i97 : Int) (i98 : Int) (i99 : Int) (i100 : Int) (i101 : Int) (i102 : Int) (i103 : Int) (i104 : Int) (i105 : Int) (i106 : Int) =>
        k0 i99 i100 i101 i102 i103 i104 i105 i106))
def of15_b {R : Type} (op1 : Int) (l2 : List (List PV)) (how3 : Int) (k : Int → Int → Int → Int → Int → Int → Int → Int → Option R) : Option R :=
  Option.bind (within_d op1 13) fun y4 =>
  cond ((IntKind.i64.wrap ((1 : Int) + y4)) == (1 : Int)) (
    of15_q7 l2 how3 (IntKind.i64.wrap ((1 : Int) + y4)) true 0 0 0 0 0 0 0 0 (IntKind.i64.wrap ((1 : Int) + y4)) 0 0 0 (-1) 0 0 (-1)
      (fun (l5 : List (List PV)) (how6 : Int) (i7 : Int) (i8 : Int) (i9 : Int) (i10 : Int) (i11 : Int) (i12 : Int) (i13 : Int) (i14 : Int) (i15 : Int) (i16 : Int) (i17 : Int) (i18 : Int) (i19 : Int) (i20 : Int) (i21 : Int) (i22 : Int) =>
        of15_q22 l5 how6 i7 i8 i9 i10 i11 i12 i13 i14 i15 i16 i17 i18 i19 i20 i21 i22 k)) (
    of15_q7 l2 how3 (IntKind.i64.wrap ((1 : Int) + y4)) ((IntKind.i64.wrap ((1 : Int) + y4)) == (3 : Int)) 0 0 0 0 0 0 0 0 (IntKind.i64.wrap ((1 : Int) + y4)) 0 0 0 (-1) 0 0 (-1)
      (fun (l31 : List (List PV)) (how32 : Int) (i33 : Int) (i34 : Int) (i35 : Int) (i36 : Int) (i37 : Int) (i38 : Int) (i39 : Int) (i40 : Int) (i41 : Int) (i42 : Int) (i43 : Int) (i44 : Int) (i45 : Int) (i46 : Int) (i47 : Int) (i48 : Int) =>
        of15_q22 l31 how32 i33 i34 i35 i36 i37 i38 i39 i40 i41 i42 i43 i44 i45 i46 i47 i48 k))
def of15_E (y : Int × Int × Int × Int × Int × Int × Int × Int) : PV × List PV := ((PV.agg [(PV.int .i64 y.1), (PV.int .i64 y.2.1), (PV.int .i64 y.2.2.1), (PV.int .i64 y.2.2.2.1), (PV.int .i64 y.2.2.2.2.1), (PV.int .i64 y.2.2.2.2.2.1), (PV.int .i64 y.2.2.2.2.2.2.1), (PV.int .i64 y.2.2.2.2.2.2.2)]), [])
open Classical in
noncomputable def sOf15 (op1 : Int) (l2 : List (List PV)) (how3 : Int) : Option (Int × Int × Int × Int × Int × Int × Int × Int) := if h : ∃ y : Int × Int × Int × Int × Int × Int × Int × Int, ofP op1 l2 how3 y ∧ ∀ (R : Type) (k : Int → Int → Int → Int → Int → Int → Int → Int → Option R), of15_b  op1 l2 how3 k = k y.1 y.2.1 y.2.2.1 y.2.2.2.1 y.2.2.2.2.1 y.2.2.2.2.2.1 y.2.2.2.2.2.2.1 y.2.2.2.2.2.2.2 then some (Classical.choose h) else none
theorem of15_pick (op1 : Int) (l2 : List (List PV)) (how3 : Int) (y : Int × Int × Int × Int × Int × Int × Int × Int) (h : sOf15 op1 l2 how3 = some y) : ofP op1 l2 how3 y ∧ ∀ (R : Type) (k : Int → Int → Int → Int → Int → Int → Int → Int → Option R), of15_b  op1 l2 how3 k = k y.1 y.2.1 y.2.2.1 y.2.2.2.1 y.2.2.2.2.1 y.2.2.2.2.2.1 y.2.2.2.2.2.2.1 y.2.2.2.2.2.2.2 := by
  unfold sOf15 at h
  split at h
  · rename_i hh
    cases h
    exact Classical.choose_spec hh
  · cases h
theorem of15_ok : ∀ (op1 : Int) (l2 : List (List PV)) (how3 : Int) (y : Int × Int × Int × Int × Int × Int × Int × Int), sOf15 op1 l2 how3 = some y → ∀ (R : Type) (k : Int → Int → Int → Int → Int → Int → Int → Int → Option R), of15_b  op1 l2 how3 k = k y.1 y.2.1 y.2.2.1 y.2.2.2.1 y.2.2.2.2.1 y.2.2.2.2.2.1 y.2.2.2.2.2.2.1 y.2.2.2.2.2.2.2 := fun op1 l2 how3 y h => (of15_pick op1 l2 how3 y h).2
theorem of15_got (op1 : Int) (l2 : List (List PV)) (how3 : Int) (h : ∃ y : Int × Int × Int × Int × Int × Int × Int × Int, ofP op1 l2 how3 y ∧ ∀ (R : Type) (k : Int → Int → Int → Int → Int → Int → Int → Int → Option R), of15_b  op1 l2 how3 k = k y.1 y.2.1 y.2.2.1 y.2.2.2.1 y.2.2.2.2.1 y.2.2.2.2.2.1 y.2.2.2.2.2.2.1 y.2.2.2.2.2.2.2) : ∃ y, sOf15 op1 l2 how3 = some y ∧ ofP op1 l2 how3 y := by
  unfold sOf15
  rw [dif_pos h]
  exact ⟨_, rfl, (Classical.choose_spec h).1⟩
def of15_D : List PV → Option (Int × Int × Int × Int × Int × Int × Int × Int)
  | [(PV.int .i64 op1), (PV.fs l2), (PV.int .i64 how3)] => sOf15 op1 l2 how3
  | _ => none
def of15_Γ : List (Nat × Cal) := [(16, .ctr within_C), (51, .ctr num15_C)]
def of15_C : Ctr := ⟨[none, none, none], Int × Int × Int × Int × Int × Int × Int × Int, of15_D, of15_E, true, .d⟩
def of15_cfg : List (Nat × LC) := [(4000023, ⟨[1, 2, 6, 7, 8, 75], [], [], []⟩),
  (4000022, ⟨[1, 2, 6, 7, 8], [], [], []⟩),
  (4000007, ⟨[1, 2, 6, 7, 8, 15, 16], [], [], []⟩),
  (5000007, ⟨[1, 2, 6, 7, 8], [], [], []⟩),
  (4000013, ⟨[1, 2, 6, 7, 8, 15, 34], [], [], []⟩),
  (5000013, ⟨[1, 2, 6, 7, 8], [], [], []⟩),
  (4000017, ⟨[1, 2, 6, 7, 8, 15, 41], [], [], []⟩),
  (5000017, ⟨[1, 2, 6, 7, 8], [], [], []⟩),
  (5000023, ⟨[6, 8], [], [], []⟩),
  (6000022, ⟨[6], [], [], []⟩)]
def of15_pat : Nat → Option SP
  | _ => none
def of15_patj : Nat → Option SP
  | 17 => some ⟨sparse .undef [(1, (.val .fs)), (2, (.val (.int .i64))), (6, (.ref 0 0)), (7, (.val (.fn 16 []))), (8, (.ref 1 0)), (15, (.val (.int .i64))), (41, (.val .bool))] 0 127, [(.box [(.val (.int .i64)), (.val (.int .i64)), (.val (.int .i64)), (.val (.int .i64)), (.val (.int .i64)), (.val (.int .i64)), (.val (.int .i64)), (.val (.int .i64))]), (.pbox (.agg [(.int .i64), (.int .i64), (.int .i64), (.int .i64), (.int .i64), (.int .i64), (.int .i64), (.int .i64)]) 8)], []⟩
  | 13 => some ⟨sparse .undef [(1, (.val .fs)), (2, (.val (.int .i64))), (6, (.ref 0 0)), (7, (.val (.fn 16 []))), (8, (.ref 1 0)), (15, (.val (.int .i64))), (34, (.val .bool))] 0 127, [(.box [(.val (.int .i64)), (.val (.int .i64)), (.val (.int .i64)), (.val (.int .i64)), (.val (.int .i64)), (.val (.int .i64)), (.val (.int .i64)), (.val (.int .i64))]), (.pbox (.agg [(.int .i64), (.int .i64), (.int .i64), (.int .i64), (.int .i64), (.int .i64), (.int .i64), (.int .i64)]) 8)], []⟩
  | 7 => some ⟨sparse .undef [(1, (.val .fs)), (2, (.val (.int .i64))), (6, (.ref 0 0)), (7, (.val (.fn 16 []))), (8, (.ref 1 0)), (15, (.val (.int .i64))), (16, (.val .bool))] 0 127, [(.box [(.val (.int .i64)), (.val (.int .i64)), (.val (.int .i64)), (.val (.int .i64)), (.val (.int .i64)), (.val (.int .i64)), (.val (.int .i64)), (.val (.int .i64))]), (.pbox (.agg [(.int .i64), (.int .i64), (.int .i64), (.int .i64), (.int .i64), (.int .i64), (.int .i64), (.int .i64)]) 8)], []⟩
  | 23 => some ⟨sparse .undef [(1, (.val .fs)), (2, (.val (.int .i64))), (6, (.ref 0 0)), (7, (.val (.fn 16 []))), (8, (.ref 1 0)), (75, (.val .bool))] 0 127, [(.box [(.val (.int .i64)), (.val (.int .i64)), (.val (.int .i64)), (.val (.int .i64)), (.val (.int .i64)), (.val (.int .i64)), (.val (.int .i64)), (.val (.int .i64))]), (.pbox (.agg [(.int .i64), (.int .i64), (.int .i64), (.int .i64), (.int .i64), (.int .i64), (.int .i64), (.int .i64)]) 8)], []⟩
  | 22 => some ⟨sparse .undef [(1, (.val .fs)), (2, (.val (.int .i64))), (6, (.ref 0 0)), (7, (.val (.fn 16 []))), (8, (.ref 1 0))] 0 127, [(.box [(.val (.int .i64)), (.val (.int .i64)), (.val (.int .i64)), (.val (.int .i64)), (.val (.int .i64)), (.val (.int .i64)), (.val (.int .i64)), (.val (.int .i64))]), (.pbox (.agg [(.int .i64), (.int .i64), (.int .i64), (.int .i64), (.int .i64), (.int .i64), (.int .i64), (.int .i64)]) 8)], []⟩
  | _ => none
def of15_J17 (n : Nat) (ls : List Leaf) (R : Type) (k : Ex → St → Option R) : Option R :=
  match ls with
  | [.rows l260, .int how261, .int i262, .bool b263, .int i264, .int i265, .int i266, .int i267, .int i268, .int i269, .int i270, .int i271, .int i272, .int i273, .int i274, .int i275, .int i276, .int i277, .int i278, .int i279] => of15_q17 l260 how261 i262 b263 i264 i265 i266 i267 i268 i269 i270 i271 i272 i273 i274 i275 i276 i277 i278 i279 (fun y1330 y1331 y1332 y1333 y1334 y1335 y1336 y1337 y1338 y1339 y1340 y1341 y1342 y1343 y1344 y1345 y1346 y1347 => k .normal ⟨sparse .undef [(1, (TV.val (PV.fs y1330))), (2, (TV.val (PV.int .i64 y1331))), (6, (TV.ref 0 0)), (7, (TV.val (PV.fn (Fn.func 16) []))), (8, (TV.ref 1 0))] 0 127, [(Ob.box [(TV.val (PV.int .i64 y1332)), (TV.val (PV.int .i64 y1333)), (TV.val (PV.int .i64 y1334)), (TV.val (PV.int .i64 y1335)), (TV.val (PV.int .i64 y1336)), (TV.val (PV.int .i64 y1337)), (TV.val (PV.int .i64 y1338)), (TV.val (PV.int .i64 y1339))]), (Ob.pbox (PV.agg [(PV.int .i64 y1340), (PV.int .i64 y1341), (PV.int .i64 y1342), (PV.int .i64 y1343), (PV.int .i64 y1344), (PV.int .i64 y1345), (PV.int .i64 y1346), (PV.int .i64 y1347)]) 8)], []⟩)
  | _ => none
def of15_J13 (n : Nat) (ls : List Leaf) (R : Type) (k : Ex → St → Option R) : Option R :=
  match ls with
  | [.rows l185, .int how186, .int i187, .bool b188, .int i189, .int i190, .int i191, .int i192, .int i193, .int i194, .int i195, .int i196, .int i197, .int i198, .int i199, .int i200, .int i201, .int i202, .int i203, .int i204] => of15_q13 l185 how186 i187 b188 i189 i190 i191 i192 i193 i194 i195 i196 i197 i198 i199 i200 i201 i202 i203 i204 (fun y2348 y2349 y2350 y2351 y2352 y2353 y2354 y2355 y2356 y2357 y2358 y2359 y2360 y2361 y2362 y2363 y2364 y2365 => k .normal ⟨sparse .undef [(1, (TV.val (PV.fs y2348))), (2, (TV.val (PV.int .i64 y2349))), (6, (TV.ref 0 0)), (7, (TV.val (PV.fn (Fn.func 16) []))), (8, (TV.ref 1 0))] 0 127, [(Ob.box [(TV.val (PV.int .i64 y2350)), (TV.val (PV.int .i64 y2351)), (TV.val (PV.int .i64 y2352)), (TV.val (PV.int .i64 y2353)), (TV.val (PV.int .i64 y2354)), (TV.val (PV.int .i64 y2355)), (TV.val (PV.int .i64 y2356)), (TV.val (PV.int .i64 y2357))]), (Ob.pbox (PV.agg [(PV.int .i64 y2358), (PV.int .i64 y2359), (PV.int .i64 y2360), (PV.int .i64 y2361), (PV.int .i64 y2362), (PV.int .i64 y2363), (PV.int .i64 y2364), (PV.int .i64 y2365)]) 8)], []⟩)
  | _ => none
def of15_J7 (n : Nat) (ls : List Leaf) (R : Type) (k : Ex → St → Option R) : Option R :=
  match ls with
  | [.rows l107, .int how108, .int i109, .bool b110, .int i111, .int i112, .int i113, .int i114, .int i115, .int i116, .int i117, .int i118, .int i119, .int i120, .int i121, .int i122, .int i123, .int i124, .int i125, .int i126] => of15_q7 l107 how108 i109 b110 i111 i112 i113 i114 i115 i116 i117 i118 i119 i120 i121 i122 i123 i124 i125 i126 (fun y3366 y3367 y3368 y3369 y3370 y3371 y3372 y3373 y3374 y3375 y3376 y3377 y3378 y3379 y3380 y3381 y3382 y3383 => k .normal ⟨sparse .undef [(1, (TV.val (PV.fs y3366))), (2, (TV.val (PV.int .i64 y3367))), (6, (TV.ref 0 0)), (7, (TV.val (PV.fn (Fn.func 16) []))), (8, (TV.ref 1 0))] 0 127, [(Ob.box [(TV.val (PV.int .i64 y3368)), (TV.val (PV.int .i64 y3369)), (TV.val (PV.int .i64 y3370)), (TV.val (PV.int .i64 y3371)), (TV.val (PV.int .i64 y3372)), (TV.val (PV.int .i64 y3373)), (TV.val (PV.int .i64 y3374)), (TV.val (PV.int .i64 y3375))]), (Ob.pbox (PV.agg [(PV.int .i64 y3376), (PV.int .i64 y3377), (PV.int .i64 y3378), (PV.int .i64 y3379), (PV.int .i64 y3380), (PV.int .i64 y3381), (PV.int .i64 y3382), (PV.int .i64 y3383)]) 8)], []⟩)
  | _ => none
def of15_J23 (n : Nat) (ls : List Leaf) (R : Type) (k : Ex → St → Option R) : Option R :=
  match ls with
  | [.rows l286, .int how287, .bool b288, .int i289, .int i290, .int i291, .int i292, .int i293, .int i294, .int i295, .int i296, .int i297, .int i298, .int i299, .int i300, .int i301, .int i302, .int i303, .int i304] => of15_q23 l286 how287 b288 i289 i290 i291 i292 i293 i294 i295 i296 i297 i298 i299 i300 i301 i302 i303 i304 (fun y4384 y4385 y4386 y4387 y4388 y4389 y4390 y4391 y4392 y4393 y4394 y4395 y4396 y4397 y4398 y4399 => k .normal ⟨sparse .undef [(6, (TV.ref 0 0)), (8, (TV.ref 1 0))] 0 127, [(Ob.box [(TV.val (PV.int .i64 y4384)), (TV.val (PV.int .i64 y4385)), (TV.val (PV.int .i64 y4386)), (TV.val (PV.int .i64 y4387)), (TV.val (PV.int .i64 y4388)), (TV.val (PV.int .i64 y4389)), (TV.val (PV.int .i64 y4390)), (TV.val (PV.int .i64 y4391))]), (Ob.pbox (PV.agg [(PV.int .i64 y4392), (PV.int .i64 y4393), (PV.int .i64 y4394), (PV.int .i64 y4395), (PV.int .i64 y4396), (PV.int .i64 y4397), (PV.int .i64 y4398), (PV.int .i64 y4399)]) 8)], []⟩)
  | _ => none
def of15_J22 (n : Nat) (ls : List Leaf) (R : Type) (k : Ex → St → Option R) : Option R :=
  match ls with
  | [.rows l57, .int how58, .int i59, .int i60, .int i61, .int i62, .int i63, .int i64, .int i65, .int i66, .int i67, .int i68, .int i69, .int i70, .int i71, .int i72, .int i73, .int i74] => of15_q22 l57 how58 i59 i60 i61 i62 i63 i64 i65 i66 i67 i68 i69 i70 i71 i72 i73 i74 (fun y5400 y5401 y5402 y5403 y5404 y5405 y5406 y5407 => k .ret ⟨sparse .undef [(6, (TV.ref 0 0))] 0 127, [(Ob.pbox (PV.agg [(PV.int .i64 y5400), (PV.int .i64 y5401), (PV.int .i64 y5402), (PV.int .i64 y5403), (PV.int .i64 y5404), (PV.int .i64 y5405), (PV.int .i64 y5406), (PV.int .i64 y5407)]) 8)], []⟩)
  | _ => none
def of15_L (n key : Nat) (ls : List Leaf) (R : Type) (k : Ex → St → Option R) : Option R :=
  match key with
  | _ => none
def of15_J (n key : Nat) (ls : List Leaf) (R : Type) (k : Ex → St → Option R) : Option R :=
  match key with
  | 17 => of15_J17 n ls R k
  | 13 => of15_J13 n ls R k
  | 7 => of15_J7 n ls R k
  | 23 => of15_J23 n ls R k
  | 22 => of15_J22 n ls R k
  | _ => none
def of15_on : Code → Bool := onKeys [22, 7, 13, 17, 23]
def of15_Λ : Nat → Loops := patL (normBy of15_cfg) of15_pat of15_L (normJ of15_cfg) of15_on of15_patj of15_J
theorem of15_stepq22 (n : Nat) (l57 : List (List PV)) (how58 : Int) (i59 : Int) (i60 : Int) (i61 : Int) (i62 : Int) (i63 : Int) (i64 : Int) (i65 : Int) (i66 : Int) (i67 : Int) (i68 : Int) (i69 : Int) (i70 : Int) (i71 : Int) (i72 : Int) (i73 : Int) (i74 : Int)  (R : Type) (k : Ex → St → Option R) :
    joinK T G0 (ctrOf of15_Γ) (normJ of15_cfg) (of15_Λ n) (codeAt [1, 1, 1, 1] (bodyOf Tryd.f34)) (buildSt ⟨sparse .undef [(1, (.val .fs)), (2, (.val (.int .i64))), (6, (.ref 0 0)), (7, (.val (.fn 16 []))), (8, (.ref 1 0))] 0 127, [(.box [(.val (.int .i64)), (.val (.int .i64)), (.val (.int .i64)), (.val (.int .i64)), (.val (.int .i64)), (.val (.int .i64)), (.val (.int .i64)), (.val (.int .i64))]), (.pbox (.agg [(.int .i64), (.int .i64), (.int .i64), (.int .i64), (.int .i64), (.int .i64), (.int .i64), (.int .i64)]) 8)], []⟩ [.rows l57, .int how58, .int i59, .int i60, .int i61, .int i62, .int i63, .int i64, .int i65, .int i66, .int i67, .int i68, .int i69, .int i70, .int i71, .int i72, .int i73, .int i74]) R k = of15_J22 n [.rows l57, .int how58, .int i59, .int i60, .int i61, .int i62, .int i63, .int i64, .int i65, .int i66, .int i67, .int i68, .int i69, .int i70, .int i71, .int i72, .int i73, .int i74] R k := by kernel_rfl
theorem of15_stepq7 (n : Nat) (l107 : List (List PV)) (how108 : Int) (i109 : Int) (b110 : Bool) (i111 : Int) (i112 : Int) (i113 : Int) (i114 : Int) (i115 : Int) (i116 : Int) (i117 : Int) (i118 : Int) (i119 : Int) (i120 : Int) (i121 : Int) (i122 : Int) (i123 : Int) (i124 : Int) (i125 : Int) (i126 : Int)  (R : Type) (k : Ex → St → Option R) :
    joinK T G0 (ctrOf of15_Γ) (normJ of15_cfg) (of15_Λ n) (codeAt [1, 1, 1, 0, 1, 0, 1] (bodyOf Tryd.f34)) (buildSt ⟨sparse .undef [(1, (.val .fs)), (2, (.val (.int .i64))), (6, (.ref 0 0)), (7, (.val (.fn 16 []))), (8, (.ref 1 0)), (15, (.val (.int .i64))), (16, (.val .bool))] 0 127, [(.box [(.val (.int .i64)), (.val (.int .i64)), (.val (.int .i64)), (.val (.int .i64)), (.val (.int .i64)), (.val (.int .i64)), (.val (.int .i64)), (.val (.int .i64))]), (.pbox (.agg [(.int .i64), (.int .i64), (.int .i64), (.int .i64), (.int .i64), (.int .i64), (.int .i64), (.int .i64)]) 8)], []⟩ [.rows l107, .int how108, .int i109, .bool b110, .int i111, .int i112, .int i113, .int i114, .int i115, .int i116, .int i117, .int i118, .int i119, .int i120, .int i121, .int i122, .int i123, .int i124, .int i125, .int i126]) R k = of15_J7 n [.rows l107, .int how108, .int i109, .bool b110, .int i111, .int i112, .int i113, .int i114, .int i115, .int i116, .int i117, .int i118, .int i119, .int i120, .int i121, .int i122, .int i123, .int i124, .int i125, .int i126] R k := by kernel_rfl
theorem of15_stepq13 (n : Nat) (l185 : List (List PV)) (how186 : Int) (i187 : Int) (b188 : Bool) (i189 : Int) (i190 : Int) (i191 : Int) (i192 : Int) (i193 : Int) (i194 : Int) (i195 : Int) (i196 : Int) (i197 : Int) (i198 : Int) (i199 : Int) (i200 : Int) (i201 : Int) (i202 : Int) (i203 : Int) (i204 : Int)  (R : Type) (k : Ex → St → Option R) :
    joinK T G0 (ctrOf of15_Γ) (normJ of15_cfg) (of15_Λ n) (codeAt [1, 1, 1, 0, 1, 0, 1, 1, 1] (bodyOf Tryd.f34)) (buildSt ⟨sparse .undef [(1, (.val .fs)), (2, (.val (.int .i64))), (6, (.ref 0 0)), (7, (.val (.fn 16 []))), (8, (.ref 1 0)), (15, (.val (.int .i64))), (34, (.val .bool))] 0 127, [(.box [(.val (.int .i64)), (.val (.int .i64)), (.val (.int .i64)), (.val (.int .i64)), (.val (.int .i64)), (.val (.int .i64)), (.val (.int .i64)), (.val (.int .i64))]), (.pbox (.agg [(.int .i64), (.int .i64), (.int .i64), (.int .i64), (.int .i64), (.int .i64), (.int .i64), (.int .i64)]) 8)], []⟩ [.rows l185, .int how186, .int i187, .bool b188, .int i189, .int i190, .int i191, .int i192, .int i193, .int i194, .int i195, .int i196, .int i197, .int i198, .int i199, .int i200, .int i201, .int i202, .int i203, .int i204]) R k = of15_J13 n [.rows l185, .int how186, .int i187, .bool b188, .int i189, .int i190, .int i191, .int i192, .int i193, .int i194, .int i195, .int i196, .int i197, .int i198, .int i199, .int i200, .int i201, .int i202, .int i203, .int i204] R k := by kernel_rfl
theorem of15_stepq17 (n : Nat) (l260 : List (List PV)) (how261 : Int) (i262 : Int) (b263 : Bool) (i264 : Int) (i265 : Int) (i266 : Int) (i267 : Int) (i268 : Int) (i269 : Int) (i270 : Int) (i271 : Int) (i272 : Int) (i273 : Int) (i274 : Int) (i275 : Int) (i276 : Int) (i277 : Int) (i278 : Int) (i279 : Int)  (R : Type) (k : Ex → St → Option R) :
    joinK T G0 (ctrOf of15_Γ) (normJ of15_cfg) (of15_Λ n) (codeAt [1, 1, 1, 0, 1, 0, 1, 1, 1, 1, 1] (bodyOf Tryd.f34)) (buildSt ⟨sparse .undef [(1, (.val .fs)), (2, (.val (.int .i64))), (6, (.ref 0 0)), (7, (.val (.fn 16 []))), (8, (.ref 1 0)), (15, (.val (.int .i64))), (41, (.val .bool))] 0 127, [(.box [(.val (.int .i64)), (.val (.int .i64)), (.val (.int .i64)), (.val (.int .i64)), (.val (.int .i64)), (.val (.int .i64)), (.val (.int .i64)), (.val (.int .i64))]), (.pbox (.agg [(.int .i64), (.int .i64), (.int .i64), (.int .i64), (.int .i64), (.int .i64), (.int .i64), (.int .i64)]) 8)], []⟩ [.rows l260, .int how261, .int i262, .bool b263, .int i264, .int i265, .int i266, .int i267, .int i268, .int i269, .int i270, .int i271, .int i272, .int i273, .int i274, .int i275, .int i276, .int i277, .int i278, .int i279]) R k = of15_J17 n [.rows l260, .int how261, .int i262, .bool b263, .int i264, .int i265, .int i266, .int i267, .int i268, .int i269, .int i270, .int i271, .int i272, .int i273, .int i274, .int i275, .int i276, .int i277, .int i278, .int i279] R k := by kernel_rfl
theorem of15_stepq23 (n : Nat) (l286 : List (List PV)) (how287 : Int) (b288 : Bool) (i289 : Int) (i290 : Int) (i291 : Int) (i292 : Int) (i293 : Int) (i294 : Int) (i295 : Int) (i296 : Int) (i297 : Int) (i298 : Int) (i299 : Int) (i300 : Int) (i301 : Int) (i302 : Int) (i303 : Int) (i304 : Int)  (R : Type) (k : Ex → St → Option R) :
    joinK T G0 (ctrOf of15_Γ) (normJ of15_cfg) (of15_Λ n) (codeAt [1, 1, 1, 1, 0, 1] (bodyOf Tryd.f34)) (buildSt ⟨sparse .undef [(1, (.val .fs)), (2, (.val (.int .i64))), (6, (.ref 0 0)), (7, (.val (.fn 16 []))), (8, (.ref 1 0)), (75, (.val .bool))] 0 127, [(.box [(.val (.int .i64)), (.val (.int .i64)), (.val (.int .i64)), (.val (.int .i64)), (.val (.int .i64)), (.val (.int .i64)), (.val (.int .i64)), (.val (.int .i64))]), (.pbox (.agg [(.int .i64), (.int .i64), (.int .i64), (.int .i64), (.int .i64), (.int .i64), (.int .i64), (.int .i64)]) 8)], []⟩ [.rows l286, .int how287, .bool b288, .int i289, .int i290, .int i291, .int i292, .int i293, .int i294, .int i295, .int i296, .int i297, .int i298, .int i299, .int i300, .int i301, .int i302, .int i303, .int i304]) R k = of15_J23 n [.rows l286, .int how287, .bool b288, .int i289, .int i290, .int i291, .int i292, .int i293, .int i294, .int i295, .int i296, .int i297, .int i298, .int i299, .int i300, .int i301, .int i302, .int i303, .int i304] R k := by kernel_rfl
theorem of15_eq (op1 : Int) (l2 : List (List PV)) (how3 : Int) :
    funK T G0 (ctrOf of15_Γ) (of15_Λ 0) .d true [none, none, none] (funOf Tryd.f34) [(PV.int .i64 op1), (PV.fs l2), (PV.int .i64 how3)] = of15_b  op1 l2 how3 (fun a0 a1 a2 a3 a4 a5 a6 a7 => some (of15_E (a0, a1, a2, a3, a4, a5, a6, a7))) := by kernel_rfl
theorem of15_inv {ps : List PV} {y : Int × Int × Int × Int × Int × Int × Int × Int} (h : of15_D ps = some y) : ∃ (op1 : Int) (l2 : List (List PV)) (how3 : Int), ps = [(PV.int .i64 op1), (PV.fs l2), (PV.int .i64 how3)] := by
  unfold of15_D at h
  split at h
  · exact ⟨_, _, _, rfl⟩
  · cases h
theorem of15_loops : loopsOf (bodyOf Tryd.f34) = [] := by kernel_rfl
theorem of15_joins : (joinsOf (bodyOf Tryd.f34)).filter of15_on = [codeAt [1, 1, 1, 1] (bodyOf Tryd.f34), codeAt [1, 1, 1, 0, 1, 0, 1] (bodyOf Tryd.f34), codeAt [1, 1, 1, 0, 1, 0, 1, 1, 1] (bodyOf Tryd.f34), codeAt [1, 1, 1, 0, 1, 0, 1, 1, 1, 1, 1] (bodyOf Tryd.f34), codeAt [1, 1, 1, 1, 0, 1] (bodyOf Tryd.f34)] := by kernel_rfl
theorem of15_holds (hΓ : HoldsAll Tryd.prog G0 of15_Γ) (hok : ∀ (op1 : Int) (l2 : List (List PV)) (how3 : Int) (y : Int × Int × Int × Int × Int × Int × Int × Int), sOf15 op1 l2 how3 = some y → ∀ (R : Type) (k : Int → Int → Int → Int → Int → Int → Int → Int → Option R), of15_b  op1 l2 how3 k = k y.1 y.2.1 y.2.2.1 y.2.2.2.1 y.2.2.2.2.1 y.2.2.2.2.2.1 y.2.2.2.2.2.2.1 y.2.2.2.2.2.2.2) : Holds Tryd.prog G0 34 of15_C := by
  refine fun_pat mixed tOk (ctrOf_ok hΓ) Tryd.func34 rfl rfl rfl rfl (F := funOf Tryd.f34) (normBy_ok of15_cfg) (pat := of15_pat) (L := of15_L) (normJ_ok of15_cfg) (on := of15_on) (patj := of15_patj) (J := of15_J) (fun c hc ls R k => ?_) (fun c hc p hp m ls R k r h => ?_) (fun c hc p hp m ls R k r h => ?_) (fun ps x h => ?_)
  · rw [show (funOf Tryd.f34).code = bodyOf Tryd.f34 from rfl, of15_loops] at hc
    cases hc
  · rw [show (funOf Tryd.f34).code = bodyOf Tryd.f34 from rfl, of15_loops] at hc
    cases hc
  · rw [show (funOf Tryd.f34).code = bodyOf Tryd.f34 from rfl, of15_joins] at hc
    simp only [List.mem_cons, List.not_mem_nil, or_false] at hc
    rcases hc with rfl | rfl | rfl | rfl | rfl
    · have hp' : p = ⟨sparse .undef [(1, (.val .fs)), (2, (.val (.int .i64))), (6, (.ref 0 0)), (7, (.val (.fn 16 []))), (8, (.ref 1 0))] 0 127, [(.box [(.val (.int .i64)), (.val (.int .i64)), (.val (.int .i64)), (.val (.int .i64)), (.val (.int .i64)), (.val (.int .i64)), (.val (.int .i64)), (.val (.int .i64))]), (.pbox (.agg [(.int .i64), (.int .i64), (.int .i64), (.int .i64), (.int .i64), (.int .i64), (.int .i64), (.int .i64)]) 8)], []⟩ := (Option.some.inj (hp : some _ = some p)).symm
      subst hp'
      change of15_J22 m ls R k = some r at h
      have h' := h
      unfold of15_J22 at h'
      split at h'
      · exact (of15_stepq22 m _ _ _ _ _ _ _ _ _ _ _ _ _ _ _ _ _ _ R k).trans h
      · cases h'
    · have hp' : p = ⟨sparse .undef [(1, (.val .fs)), (2, (.val (.int .i64))), (6, (.ref 0 0)), (7, (.val (.fn 16 []))), (8, (.ref 1 0)), (15, (.val (.int .i64))), (16, (.val .bool))] 0 127, [(.box [(.val (.int .i64)), (.val (.int .i64)), (.val (.int .i64)), (.val (.int .i64)), (.val (.int .i64)), (.val (.int .i64)), (.val (.int .i64)), (.val (.int .i64))]), (.pbox (.agg [(.int .i64), (.int .i64), (.int .i64), (.int .i64), (.int .i64), (.int .i64), (.int .i64), (.int .i64)]) 8)], []⟩ := (Option.some.inj (hp : some _ = some p)).symm
      subst hp'
      change of15_J7 m ls R k = some r at h
      have h' := h
      unfold of15_J7 at h'
      split at h'
      · exact (of15_stepq7 m _ _ _ _ _ _ _ _ _ _ _ _ _ _ _ _ _ _ _ _ R k).trans h
      · cases h'
    · have hp' : p = ⟨sparse .undef [(1, (.val .fs)), (2, (.val (.int .i64))), (6, (.ref 0 0)), (7, (.val (.fn 16 []))), (8, (.ref 1 0)), (15, (.val (.int .i64))), (34, (.val .bool))] 0 127, [(.box [(.val (.int .i64)), (.val (.int .i64)), (.val (.int .i64)), (.val (.int .i64)), (.val (.int .i64)), (.val (.int .i64)), (.val (.int .i64)), (.val (.int .i64))]), (.pbox (.agg [(.int .i64), (.int .i64), (.int .i64), (.int .i64), (.int .i64), (.int .i64), (.int .i64), (.int .i64)]) 8)], []⟩ := (Option.some.inj (hp : some _ = some p)).symm
      subst hp'
      change of15_J13 m ls R k = some r at h
      have h' := h
      unfold of15_J13 at h'
      split at h'
      · exact (of15_stepq13 m _ _ _ _ _ _ _ _ _ _ _ _ _ _ _ _ _ _ _ _ R k).trans h
      · cases h'
    · have hp' : p = ⟨sparse .undef [(1, (.val .fs)), (2, (.val (.int .i64))), (6, (.ref 0 0)), (7, (.val (.fn 16 []))), (8, (.ref 1 0)), (15, (.val (.int .i64))), (41, (.val .bool))] 0 127, [(.box [(.val (.int .i64)), (.val (.int .i64)), (.val (.int .i64)), (.val (.int .i64)), (.val (.int .i64)), (.val (.int .i64)), (.val (.int .i64)), (.val (.int .i64))]), (.pbox (.agg [(.int .i64), (.int .i64), (.int .i64), (.int .i64), (.int .i64), (.int .i64), (.int .i64), (.int .i64)]) 8)], []⟩ := (Option.some.inj (hp : some _ = some p)).symm
      subst hp'
      change of15_J17 m ls R k = some r at h
      have h' := h
      unfold of15_J17 at h'
      split at h'
      · exact (of15_stepq17 m _ _ _ _ _ _ _ _ _ _ _ _ _ _ _ _ _ _ _ _ R k).trans h
      · cases h'
    · have hp' : p = ⟨sparse .undef [(1, (.val .fs)), (2, (.val (.int .i64))), (6, (.ref 0 0)), (7, (.val (.fn 16 []))), (8, (.ref 1 0)), (75, (.val .bool))] 0 127, [(.box [(.val (.int .i64)), (.val (.int .i64)), (.val (.int .i64)), (.val (.int .i64)), (.val (.int .i64)), (.val (.int .i64)), (.val (.int .i64)), (.val (.int .i64))]), (.pbox (.agg [(.int .i64), (.int .i64), (.int .i64), (.int .i64), (.int .i64), (.int .i64), (.int .i64), (.int .i64)]) 8)], []⟩ := (Option.some.inj (hp : some _ = some p)).symm
      subst hp'
      change of15_J23 m ls R k = some r at h
      have h' := h
      unfold of15_J23 at h'
      split at h'
      · exact (of15_stepq23 m _ _ _ _ _ _ _ _ _ _ _ _ _ _ _ _ _ _ _ R k).trans h
      · cases h'
  · obtain ⟨y, hy, hx⟩ := bind_inv h
    cases hx
    obtain ⟨op1, l2, how3, rfl⟩ := of15_inv hy
    exact ⟨0, (of15_eq op1 l2 how3).trans (hok op1 l2 how3 y hy _ _)⟩

/-! ## drayman/draymanlaw15.CmdForms -/
def cmdForms_l14 {R : Type} : Nat → Int → Int → Int → Int → Int → Int → Int → Int → Int → Int → List (List PV) → (Bool → Option R) → (Int → Int → Int → Int → Int → Int → Int → Int → Option R) → Option R
  | 0, _, _, _, _, _, _, _, _, _, _, _, _, _ => none
  | n + 1, i34, i35, i36, i37, i38, i39, i40, i41, i42, i43, es44, k0, k1 =>
    cond (decide (i35 < i34)) (
      if 0 ≤ i35 ∧ i35 < (es44.length : Int) then
        Option.bind (es44[(Int.toNat i35)]?) fun e45 =>
        Option.bind (subAgg e45 0 8) fun p46 =>
        if (PV.isAgg p46 8) = true then
          Option.bind (cPrint_D [p46]) fun y47 =>
          cond (y47.2 != (1 : Int)) (
            k0 false) (
            cond (!(ByteArray.toList y47.1 == ByteArray.toList (ByteArray.mk #[]))) (
              k0 false) (
              cmdForms_l14 n i34 (IntKind.i64.wrap (i35 + (1 : Int))) i36 i37 i38 i39 i40 i41 i42 i43 es44 k0 k1))
        else none
      else none) (
      k1 i36 i37 i38 i39 i40 i41 i42 i43)
def cmdForms_l2 {R : Type} : Nat → Int → Int → Int → List (List PV) → (Bool → Option R) → (Int → Option R) → Option R
  | 0, _, _, _, _, _, _ => none
  | n + 1, n21, i22, i23, es24, k0, k1 =>
    cond (decide (i23 < i22)) (
      if 0 ≤ i23 ∧ i23 < (es24.length : Int) then
        Option.bind (es24[(Int.toNat i23)]?) fun e25 =>
        Option.bind (subAgg e25 0 9) fun p26 =>
        if (PV.isAgg p26 9) = true then
          Option.bind ((PV.cells p26)[0]?) fun c27 =>
          Option.bind (PV.asS c27) fun s28 =>
          Option.bind (sCParse s28) fun y29 =>
          Option.bind (cPrint_D [(PV.agg (((PV.cells p26).drop 1).take 8))]) fun y30 =>
          cond (y29.2.2.2.2.2.2.2.2 != (0 : Int)) (
            k0 false) (
            Option.bind (eqvs T [(3, 0), (3, 1), (3, 2), (3, 3), (3, 4), (3, 5), (3, 6), (3, 7)] [(PV.int .i64 y29.1), (PV.int .i64 y29.2.1), (PV.int .i64 y29.2.2.1), (PV.int .i64 y29.2.2.2.1), (PV.int .i64 y29.2.2.2.2.1), (PV.int .i64 y29.2.2.2.2.2.1), (PV.int .i64 y29.2.2.2.2.2.2.1), (PV.int .i64 y29.2.2.2.2.2.2.2.1)] (((PV.cells p26).drop 1).take 8)) fun b31 =>
            cond (!b31) (
              k0 false) (
              cond (y30.2 != (0 : Int)) (
                k0 false) (
                Option.bind ((PV.cells p26)[0]?) fun c32 =>
                Option.bind (PV.asS c32) fun s33 =>
                cond (!(ByteArray.toList y30.1 == ByteArray.toList s33)) (
                  k0 false) (
                  cmdForms_l2 n n21 i22 (IntKind.i64.wrap (i23 + (1 : Int))) es24 k0 k1))))
        else none
      else none) (
      k1 n21)
def cmdForms_b {R : Type} (n : Nat) (n1 : Int) (k : Bool → Option R) : Option R :=
  cmdForms_l2 n n1 15 0 [[(PV.str (ByteArray.mk #[97, 100, 100, 32, 49, 32, 48, 32, 50])), (PV.int .i64 1), (PV.int .i64 1), (PV.int .i64 0), (PV.int .i64 2), (PV.int .i64 (-1)), (PV.int .i64 0), (PV.int .i64 0), (PV.int .i64 (-1))], [(PV.str (ByteArray.mk #[97, 100, 100, 32, 49, 32, 48, 32, 50, 32, 48])), (PV.int .i64 1), (PV.int .i64 1), (PV.int .i64 0), (PV.int .i64 2), (PV.int .i64 0), (PV.int .i64 0), (PV.int .i64 0), (PV.int .i64 (-1))], [(PV.str (ByteArray.mk #[100, 101, 108, 32, 57, 57, 57])), (PV.int .i64 2), (PV.int .i64 999), (PV.int .i64 0), (PV.int .i64 0), (PV.int .i64 (-1)), (PV.int .i64 0), (PV.int .i64 0), (PV.int .i64 (-1))], [(PV.str (ByteArray.mk #[109, 111, 118, 32, 51, 32, 50, 32, 49])), (PV.int .i64 3), (PV.int .i64 3), (PV.int .i64 2), (PV.int .i64 1), (PV.int .i64 (-1)), (PV.int .i64 0), (PV.int .i64 0), (PV.int .i64 (-1))], [(PV.str (ByteArray.mk #[108, 111, 99, 107, 32, 48])), (PV.int .i64 4), (PV.int .i64 0), (PV.int .i64 0), (PV.int .i64 0), (PV.int .i64 (-1)), (PV.int .i64 0), (PV.int .i64 0), (PV.int .i64 (-1))], [(PV.str (ByteArray.mk #[102, 114, 101, 101, 32, 52])), (PV.int .i64 5), (PV.int .i64 4), (PV.int .i64 0), (PV.int .i64 0), (PV.int .i64 (-1)), (PV.int .i64 0), (PV.int .i64 0), (PV.int .i64 (-1))], [(PV.str (ByteArray.mk #[105, 99, 101, 32, 49])), (PV.int .i64 6), (PV.int .i64 0), (PV.int .i64 1), (PV.int .i64 0), (PV.int .i64 (-1)), (PV.int .i64 0), (PV.int .i64 0), (PV.int .i64 (-1))], [(PV.str (ByteArray.mk #[116, 104, 97, 119, 32, 49])), (PV.int .i64 7), (PV.int .i64 0), (PV.int .i64 1), (PV.int .i64 0), (PV.int .i64 (-1)), (PV.int .i64 0), (PV.int .i64 0), (PV.int .i64 (-1))], [(PV.str (ByteArray.mk #[111, 112, 116, 32, 50, 48, 32, 48, 32, 49])), (PV.int .i64 8), (PV.int .i64 0), (PV.int .i64 1), (PV.int .i64 0), (PV.int .i64 (-1)), (PV.int .i64 20), (PV.int .i64 0), (PV.int .i64 (-1))], [(PV.str (ByteArray.mk #[111, 112, 116, 32, 49, 32, 57, 57, 57, 32, 49, 32, 48])), (PV.int .i64 8), (PV.int .i64 0), (PV.int .i64 1), (PV.int .i64 0), (PV.int .i64 (-1)), (PV.int .i64 1), (PV.int .i64 999), (PV.int .i64 0)], [(PV.str (ByteArray.mk #[117, 110, 100, 111])), (PV.int .i64 9), (PV.int .i64 0), (PV.int .i64 0), (PV.int .i64 0), (PV.int .i64 (-1)), (PV.int .i64 0), (PV.int .i64 0), (PV.int .i64 (-1))], [(PV.str (ByteArray.mk #[114, 101, 100, 111])), (PV.int .i64 10), (PV.int .i64 0), (PV.int .i64 0), (PV.int .i64 0), (PV.int .i64 (-1)), (PV.int .i64 0), (PV.int .i64 0), (PV.int .i64 (-1))], [(PV.str (ByteArray.mk #[115, 104, 111, 119, 32, 50])), (PV.int .i64 11), (PV.int .i64 0), (PV.int .i64 2), (PV.int .i64 0), (PV.int .i64 (-1)), (PV.int .i64 0), (PV.int .i64 0), (PV.int .i64 (-1))], [(PV.str (ByteArray.mk #[112, 111, 111, 108])), (PV.int .i64 12), (PV.int .i64 0), (PV.int .i64 0), (PV.int .i64 0), (PV.int .i64 (-1)), (PV.int .i64 0), (PV.int .i64 0), (PV.int .i64 (-1))], [(PV.str (ByteArray.mk #[99, 111, 115, 116])), (PV.int .i64 13), (PV.int .i64 0), (PV.int .i64 0), (PV.int .i64 0), (PV.int .i64 (-1)), (PV.int .i64 0), (PV.int .i64 0), (PV.int .i64 (-1))]] k
    (fun (n3 : Int) =>
      Option.bind (within_d n3 25) fun y4 =>
      if 0 ≤ y4 ∧ y4 < (25 : Int) then
        Option.bind (([[(PV.str (ByteArray.mk #[]))], [(PV.str (ByteArray.mk #[32]))], [(PV.str (ByteArray.mk #[97, 100, 100]))], [(PV.str (ByteArray.mk #[97, 100, 100, 32, 49]))], [(PV.str (ByteArray.mk #[97, 100, 100, 32, 49, 32, 50]))], [(PV.str (ByteArray.mk #[97, 100, 100, 32, 49, 32, 50, 32, 51, 32, 52, 32, 53]))], [(PV.str (ByteArray.mk #[97, 100, 100, 32, 49, 48, 48, 48, 32, 48, 32, 48]))], [(PV.str (ByteArray.mk #[97, 100, 100, 32, 45, 49, 32, 48, 32, 48]))], [(PV.str (ByteArray.mk #[97, 100, 100, 32, 48, 49, 32, 48, 32, 48]))], [(PV.str (ByteArray.mk #[97, 100, 100, 32, 97, 32, 48, 32, 48]))], [(PV.str (ByteArray.mk #[65, 100, 100, 32, 49, 32, 48, 32, 48]))], [(PV.str (ByteArray.mk #[97, 100, 100, 49, 32, 48, 32, 48]))], [(PV.str (ByteArray.mk #[100, 101, 108]))], [(PV.str (ByteArray.mk #[100, 101, 108, 32, 49, 32, 50]))], [(PV.str (ByteArray.mk #[111, 112, 116, 32, 48, 32, 49, 32, 49]))], [(PV.str (ByteArray.mk #[111, 112, 116, 32, 50, 49, 32, 49, 32, 49]))], [(PV.str (ByteArray.mk #[111, 112, 116, 32, 49, 32, 49]))], [(PV.str (ByteArray.mk #[111, 112, 116, 32, 49, 32, 49, 32, 49, 32, 49, 32, 49]))], [(PV.str (ByteArray.mk #[117, 110, 100, 111, 32, 49]))], [(PV.str (ByteArray.mk #[112, 111, 111, 108, 32, 49]))], [(PV.str (ByteArray.mk #[99, 111, 115, 116, 32, 48]))], [(PV.str (ByteArray.mk #[115, 104, 111, 119]))], [(PV.str (ByteArray.mk #[97, 100, 100, 9, 49, 32, 48, 32, 48]))], [(PV.str (ByteArray.mk #[97, 100, 100, 32, 49, 32, 48, 32, 48, 10]))], [(PV.str (ByteArray.mk #[113, 117, 105, 116]))]] : List (List PV))[(Int.toNat y4)]?) fun e5 =>
        Option.bind (e5[0]?) fun c6 =>
        Option.bind (PV.asS c6) fun s7 =>
        Option.bind (sCParse s7) fun y8 =>
        cond (y8.2.2.2.2.2.2.2.2 != (2 : Int)) (
          k false) (
          cond (!((y8.1 == (0 : Int)) && ((y8.2.1 == (0 : Int)) && ((y8.2.2.1 == (0 : Int)) && ((y8.2.2.2.1 == (0 : Int)) && ((y8.2.2.2.2.1 == (0 : Int)) && ((y8.2.2.2.2.2.1 == (0 : Int)) && ((y8.2.2.2.2.2.2.1 == (0 : Int)) && ((y8.2.2.2.2.2.2.2.1 == (0 : Int)) && true))))))))) (
            k false) (
            cmdForms_l14 n 13 0 y8.1 y8.2.1 y8.2.2.1 y8.2.2.2.1 y8.2.2.2.2.1 y8.2.2.2.2.2.1 y8.2.2.2.2.2.2.1 y8.2.2.2.2.2.2.2.1 [[(PV.int .i64 0), (PV.int .i64 0), (PV.int .i64 0), (PV.int .i64 0), (PV.int .i64 0), (PV.int .i64 0), (PV.int .i64 0), (PV.int .i64 0)], [(PV.int .i64 14), (PV.int .i64 0), (PV.int .i64 0), (PV.int .i64 0), (PV.int .i64 (-1)), (PV.int .i64 0), (PV.int .i64 0), (PV.int .i64 (-1))], [(PV.int .i64 12), (PV.int .i64 0), (PV.int .i64 0), (PV.int .i64 0), (PV.int .i64 0), (PV.int .i64 0), (PV.int .i64 0), (PV.int .i64 0)], [(PV.int .i64 12), (PV.int .i64 0), (PV.int .i64 0), (PV.int .i64 0), (PV.int .i64 (-1)), (PV.int .i64 0), (PV.int .i64 0), (PV.int .i64 0)], [(PV.int .i64 12), (PV.int .i64 1), (PV.int .i64 0), (PV.int .i64 0), (PV.int .i64 (-1)), (PV.int .i64 0), (PV.int .i64 0), (PV.int .i64 (-1))], [(PV.int .i64 2), (PV.int .i64 1000), (PV.int .i64 0), (PV.int .i64 0), (PV.int .i64 (-1)), (PV.int .i64 0), (PV.int .i64 0), (PV.int .i64 (-1))], [(PV.int .i64 2), (PV.int .i64 (-1)), (PV.int .i64 0), (PV.int .i64 0), (PV.int .i64 (-1)), (PV.int .i64 0), (PV.int .i64 0), (PV.int .i64 (-1))], [(PV.int .i64 1), (PV.int .i64 0), (PV.int .i64 0), (PV.int .i64 0), (PV.int .i64 (-2)), (PV.int .i64 0), (PV.int .i64 0), (PV.int .i64 (-1))], [(PV.int .i64 1), (PV.int .i64 0), (PV.int .i64 0), (PV.int .i64 0), (PV.int .i64 1000), (PV.int .i64 0), (PV.int .i64 0), (PV.int .i64 (-1))], [(PV.int .i64 8), (PV.int .i64 0), (PV.int .i64 0), (PV.int .i64 0), (PV.int .i64 (-1)), (PV.int .i64 0), (PV.int .i64 0), (PV.int .i64 (-1))], [(PV.int .i64 8), (PV.int .i64 0), (PV.int .i64 0), (PV.int .i64 0), (PV.int .i64 (-1)), (PV.int .i64 21), (PV.int .i64 0), (PV.int .i64 (-1))], [(PV.int .i64 8), (PV.int .i64 0), (PV.int .i64 0), (PV.int .i64 0), (PV.int .i64 0), (PV.int .i64 1), (PV.int .i64 0), (PV.int .i64 (-1))], [(PV.int .i64 2), (PV.int .i64 0), (PV.int .i64 1), (PV.int .i64 0), (PV.int .i64 (-1)), (PV.int .i64 0), (PV.int .i64 0), (PV.int .i64 (-1))]] k
              (fun (i10 : Int) (i11 : Int) (i12 : Int) (i13 : Int) (i14 : Int) (i15 : Int) (i16 : Int) (i17 : Int) =>
                Option.bind (sCPrint 9 0 0 0 (-1) 0 0 (-1)) fun y18 =>
                Option.bind (sCParse (ByteArray.mk #[32, 32, 32, 97, 100, 100, 32, 32, 49, 32, 48, 32, 32, 32, 50, 32])) fun y19 =>
                cond (y18.2 == (0 : Int)) (
                  cond (ByteArray.toList y18.1 == ByteArray.toList (ByteArray.mk #[117, 110, 100, 111])) (
                    cond (y19.2.2.2.2.2.2.2.2 == (0 : Int)) (
                      cond (y19.2.2.2.1 == (2 : Int)) (
                        Option.bind (wakes15_d) fun y20 =>
                        k y20) (
                        k false)) (
                      k false)) (
                    k false)) (
                  k false))))
      else none)
def cmdForms_E (y : Bool) : PV × List PV := ((PV.bool y), [])
def cmdForms_D : List PV → Option (Bool)
  | [(PV.int .i64 n1)] => sCmdForms n1
  | _ => none
def cmdForms_Γ : List (Nat × Cal) := [(16, .ctr within_C), (31, .ctr cParse_C), (32, .ctr cPrint_C), (33, .ctr wakes15_C)]
def cmdForms_C : Ctr := ⟨[none], Bool, cmdForms_D, cmdForms_E, true, .d⟩
def cmdForms_cfg : List (Nat × LC) := [(2, ⟨[0, 48, 49, 50], [], [], []⟩),
  (2000002, ⟨[2], [], [], []⟩),
  (1002000, ⟨[0], [], [], []⟩),
  (14, ⟨[10, 117, 118, 119], [], [], []⟩),
  (2000014, ⟨[2], [], [], []⟩),
  (1014002, ⟨[10], [], [], []⟩)]
def cmdForms_pat : Nat → Option SP
  | 14 => some ⟨sparse .undef [(10, (.ref 0 0)), (117, (.ow 1)), (118, (.val (.int .i64))), (119, (.val (.int .i64)))] 0 162, [(.pbox (.agg [(.int .i64), (.int .i64), (.int .i64), (.int .i64), (.int .i64), (.int .i64), (.int .i64), (.int .i64)]) 8), (.row 8)], []⟩
  | 2 => some ⟨sparse .undef [(0, (.val (.int .i64))), (48, (.ow 0)), (49, (.val (.int .i64))), (50, (.val (.int .i64)))] 0 162, [(.row 9)], []⟩
  | _ => none
def cmdForms_patj : Nat → Option SP
  | _ => none
def cmdForms_L14 (n : Nat) (ls : List Leaf) (R : Type) (k : Ex → St → Option R) : Option R :=
  match ls with
  | [.int i34, .int i35, .int i36, .int i37, .int i38, .int i39, .int i40, .int i41, .int i42, .int i43, .rows es44] => cmdForms_l14 n i34 i35 i36 i37 i38 i39 i40 i41 i42 i43 es44 (fun y1048 => k .ret ⟨sparse .undef [(2, (TV.val (PV.bool y1048)))] 0 162, [], []⟩)
      (fun y1049 y1050 y1051 y1052 y1053 y1054 y1055 y1056 => k (.exit 2) ⟨sparse .undef [(10, (TV.ref 0 0))] 0 162, [(Ob.pbox (PV.agg [(PV.int .i64 y1049), (PV.int .i64 y1050), (PV.int .i64 y1051), (PV.int .i64 y1052), (PV.int .i64 y1053), (PV.int .i64 y1054), (PV.int .i64 y1055), (PV.int .i64 y1056)]) 8)], []⟩)
  | _ => none
def cmdForms_L2 (n : Nat) (ls : List Leaf) (R : Type) (k : Ex → St → Option R) : Option R :=
  match ls with
  | [.int n21, .int i22, .int i23, .rows es24] => cmdForms_l2 n n21 i22 i23 es24 (fun y2057 => k .ret ⟨sparse .undef [(2, (TV.val (PV.bool y2057)))] 0 162, [], []⟩)
      (fun y2058 => k (.exit 0) ⟨sparse .undef [(0, (TV.val (PV.int .i64 y2058)))] 0 162, [], []⟩)
  | _ => none
def cmdForms_L (n key : Nat) (ls : List Leaf) (R : Type) (k : Ex → St → Option R) : Option R :=
  match key with
  | 14 => cmdForms_L14 n ls R k
  | 2 => cmdForms_L2 n ls R k
  | _ => none
def cmdForms_J (n key : Nat) (ls : List Leaf) (R : Type) (k : Ex → St → Option R) : Option R :=
  match key with
  | _ => none
def cmdForms_on : Code → Bool := fun _ => false
def cmdForms_Λ : Nat → Loops := patL (normBy cmdForms_cfg) cmdForms_pat cmdForms_L (normJ cmdForms_cfg) cmdForms_on cmdForms_patj cmdForms_J
theorem cmdForms_step2 (n : Nat) (n21 : Int) (i22 : Int) (i23 : Int) (es24 : List (List PV))  (R : Type) (k : Ex → St → Option R) :
    roundK T G0 (ctrOf cmdForms_Γ) (normBy cmdForms_cfg) (cmdForms_Λ n) (codeAt [1, 0, 1, 0, 0] (bodyOf Tryd.f11)) (buildSt ⟨sparse .undef [(0, (.val (.int .i64))), (48, (.ow 0)), (49, (.val (.int .i64))), (50, (.val (.int .i64)))] 0 162, [(.row 9)], []⟩ [.int n21, .int i22, .int i23, .rows es24]) R k = cmdForms_L2 (n + 1) [.int n21, .int i22, .int i23, .rows es24] R k := by kernel_rfl
theorem cmdForms_step14 (n : Nat) (i34 : Int) (i35 : Int) (i36 : Int) (i37 : Int) (i38 : Int) (i39 : Int) (i40 : Int) (i41 : Int) (i42 : Int) (i43 : Int) (es44 : List (List PV))  (R : Type) (k : Ex → St → Option R) :
    roundK T G0 (ctrOf cmdForms_Γ) (normBy cmdForms_cfg) (cmdForms_Λ n) (codeAt [1, 1, 1, 1, 1, 0, 1, 0, 0] (bodyOf Tryd.f11)) (buildSt ⟨sparse .undef [(10, (.ref 0 0)), (117, (.ow 1)), (118, (.val (.int .i64))), (119, (.val (.int .i64)))] 0 162, [(.pbox (.agg [(.int .i64), (.int .i64), (.int .i64), (.int .i64), (.int .i64), (.int .i64), (.int .i64), (.int .i64)]) 8), (.row 8)], []⟩ [.int i34, .int i35, .int i36, .int i37, .int i38, .int i39, .int i40, .int i41, .int i42, .int i43, .rows es44]) R k = cmdForms_L14 (n + 1) [.int i34, .int i35, .int i36, .int i37, .int i38, .int i39, .int i40, .int i41, .int i42, .int i43, .rows es44] R k := by kernel_rfl
theorem cmdForms_eq (n : Nat) (n1 : Int) :
    funK T G0 (ctrOf cmdForms_Γ) (cmdForms_Λ n) .d true [none] (funOf Tryd.f11) [(PV.int .i64 n1)] = cmdForms_b n  n1 (fun a0 => some (cmdForms_E a0)) := by kernel_rfl
theorem cmdForms_inv {ps : List PV} {y : Bool} (h : cmdForms_D ps = some y) : ∃ (n1 : Int), ps = [(PV.int .i64 n1)] := by
  unfold cmdForms_D at h
  split at h
  · exact ⟨_, rfl⟩
  · cases h
theorem cmdForms_loops : loopsOf (bodyOf Tryd.f11) = [codeAt [1, 0, 1, 0, 0] (bodyOf Tryd.f11), codeAt [1, 1, 1, 1, 1, 0, 1, 0, 0] (bodyOf Tryd.f11)] := by kernel_rfl
theorem cmdForms_holds (hΓ : HoldsAll Tryd.prog G0 cmdForms_Γ) (hok : ∀ (n1 : Int) (y : Bool), sCmdForms n1 = some y → ∃ n, ∀ (R : Type) (k : Bool → Option R), cmdForms_b n  n1 k = k y) : Holds Tryd.prog G0 11 cmdForms_C := by
  refine fun_pat mixed tOk (ctrOf_ok hΓ) Tryd.func11 rfl rfl rfl rfl (F := funOf Tryd.f11) (normBy_ok cmdForms_cfg) (pat := cmdForms_pat) (L := cmdForms_L) (normJ_ok cmdForms_cfg) (on := cmdForms_on) (patj := cmdForms_patj) (J := cmdForms_J) (fun c hc ls R k => ?_) (fun c hc p hp m ls R k r h => ?_) (fun c hc p hp m ls R k r h => ?_) (fun ps x h => ?_)
  · rw [show (funOf Tryd.f11).code = bodyOf Tryd.f11 from rfl, cmdForms_loops] at hc
    simp only [List.mem_cons, List.not_mem_nil, or_false] at hc
    rcases hc with rfl | rfl
    · show cmdForms_L2 0 ls R k = none
      unfold cmdForms_L2
      split
      · rfl
      · rfl
    · show cmdForms_L14 0 ls R k = none
      unfold cmdForms_L14
      split
      · rfl
      · rfl
  · rw [show (funOf Tryd.f11).code = bodyOf Tryd.f11 from rfl, cmdForms_loops] at hc
    simp only [List.mem_cons, List.not_mem_nil, or_false] at hc
    rcases hc with rfl | rfl
    · have hp' : p = ⟨sparse .undef [(0, (.val (.int .i64))), (48, (.ow 0)), (49, (.val (.int .i64))), (50, (.val (.int .i64)))] 0 162, [(.row 9)], []⟩ := (Option.some.inj (hp : some _ = some p)).symm
      subst hp'
      change cmdForms_L2 (m + 1) ls R k = some r at h
      have h' := h
      unfold cmdForms_L2 at h'
      split at h'
      · exact (cmdForms_step2 m _ _ _ _ R k).trans h
      · cases h'
    · have hp' : p = ⟨sparse .undef [(10, (.ref 0 0)), (117, (.ow 1)), (118, (.val (.int .i64))), (119, (.val (.int .i64)))] 0 162, [(.pbox (.agg [(.int .i64), (.int .i64), (.int .i64), (.int .i64), (.int .i64), (.int .i64), (.int .i64), (.int .i64)]) 8), (.row 8)], []⟩ := (Option.some.inj (hp : some _ = some p)).symm
      subst hp'
      change cmdForms_L14 (m + 1) ls R k = some r at h
      have h' := h
      unfold cmdForms_L14 at h'
      split at h'
      · exact (cmdForms_step14 m _ _ _ _ _ _ _ _ _ _ _ R k).trans h
      · cases h'
  · cases (List.mem_filter.1 hc).2
  · obtain ⟨y, hy, hx⟩ := bind_inv h
    cases hx
    obtain ⟨n1, rfl⟩ := cmdForms_inv hy
    obtain ⟨n, hn⟩ := hok n1 y hy
    exact ⟨n, (cmdForms_eq n n1).trans (hn _ _)⟩

/-! ## drayman/draymanlaw15.CmdBack -/
def cmdBack_l14 {R : Type} : Nat → Int → ByteArray → ByteArray → Int → Int → Int → Int → Int → Int → Int → Int → Int → Int → Int → Int → Int → Int → Int → Int → Int → Int → (Int → ByteArray → ByteArray → Int → Int → Int → Int → Int → Int → Int → Int → Int → Int → Int → Int → Int → Int → Int → Int → Int → Option R) → Option R
  | 0, _, _, _, _, _, _, _, _, _, _, _, _, _, _, _, _, _, _, _, _, _, _ => none
  | n + 1, blanks71, t72, s73, k74, j75, i76, i77, i78, i79, i80, i81, i82, i83, i84, i85, i86, i87, i88, i89, i90, i91, k0 =>
    Option.bind (within_d blanks71 3) fun y92 =>
    cond (decide (j75 < y92)) (
      Option.bind (idx (t72).data.toList k74) fun u93 =>
      cond ((u93.toNat : Int) == (32 : Int)) (
        if (s73).size + ((ByteArray.mk #[32])).size ≤ 140737488355328 then
          cmdBack_l14 n blanks71 t72 (s73 ++ (ByteArray.mk #[32])) k74 (IntKind.i64.wrap (j75 + (1 : Int))) i76 i77 i78 i79 i80 i81 i82 i83 i84 i85 i86 i87 i88 i89 i90 i91 k0
        else none) (
        k0 blanks71 t72 s73 k74 i76 i77 i78 i79 i80 i81 i82 i83 i84 i85 i86 i87 i88 i89 i90 i91)) (
      k0 blanks71 t72 s73 k74 i76 i77 i78 i79 i80 i81 i82 i83 i84 i85 i86 i87 i88 i89 i90 i91)
def cmdBack_l10 {R : Type} : Nat → Int → ByteArray → ByteArray → Int → Int → Int → Int → Int → Int → Int → Int → Int → Int → Int → Int → Int → Int → Int → Int → Int → (ByteArray → ByteArray → Int → Int → Int → Int → Int → Int → Int → Int → Int → Int → Int → Int → Int → Int → Int → Int → Option R) → Option R
  | 0, _, _, _, _, _, _, _, _, _, _, _, _, _, _, _, _, _, _, _, _, _ => none
  | n + 1, blanks31, t32, s33, k34, i35, i36, i37, i38, i39, i40, i41, i42, i43, i44, i45, i46, i47, i48, i49, i50, k0 =>
    cond (decide (k34 < ((t32).size : Int))) (
      if (0 : Int) ≤ k34 ∧ k34 ≤ (IntKind.i64.wrap (k34 + (1 : Int))) ∧ (IntKind.i64.wrap (k34 + (1 : Int))) ≤ ((t32).size : Int) then
        if (s33).size + ((ByteArray.extract t32 (Int.toNat k34) (Int.toNat (IntKind.i64.wrap (k34 + (1 : Int)))))).size ≤ 140737488355328 then
          cmdBack_l14 n blanks31 t32 (s33 ++ (ByteArray.extract t32 (Int.toNat k34) (Int.toNat (IntKind.i64.wrap (k34 + (1 : Int)))))) k34 0 i35 i36 i37 i38 i39 i40 i41 i42 i43 i44 i45 i46 i47 i48 i49 i50
            (fun (blanks51 : Int) (t52 : ByteArray) (s53 : ByteArray) (k54 : Int) (i55 : Int) (i56 : Int) (i57 : Int) (i58 : Int) (i59 : Int) (i60 : Int) (i61 : Int) (i62 : Int) (i63 : Int) (i64 : Int) (i65 : Int) (i66 : Int) (i67 : Int) (i68 : Int) (i69 : Int) (i70 : Int) =>
              cmdBack_l10 n blanks51 t52 s53 (IntKind.i64.wrap (k54 + (1 : Int))) i55 i56 i57 i58 i59 i60 i61 i62 i63 i64 i65 i66 i67 i68 i69 i70 k0)
        else none
      else none) (
      k0 t32 s33 i35 i36 i37 i38 i39 i40 i41 i42 i43 i44 i45 i46 i47 i48 i49 i50)
def cmdBack_b {R : Type} (n : Nat) (op1 : Int) (l2 : List (List PV)) (how3 : Int) (blanks4 : Int) (k : Bool → Option R) : Option R :=
  Option.bind (sOf15 op1 l2 how3) fun y5 =>
  Option.bind (sCPrint y5.1 y5.2.1 y5.2.2.1 y5.2.2.2.1 y5.2.2.2.2.1 y5.2.2.2.2.2.1 y5.2.2.2.2.2.2.1 y5.2.2.2.2.2.2.2) fun y6 =>
  cond (y6.2 != (0 : Int)) (
    cond (ByteArray.toList y6.1 == ByteArray.toList (ByteArray.mk #[])) (
      cond (y6.2 == (1 : Int)) (
        Option.bind (wakes15_d) fun y7 =>
        k y7) (
        k false)) (
      k false)) (
    Option.bind (sCParse y6.1) fun y8 =>
    cond (y8.2.2.2.2.2.2.2.2 != (0 : Int)) (
      k false) (
      cond (!((y8.1 == y5.1) && ((y8.2.1 == y5.2.1) && ((y8.2.2.1 == y5.2.2.1) && ((y8.2.2.2.1 == y5.2.2.2.1) && ((y8.2.2.2.2.1 == y5.2.2.2.2.1) && ((y8.2.2.2.2.2.1 == y5.2.2.2.2.2.1) && ((y8.2.2.2.2.2.2.1 == y5.2.2.2.2.2.2.1) && ((y8.2.2.2.2.2.2.2.1 == y5.2.2.2.2.2.2.2) && true))))))))) (
        k false) (
        cmdBack_l10 n blanks4 y6.1 (ByteArray.mk #[]) 0 y5.1 y5.2.1 y5.2.2.1 y5.2.2.2.1 y5.2.2.2.2.1 y5.2.2.2.2.2.1 y5.2.2.2.2.2.2.1 y5.2.2.2.2.2.2.2 y8.1 y8.2.1 y8.2.2.1 y8.2.2.2.1 y8.2.2.2.2.1 y8.2.2.2.2.2.1 y8.2.2.2.2.2.2.1 y8.2.2.2.2.2.2.2.1
          (fun (t9 : ByteArray) (s10 : ByteArray) (i11 : Int) (i12 : Int) (i13 : Int) (i14 : Int) (i15 : Int) (i16 : Int) (i17 : Int) (i18 : Int) (i19 : Int) (i20 : Int) (i21 : Int) (i22 : Int) (i23 : Int) (i24 : Int) (i25 : Int) (i26 : Int) =>
            if ((ByteArray.mk #[32, 32])).size + (s10).size ≤ 140737488355328 then
              if (((ByteArray.mk #[32, 32]) ++ s10)).size + ((ByteArray.mk #[32])).size ≤ 140737488355328 then
                Option.bind (sCParse (((ByteArray.mk #[32, 32]) ++ s10) ++ (ByteArray.mk #[32]))) fun y27 =>
                if (t9).size + ((ByteArray.mk #[32, 120])).size ≤ 140737488355328 then
                  Option.bind (sCParse (t9 ++ (ByteArray.mk #[32, 120]))) fun y28 =>
                  if ((ByteArray.mk #[120])).size + (t9).size ≤ 140737488355328 then
                    Option.bind (sCParse ((ByteArray.mk #[120]) ++ t9)) fun y29 =>
                    cond (y27.2.2.2.2.2.2.2.2 == (0 : Int)) (
                      cond ((y27.1 == i11) && ((y27.2.1 == i12) && ((y27.2.2.1 == i13) && ((y27.2.2.2.1 == i14) && ((y27.2.2.2.2.1 == i15) && ((y27.2.2.2.2.2.1 == i16) && ((y27.2.2.2.2.2.2.1 == i17) && ((y27.2.2.2.2.2.2.2.1 == i18) && true)))))))) (
                        cond (y28.2.2.2.2.2.2.2.2 == (2 : Int)) (
                          cond (y29.2.2.2.2.2.2.2.2 == (2 : Int)) (
                            Option.bind (wakes15_d) fun y30 =>
                            k y30) (
                            k false)) (
                          k false)) (
                        k false)) (
                      k false)
                  else none
                else none
              else none
            else none))))
def cmdBack_E (y : Bool) : PV × List PV := ((PV.bool y), [])
def cmdBack_D : List PV → Option (Bool)
  | [(PV.int .i64 op1), (PV.fs l2), (PV.int .i64 how3), (PV.int .i64 blanks4)] => sCmdBack op1 l2 how3 blanks4
  | _ => none
def cmdBack_Γ : List (Nat × Cal) := [(34, .ctr of15_C), (32, .ctr cPrint_C), (33, .ctr wakes15_C), (31, .ctr cParse_C), (16, .ctr within_C)]
def cmdBack_C : Ctr := ⟨[none, none, none, none], Bool, cmdBack_D, cmdBack_E, true, .d⟩
def cmdBack_cfg : List (Nat × LC) := [(10, ⟨[3, 9, 10, 12, 14, 15], [], [], []⟩),
  (14, ⟨[3, 9, 10, 12, 14, 15, 16], [], [], []⟩),
  (1010000, ⟨[9, 10, 12, 14], [], [], []⟩),
  (1014002, ⟨[3, 9, 10, 12, 14, 15], [], [], []⟩)]
def cmdBack_pat : Nat → Option SP
  | 14 => some ⟨sparse .undef [(3, (.val (.int .i64))), (9, (.ref 0 0)), (10, (.val .str)), (12, (.ref 1 0)), (14, (.val .str)), (15, (.val (.int .i64))), (16, (.val (.int .i64)))] 0 117, [(.pbox (.agg [(.int .i64), (.int .i64), (.int .i64), (.int .i64), (.int .i64), (.int .i64), (.int .i64), (.int .i64)]) 8), (.pbox (.agg [(.int .i64), (.int .i64), (.int .i64), (.int .i64), (.int .i64), (.int .i64), (.int .i64), (.int .i64)]) 8)], []⟩
  | 10 => some ⟨sparse .undef [(3, (.val (.int .i64))), (9, (.ref 0 0)), (10, (.val .str)), (12, (.ref 1 0)), (14, (.val .str)), (15, (.val (.int .i64)))] 0 117, [(.pbox (.agg [(.int .i64), (.int .i64), (.int .i64), (.int .i64), (.int .i64), (.int .i64), (.int .i64), (.int .i64)]) 8), (.pbox (.agg [(.int .i64), (.int .i64), (.int .i64), (.int .i64), (.int .i64), (.int .i64), (.int .i64), (.int .i64)]) 8)], []⟩
  | _ => none
def cmdBack_patj : Nat → Option SP
  | _ => none
def cmdBack_L14 (n : Nat) (ls : List Leaf) (R : Type) (k : Ex → St → Option R) : Option R :=
  match ls with
  | [.int blanks71, .str t72, .str s73, .int k74, .int j75, .int i76, .int i77, .int i78, .int i79, .int i80, .int i81, .int i82, .int i83, .int i84, .int i85, .int i86, .int i87, .int i88, .int i89, .int i90, .int i91] => cmdBack_l14 n blanks71 t72 s73 k74 j75 i76 i77 i78 i79 i80 i81 i82 i83 i84 i85 i86 i87 i88 i89 i90 i91 (fun y1094 y1095 y1096 y1097 y1098 y1099 y1100 y1101 y1102 y1103 y1104 y1105 y1106 y1107 y1108 y1109 y1110 y1111 y1112 y1113 => k (.exit 2) ⟨sparse .undef [(3, (TV.val (PV.int .i64 y1094))), (9, (TV.ref 0 0)), (10, (TV.val (PV.str y1095))), (12, (TV.ref 1 0)), (14, (TV.val (PV.str y1096))), (15, (TV.val (PV.int .i64 y1097)))] 0 117, [(Ob.pbox (PV.agg [(PV.int .i64 y1098), (PV.int .i64 y1099), (PV.int .i64 y1100), (PV.int .i64 y1101), (PV.int .i64 y1102), (PV.int .i64 y1103), (PV.int .i64 y1104), (PV.int .i64 y1105)]) 8), (Ob.pbox (PV.agg [(PV.int .i64 y1106), (PV.int .i64 y1107), (PV.int .i64 y1108), (PV.int .i64 y1109), (PV.int .i64 y1110), (PV.int .i64 y1111), (PV.int .i64 y1112), (PV.int .i64 y1113)]) 8)], []⟩)
  | _ => none
def cmdBack_L10 (n : Nat) (ls : List Leaf) (R : Type) (k : Ex → St → Option R) : Option R :=
  match ls with
  | [.int blanks31, .str t32, .str s33, .int k34, .int i35, .int i36, .int i37, .int i38, .int i39, .int i40, .int i41, .int i42, .int i43, .int i44, .int i45, .int i46, .int i47, .int i48, .int i49, .int i50] => cmdBack_l10 n blanks31 t32 s33 k34 i35 i36 i37 i38 i39 i40 i41 i42 i43 i44 i45 i46 i47 i48 i49 i50 (fun y2114 y2115 y2116 y2117 y2118 y2119 y2120 y2121 y2122 y2123 y2124 y2125 y2126 y2127 y2128 y2129 y2130 y2131 => k (.exit 0) ⟨sparse .undef [(9, (TV.ref 0 0)), (10, (TV.val (PV.str y2114))), (12, (TV.ref 1 0)), (14, (TV.val (PV.str y2115)))] 0 117, [(Ob.pbox (PV.agg [(PV.int .i64 y2116), (PV.int .i64 y2117), (PV.int .i64 y2118), (PV.int .i64 y2119), (PV.int .i64 y2120), (PV.int .i64 y2121), (PV.int .i64 y2122), (PV.int .i64 y2123)]) 8), (Ob.pbox (PV.agg [(PV.int .i64 y2124), (PV.int .i64 y2125), (PV.int .i64 y2126), (PV.int .i64 y2127), (PV.int .i64 y2128), (PV.int .i64 y2129), (PV.int .i64 y2130), (PV.int .i64 y2131)]) 8)], []⟩)
  | _ => none
def cmdBack_L (n key : Nat) (ls : List Leaf) (R : Type) (k : Ex → St → Option R) : Option R :=
  match key with
  | 14 => cmdBack_L14 n ls R k
  | 10 => cmdBack_L10 n ls R k
  | _ => none
def cmdBack_J (n key : Nat) (ls : List Leaf) (R : Type) (k : Ex → St → Option R) : Option R :=
  match key with
  | _ => none
def cmdBack_on : Code → Bool := fun _ => false
def cmdBack_Λ : Nat → Loops := patL (normBy cmdBack_cfg) cmdBack_pat cmdBack_L (normJ cmdBack_cfg) cmdBack_on cmdBack_patj cmdBack_J
theorem cmdBack_step10 (n : Nat) (blanks31 : Int) (t32 : ByteArray) (s33 : ByteArray) (k34 : Int) (i35 : Int) (i36 : Int) (i37 : Int) (i38 : Int) (i39 : Int) (i40 : Int) (i41 : Int) (i42 : Int) (i43 : Int) (i44 : Int) (i45 : Int) (i46 : Int) (i47 : Int) (i48 : Int) (i49 : Int) (i50 : Int)  (R : Type) (k : Ex → St → Option R) :
    roundK T G0 (ctrOf cmdBack_Γ) (normBy cmdBack_cfg) (cmdBack_Λ n) (codeAt [1, 1, 1, 1, 1, 1, 1, 0, 1, 0, 0] (bodyOf Tryd.f12)) (buildSt ⟨sparse .undef [(3, (.val (.int .i64))), (9, (.ref 0 0)), (10, (.val .str)), (12, (.ref 1 0)), (14, (.val .str)), (15, (.val (.int .i64)))] 0 117, [(.pbox (.agg [(.int .i64), (.int .i64), (.int .i64), (.int .i64), (.int .i64), (.int .i64), (.int .i64), (.int .i64)]) 8), (.pbox (.agg [(.int .i64), (.int .i64), (.int .i64), (.int .i64), (.int .i64), (.int .i64), (.int .i64), (.int .i64)]) 8)], []⟩ [.int blanks31, .str t32, .str s33, .int k34, .int i35, .int i36, .int i37, .int i38, .int i39, .int i40, .int i41, .int i42, .int i43, .int i44, .int i45, .int i46, .int i47, .int i48, .int i49, .int i50]) R k = cmdBack_L10 (n + 1) [.int blanks31, .str t32, .str s33, .int k34, .int i35, .int i36, .int i37, .int i38, .int i39, .int i40, .int i41, .int i42, .int i43, .int i44, .int i45, .int i46, .int i47, .int i48, .int i49, .int i50] R k := by kernel_rfl
theorem cmdBack_step14 (n : Nat) (blanks71 : Int) (t72 : ByteArray) (s73 : ByteArray) (k74 : Int) (j75 : Int) (i76 : Int) (i77 : Int) (i78 : Int) (i79 : Int) (i80 : Int) (i81 : Int) (i82 : Int) (i83 : Int) (i84 : Int) (i85 : Int) (i86 : Int) (i87 : Int) (i88 : Int) (i89 : Int) (i90 : Int) (i91 : Int)  (R : Type) (k : Ex → St → Option R) :
    roundK T G0 (ctrOf cmdBack_Γ) (normBy cmdBack_cfg) (cmdBack_Λ n) (codeAt [1, 1, 1, 1, 1, 1, 1, 0, 1, 0, 0, 1, 0, 0, 1, 1, 0, 0] (bodyOf Tryd.f12)) (buildSt ⟨sparse .undef [(3, (.val (.int .i64))), (9, (.ref 0 0)), (10, (.val .str)), (12, (.ref 1 0)), (14, (.val .str)), (15, (.val (.int .i64))), (16, (.val (.int .i64)))] 0 117, [(.pbox (.agg [(.int .i64), (.int .i64), (.int .i64), (.int .i64), (.int .i64), (.int .i64), (.int .i64), (.int .i64)]) 8), (.pbox (.agg [(.int .i64), (.int .i64), (.int .i64), (.int .i64), (.int .i64), (.int .i64), (.int .i64), (.int .i64)]) 8)], []⟩ [.int blanks71, .str t72, .str s73, .int k74, .int j75, .int i76, .int i77, .int i78, .int i79, .int i80, .int i81, .int i82, .int i83, .int i84, .int i85, .int i86, .int i87, .int i88, .int i89, .int i90, .int i91]) R k = cmdBack_L14 (n + 1) [.int blanks71, .str t72, .str s73, .int k74, .int j75, .int i76, .int i77, .int i78, .int i79, .int i80, .int i81, .int i82, .int i83, .int i84, .int i85, .int i86, .int i87, .int i88, .int i89, .int i90, .int i91] R k := by kernel_rfl
theorem cmdBack_eq (n : Nat) (op1 : Int) (l2 : List (List PV)) (how3 : Int) (blanks4 : Int) :
    funK T G0 (ctrOf cmdBack_Γ) (cmdBack_Λ n) .d true [none, none, none, none] (funOf Tryd.f12) [(PV.int .i64 op1), (PV.fs l2), (PV.int .i64 how3), (PV.int .i64 blanks4)] = cmdBack_b n  op1 l2 how3 blanks4 (fun a0 => some (cmdBack_E a0)) := by kernel_rfl
theorem cmdBack_inv {ps : List PV} {y : Bool} (h : cmdBack_D ps = some y) : ∃ (op1 : Int) (l2 : List (List PV)) (how3 : Int) (blanks4 : Int), ps = [(PV.int .i64 op1), (PV.fs l2), (PV.int .i64 how3), (PV.int .i64 blanks4)] := by
  unfold cmdBack_D at h
  split at h
  · exact ⟨_, _, _, _, rfl⟩
  · cases h
theorem cmdBack_loops : loopsOf (bodyOf Tryd.f12) = [codeAt [1, 1, 1, 1, 1, 1, 1, 0, 1, 0, 0] (bodyOf Tryd.f12), codeAt [1, 1, 1, 1, 1, 1, 1, 0, 1, 0, 0, 1, 0, 0, 1, 1, 0, 0] (bodyOf Tryd.f12)] := by kernel_rfl
theorem cmdBack_holds (hΓ : HoldsAll Tryd.prog G0 cmdBack_Γ) (hok : ∀ (op1 : Int) (l2 : List (List PV)) (how3 : Int) (blanks4 : Int) (y : Bool), sCmdBack op1 l2 how3 blanks4 = some y → ∃ n, ∀ (R : Type) (k : Bool → Option R), cmdBack_b n  op1 l2 how3 blanks4 k = k y) : Holds Tryd.prog G0 12 cmdBack_C := by
  refine fun_pat mixed tOk (ctrOf_ok hΓ) Tryd.func12 rfl rfl rfl rfl (F := funOf Tryd.f12) (normBy_ok cmdBack_cfg) (pat := cmdBack_pat) (L := cmdBack_L) (normJ_ok cmdBack_cfg) (on := cmdBack_on) (patj := cmdBack_patj) (J := cmdBack_J) (fun c hc ls R k => ?_) (fun c hc p hp m ls R k r h => ?_) (fun c hc p hp m ls R k r h => ?_) (fun ps x h => ?_)
  · rw [show (funOf Tryd.f12).code = bodyOf Tryd.f12 from rfl, cmdBack_loops] at hc
    simp only [List.mem_cons, List.not_mem_nil, or_false] at hc
    rcases hc with rfl | rfl
    · show cmdBack_L10 0 ls R k = none
      unfold cmdBack_L10
      split
      · rfl
      · rfl
    · show cmdBack_L14 0 ls R k = none
      unfold cmdBack_L14
      split
      · rfl
      · rfl
  · rw [show (funOf Tryd.f12).code = bodyOf Tryd.f12 from rfl, cmdBack_loops] at hc
    simp only [List.mem_cons, List.not_mem_nil, or_false] at hc
    rcases hc with rfl | rfl
    · have hp' : p = ⟨sparse .undef [(3, (.val (.int .i64))), (9, (.ref 0 0)), (10, (.val .str)), (12, (.ref 1 0)), (14, (.val .str)), (15, (.val (.int .i64)))] 0 117, [(.pbox (.agg [(.int .i64), (.int .i64), (.int .i64), (.int .i64), (.int .i64), (.int .i64), (.int .i64), (.int .i64)]) 8), (.pbox (.agg [(.int .i64), (.int .i64), (.int .i64), (.int .i64), (.int .i64), (.int .i64), (.int .i64), (.int .i64)]) 8)], []⟩ := (Option.some.inj (hp : some _ = some p)).symm
      subst hp'
      change cmdBack_L10 (m + 1) ls R k = some r at h
      have h' := h
      unfold cmdBack_L10 at h'
      split at h'
      · exact (cmdBack_step10 m _ _ _ _ _ _ _ _ _ _ _ _ _ _ _ _ _ _ _ _ R k).trans h
      · cases h'
    · have hp' : p = ⟨sparse .undef [(3, (.val (.int .i64))), (9, (.ref 0 0)), (10, (.val .str)), (12, (.ref 1 0)), (14, (.val .str)), (15, (.val (.int .i64))), (16, (.val (.int .i64)))] 0 117, [(.pbox (.agg [(.int .i64), (.int .i64), (.int .i64), (.int .i64), (.int .i64), (.int .i64), (.int .i64), (.int .i64)]) 8), (.pbox (.agg [(.int .i64), (.int .i64), (.int .i64), (.int .i64), (.int .i64), (.int .i64), (.int .i64), (.int .i64)]) 8)], []⟩ := (Option.some.inj (hp : some _ = some p)).symm
      subst hp'
      change cmdBack_L14 (m + 1) ls R k = some r at h
      have h' := h
      unfold cmdBack_L14 at h'
      split at h'
      · exact (cmdBack_step14 m _ _ _ _ _ _ _ _ _ _ _ _ _ _ _ _ _ _ _ _ _ R k).trans h
      · cases h'
  · cases (List.mem_filter.1 hc).2
  · obtain ⟨y, hy, hx⟩ := bind_inv h
    cases hx
    obtain ⟨op1, l2, how3, blanks4, rfl⟩ := cmdBack_inv hy
    obtain ⟨n, hn⟩ := hok op1 l2 how3 blanks4 y hy
    exact ⟨n, (cmdBack_eq n op1 l2 how3 blanks4).trans (hn _ _)⟩

/-! ## drayman/draymanlaw15.CmdNumbers -/
def cmdNumbers_q18 {R : Type} (n : Nat) (op146 : Int) (l147 : List (List PV)) (s148 : ByteArray) (ok149 : Bool) (count150 : Int) (k151 : Int) (n152 : Int) (b153 : Bool) (es154 : List (List PV)) (es155 : List (List PV)) (k0 : Int → List (List PV) → ByteArray → Bool → Int → Int → List (List PV) → List (List PV) → Option R) : Option R :=
  cond b153 (
    cond ok149 (
      cond (decide (n152 ≥ (1 : Int))) (
        k0 op146 l147 s148 (decide (n152 ≤ (20 : Int))) count150 k151 es154 es155) (
        k0 op146 l147 s148 false count150 k151 es154 es155)) (
      k0 op146 l147 s148 false count150 k151 es154 es155)) (
    k0 op146 l147 s148 ok149 count150 k151 es154 es155)
def cmdNumbers_q17 {R : Type} (n : Nat) (op121 : Int) (l122 : List (List PV)) (s123 : ByteArray) (ok124 : Bool) (count125 : Int) (k126 : Int) (n127 : Int) (es128 : List (List PV)) (es129 : List (List PV)) (k0 : Int → List (List PV) → ByteArray → Bool → Int → Int → List (List PV) → List (List PV) → Option R) : Option R :=
  cond (op121 == (7 : Int)) (
    cmdNumbers_q18 n op121 l122 s123 ok124 count125 k126 n127 (k126 == (0 : Int)) es128 es129 k0) (
    cmdNumbers_q18 n op121 l122 s123 ok124 count125 k126 n127 false es128 es129 k0)
def cmdNumbers_q15 {R : Type} (n : Nat) (op87 : Int) (l88 : List (List PV)) (s89 : ByteArray) (ok90 : Bool) (count91 : Int) (k92 : Int) (n93 : Int) (es94 : List (List PV)) (es95 : List (List PV)) (k0 : Int → List (List PV) → ByteArray → Bool → Int → Int → List (List PV) → List (List PV) → Option R) : Option R :=
  Option.bind (sRDigits n93) fun y96 =>
  if ((ByteArray.mk #[32])).size + (y96).size ≤ 140737488355328 then
    if (s89).size + (((ByteArray.mk #[32]) ++ y96)).size ≤ 140737488355328 then
      cond ok90 (
        cond (decide (n93 ≥ (0 : Int))) (
          cmdNumbers_q17 n op87 l88 (s89 ++ ((ByteArray.mk #[32]) ++ y96)) (decide (n93 ≤ (999 : Int))) count91 k92 n93 es94 es95 k0) (
          cmdNumbers_q17 n op87 l88 (s89 ++ ((ByteArray.mk #[32]) ++ y96)) false count91 k92 n93 es94 es95 k0)) (
        cmdNumbers_q17 n op87 l88 (s89 ++ ((ByteArray.mk #[32]) ++ y96)) false count91 k92 n93 es94 es95 k0)
    else none
  else none
def cmdNumbers_l9 {R : Type} : Nat → Int → List (List PV) → ByteArray → Bool → Int → Int → List (List PV) → List (List PV) → (Int → ByteArray → Bool → Int → List (List PV) → List (List PV) → Option R) → Option R
  | 0, _, _, _, _, _, _, _, _, _ => none
  | n + 1, op59, l60, s61, ok62, count63, k64, es65, es66, k0 =>
    cond (decide (k64 < count63)) (
      Option.bind (idx l60 k64) fun e67 =>
      if e67.length = 1 then
        Option.bind (e67[0]?) fun c68 =>
        Option.bind (PV.asI .i64 c68) fun n69 =>
        cond (decide ((Int.tmod n69 (5 : Int)) > (0 : Int))) (
          Option.bind (within_d n69 1004) fun y70 =>
          cmdNumbers_q15 n op59 l60 s61 ok62 count63 k64 (IntKind.i64.wrap (y70 - (2 : Int))) es65 es66
            (fun (op71 : Int) (l72 : List (List PV)) (s73 : ByteArray) (ok74 : Bool) (count75 : Int) (k76 : Int) (es77 : List (List PV)) (es78 : List (List PV)) =>
              cmdNumbers_l9 n op71 l72 s73 ok74 count75 (IntKind.i64.wrap (k76 + (1 : Int))) es77 es78 k0)) (
          cmdNumbers_q15 n op59 l60 s61 ok62 count63 k64 n69 es65 es66
            (fun (op79 : Int) (l80 : List (List PV)) (s81 : ByteArray) (ok82 : Bool) (count83 : Int) (k84 : Int) (es85 : List (List PV)) (es86 : List (List PV)) =>
              cmdNumbers_l9 n op79 l80 s81 ok82 count83 (IntKind.i64.wrap (k84 + (1 : Int))) es85 es86 k0))
      else none) (
      k0 op59 s61 ok62 count63 es65 es66)
def cmdNumbers_q21 {R : Type} (n : Nat) (op169 : Int) (s170 : ByteArray) (ok171 : Bool) (e172 : Int) (i173 : Int) (i174 : Int) (i175 : Int) (i176 : Int) (i177 : Int) (i178 : Int) (i179 : Int) (i180 : Int) (k0 : Bool → Option R) (k1 : Int → ByteArray → Int → Int → Int → Int → Int → Int → Int → Int → Int → Option R) : Option R :=
  cond (!ok171) (
    cond (e172 != (0 : Int)) (
      cond (i173 == (0 : Int)) (
        Option.bind (wakes15_d) fun y181 =>
        k0 y181) (
        k0 false)) (
      k0 false)) (
    k1 op169 s170 e172 i173 i174 i175 i176 i177 i178 i179 i180)
def cmdNumbers_q23 {R : Type} (n : Nat) (op156 : Int) (s157 : ByteArray) (e158 : Int) (i159 : Int) (i160 : Int) (i161 : Int) (i162 : Int) (i163 : Int) (i164 : Int) (i165 : Int) (i166 : Int) (k0 : Bool → Option R) : Option R :=
  Option.bind (sCPrint i159 i160 i161 i162 i163 i164 i165 i166) fun y167 =>
  cond (e158 == (0 : Int)) (
    cond (i159 == (IntKind.i64.wrap (op156 + (1 : Int)))) (
      cond (y167.2 == (0 : Int)) (
        cond (ByteArray.toList y167.1 == ByteArray.toList s157) (
          Option.bind (wakes15_d) fun y168 =>
          k0 y168) (
          k0 false)) (
        k0 false)) (
      k0 false)) (
    k0 false)
def cmdNumbers_b {R : Type} (n : Nat) (op1 : Int) (l2 : List (List PV)) (k : Bool → Option R) : Option R :=
  Option.bind (within_d op1 13) fun y3 =>
  if 0 ≤ y3 ∧ y3 < (13 : Int) then
    Option.bind (([[(PV.str (ByteArray.mk #[97, 100, 100]))], [(PV.str (ByteArray.mk #[100, 101, 108]))], [(PV.str (ByteArray.mk #[109, 111, 118]))], [(PV.str (ByteArray.mk #[108, 111, 99, 107]))], [(PV.str (ByteArray.mk #[102, 114, 101, 101]))], [(PV.str (ByteArray.mk #[105, 99, 101]))], [(PV.str (ByteArray.mk #[116, 104, 97, 119]))], [(PV.str (ByteArray.mk #[111, 112, 116]))], [(PV.str (ByteArray.mk #[117, 110, 100, 111]))], [(PV.str (ByteArray.mk #[114, 101, 100, 111]))], [(PV.str (ByteArray.mk #[115, 104, 111, 119]))], [(PV.str (ByteArray.mk #[112, 111, 111, 108]))], [(PV.str (ByteArray.mk #[99, 111, 115, 116]))]] : List (List PV))[(Int.toNat y3)]?) fun e4 =>
    Option.bind (e4[0]?) fun c5 =>
    Option.bind (PV.asS c5) fun s6 =>
    cmdNumbers_l9 n y3 l2 s6 true (if (6 : Int) < (l2.length : Int) then (6 : Int) else (l2.length : Int)) 0 [[(PV.int .i64 3)], [(PV.int .i64 1)], [(PV.int .i64 3)], [(PV.int .i64 1)], [(PV.int .i64 1)], [(PV.int .i64 1)], [(PV.int .i64 1)], [(PV.int .i64 3)], [(PV.int .i64 0)], [(PV.int .i64 0)], [(PV.int .i64 1)], [(PV.int .i64 0)], [(PV.int .i64 0)]] [[(PV.int .i64 4)], [(PV.int .i64 1)], [(PV.int .i64 4)], [(PV.int .i64 1)], [(PV.int .i64 1)], [(PV.int .i64 1)], [(PV.int .i64 1)], [(PV.int .i64 4)], [(PV.int .i64 0)], [(PV.int .i64 0)], [(PV.int .i64 1)], [(PV.int .i64 0)], [(PV.int .i64 0)]]
      (fun (op7 : Int) (s8 : ByteArray) (ok9 : Bool) (count10 : Int) (es11 : List (List PV)) (es12 : List (List PV)) =>
        Option.bind (sCParse s8) fun y13 =>
        cond ok9 (
          if 0 ≤ op7 ∧ op7 < (es11.length : Int) then
            Option.bind (es11[(Int.toNat op7)]?) fun e14 =>
            Option.bind (e14[0]?) fun c15 =>
            Option.bind (PV.asI .i64 c15) fun n16 =>
            cond (decide (count10 ≥ n16)) (
              if 0 ≤ op7 ∧ op7 < (es12.length : Int) then
                Option.bind (es12[(Int.toNat op7)]?) fun e17 =>
                Option.bind (e17[0]?) fun c18 =>
                Option.bind (PV.asI .i64 c18) fun n19 =>
                cmdNumbers_q21 n op7 s8 (decide (count10 ≤ n19)) y13.2.2.2.2.2.2.2.2 y13.1 y13.2.1 y13.2.2.1 y13.2.2.2.1 y13.2.2.2.2.1 y13.2.2.2.2.2.1 y13.2.2.2.2.2.2.1 y13.2.2.2.2.2.2.2.1 k
                  (fun (op21 : Int) (s22 : ByteArray) (e23 : Int) (i24 : Int) (i25 : Int) (i26 : Int) (i27 : Int) (i28 : Int) (i29 : Int) (i30 : Int) (i31 : Int) =>
                    cmdNumbers_q23 n op21 s22 e23 i24 i25 i26 i27 i28 i29 i30 i31 k)
              else none) (
              cmdNumbers_q21 n op7 s8 false y13.2.2.2.2.2.2.2.2 y13.1 y13.2.1 y13.2.2.1 y13.2.2.2.1 y13.2.2.2.2.1 y13.2.2.2.2.2.1 y13.2.2.2.2.2.2.1 y13.2.2.2.2.2.2.2.1 k
                (fun (op34 : Int) (s35 : ByteArray) (e36 : Int) (i37 : Int) (i38 : Int) (i39 : Int) (i40 : Int) (i41 : Int) (i42 : Int) (i43 : Int) (i44 : Int) =>
                  cmdNumbers_q23 n op34 s35 e36 i37 i38 i39 i40 i41 i42 i43 i44 k))
          else none) (
          cmdNumbers_q21 n op7 s8 false y13.2.2.2.2.2.2.2.2 y13.1 y13.2.1 y13.2.2.1 y13.2.2.2.1 y13.2.2.2.2.1 y13.2.2.2.2.2.1 y13.2.2.2.2.2.2.1 y13.2.2.2.2.2.2.2.1 k
            (fun (op47 : Int) (s48 : ByteArray) (e49 : Int) (i50 : Int) (i51 : Int) (i52 : Int) (i53 : Int) (i54 : Int) (i55 : Int) (i56 : Int) (i57 : Int) =>
              cmdNumbers_q23 n op47 s48 e49 i50 i51 i52 i53 i54 i55 i56 i57 k)))
  else none
def cmdNumbers_E (y : Bool) : PV × List PV := ((PV.bool y), [])
def cmdNumbers_D : List PV → Option (Bool)
  | [(PV.int .i64 op1), (PV.fs l2)] => sCmdNumbers op1 l2
  | _ => none
def cmdNumbers_Γ : List (Nat × Cal) := [(16, .ctr within_C), (31, .ctr cParse_C), (28, .ctr rDigits_C), (32, .ctr cPrint_C), (33, .ctr wakes15_C)]
def cmdNumbers_C : Ctr := ⟨[none, none], Bool, cmdNumbers_D, cmdNumbers_E, true, .d⟩
def cmdNumbers_cfg : List (Nat × LC) := [(9, ⟨[0, 1, 6, 7, 8, 9, 10, 11], [], [], []⟩),
  (4000018, ⟨[0, 1, 6, 7, 8, 9, 10, 11, 12, 63], [], [], []⟩),
  (4000017, ⟨[0, 1, 6, 7, 8, 9, 10, 11, 12], [], [], []⟩),
  (4000015, ⟨[0, 1, 6, 7, 8, 9, 10, 11, 12], [], [], []⟩),
  (1009000, ⟨[0, 6, 7, 8, 9, 10], [], [], []⟩),
  (5000018, ⟨[0, 1, 6, 7, 8, 9, 10, 11], [], [], []⟩),
  (4000021, ⟨[0, 8, 9, 13, 14], [], [], []⟩),
  (5000017, ⟨[0, 1, 6, 7, 8, 9, 10, 11], [], [], []⟩),
  (6000021, ⟨[4], [], [], []⟩),
  (5000021, ⟨[0, 8, 13, 14], [], [], []⟩),
  (4000023, ⟨[0, 8, 13, 14], [], [], []⟩),
  (5000015, ⟨[0, 1, 6, 7, 8, 9, 10, 11], [], [], []⟩),
  (6000023, ⟨[4], [], [], []⟩)]
def cmdNumbers_pat : Nat → Option SP
  | 9 => some ⟨sparse .undef [(0, (.val (.int .i64))), (1, (.val .fs)), (6, (.ow 0)), (7, (.ow 1)), (8, (.val .str)), (9, (.val .bool)), (10, (.val (.int .i64))), (11, (.val (.int .i64)))] 0 133, [(.row 1), (.row 1)], []⟩
  | _ => none
def cmdNumbers_patj : Nat → Option SP
  | 18 => some ⟨sparse .undef [(0, (.val (.int .i64))), (1, (.val .fs)), (6, (.ow 0)), (7, (.ow 1)), (8, (.val .str)), (9, (.val .bool)), (10, (.val (.int .i64))), (11, (.val (.int .i64))), (12, (.val (.int .i64))), (63, (.val .bool))] 0 133, [(.row 1), (.row 1)], []⟩
  | 17 => some ⟨sparse .undef [(0, (.val (.int .i64))), (1, (.val .fs)), (6, (.ow 0)), (7, (.ow 1)), (8, (.val .str)), (9, (.val .bool)), (10, (.val (.int .i64))), (11, (.val (.int .i64))), (12, (.val (.int .i64)))] 0 133, [(.row 1), (.row 1)], []⟩
  | 15 => some ⟨sparse .undef [(0, (.val (.int .i64))), (1, (.val .fs)), (6, (.ow 0)), (7, (.ow 1)), (8, (.val .str)), (9, (.val .bool)), (10, (.val (.int .i64))), (11, (.val (.int .i64))), (12, (.val (.int .i64)))] 0 133, [(.row 1), (.row 1)], []⟩
  | 21 => some ⟨sparse .undef [(0, (.val (.int .i64))), (8, (.val .str)), (9, (.val .bool)), (13, (.ref 0 0)), (14, (.val (.int .i64)))] 0 133, [(.pbox (.agg [(.int .i64), (.int .i64), (.int .i64), (.int .i64), (.int .i64), (.int .i64), (.int .i64), (.int .i64)]) 8)], []⟩
  | 23 => some ⟨sparse .undef [(0, (.val (.int .i64))), (8, (.val .str)), (13, (.ref 0 0)), (14, (.val (.int .i64)))] 0 133, [(.pbox (.agg [(.int .i64), (.int .i64), (.int .i64), (.int .i64), (.int .i64), (.int .i64), (.int .i64), (.int .i64)]) 8)], []⟩
  | _ => none
def cmdNumbers_J18 (n : Nat) (ls : List Leaf) (R : Type) (k : Ex → St → Option R) : Option R :=
  match ls with
  | [.int op146, .rows l147, .str s148, .bool ok149, .int count150, .int k151, .int n152, .bool b153, .rows es154, .rows es155] => cmdNumbers_q18 n op146 l147 s148 ok149 count150 k151 n152 b153 es154 es155 (fun y1182 y1183 y1184 y1185 y1186 y1187 y1188 y1189 => k .normal ⟨sparse .undef [(0, (TV.val (PV.int .i64 y1182))), (1, (TV.val (PV.fs y1183))), (6, (TV.ow 0)), (7, (TV.ow 1)), (8, (TV.val (PV.str y1184))), (9, (TV.val (PV.bool y1185))), (10, (TV.val (PV.int .i64 y1186))), (11, (TV.val (PV.int .i64 y1187)))] 0 133, [(Ob.row y1188 1), (Ob.row y1189 1)], []⟩)
  | _ => none
def cmdNumbers_J17 (n : Nat) (ls : List Leaf) (R : Type) (k : Ex → St → Option R) : Option R :=
  match ls with
  | [.int op121, .rows l122, .str s123, .bool ok124, .int count125, .int k126, .int n127, .rows es128, .rows es129] => cmdNumbers_q17 n op121 l122 s123 ok124 count125 k126 n127 es128 es129 (fun y2190 y2191 y2192 y2193 y2194 y2195 y2196 y2197 => k .normal ⟨sparse .undef [(0, (TV.val (PV.int .i64 y2190))), (1, (TV.val (PV.fs y2191))), (6, (TV.ow 0)), (7, (TV.ow 1)), (8, (TV.val (PV.str y2192))), (9, (TV.val (PV.bool y2193))), (10, (TV.val (PV.int .i64 y2194))), (11, (TV.val (PV.int .i64 y2195)))] 0 133, [(Ob.row y2196 1), (Ob.row y2197 1)], []⟩)
  | _ => none
def cmdNumbers_J15 (n : Nat) (ls : List Leaf) (R : Type) (k : Ex → St → Option R) : Option R :=
  match ls with
  | [.int op87, .rows l88, .str s89, .bool ok90, .int count91, .int k92, .int n93, .rows es94, .rows es95] => cmdNumbers_q15 n op87 l88 s89 ok90 count91 k92 n93 es94 es95 (fun y3198 y3199 y3200 y3201 y3202 y3203 y3204 y3205 => k .normal ⟨sparse .undef [(0, (TV.val (PV.int .i64 y3198))), (1, (TV.val (PV.fs y3199))), (6, (TV.ow 0)), (7, (TV.ow 1)), (8, (TV.val (PV.str y3200))), (9, (TV.val (PV.bool y3201))), (10, (TV.val (PV.int .i64 y3202))), (11, (TV.val (PV.int .i64 y3203)))] 0 133, [(Ob.row y3204 1), (Ob.row y3205 1)], []⟩)
  | _ => none
def cmdNumbers_L9 (n : Nat) (ls : List Leaf) (R : Type) (k : Ex → St → Option R) : Option R :=
  match ls with
  | [.int op59, .rows l60, .str s61, .bool ok62, .int count63, .int k64, .rows es65, .rows es66] => cmdNumbers_l9 n op59 l60 s61 ok62 count63 k64 es65 es66 (fun y4206 y4207 y4208 y4209 y4210 y4211 => k (.exit 0) ⟨sparse .undef [(0, (TV.val (PV.int .i64 y4206))), (6, (TV.ow 0)), (7, (TV.ow 1)), (8, (TV.val (PV.str y4207))), (9, (TV.val (PV.bool y4208))), (10, (TV.val (PV.int .i64 y4209)))] 0 133, [(Ob.row y4210 1), (Ob.row y4211 1)], []⟩)
  | _ => none
def cmdNumbers_J21 (n : Nat) (ls : List Leaf) (R : Type) (k : Ex → St → Option R) : Option R :=
  match ls with
  | [.int op169, .str s170, .bool ok171, .int e172, .int i173, .int i174, .int i175, .int i176, .int i177, .int i178, .int i179, .int i180] => cmdNumbers_q21 n op169 s170 ok171 e172 i173 i174 i175 i176 i177 i178 i179 i180 (fun y5212 => k .ret ⟨sparse .undef [(4, (TV.val (PV.bool y5212)))] 0 133, [], []⟩)
      (fun y5213 y5214 y5215 y5216 y5217 y5218 y5219 y5220 y5221 y5222 y5223 => k .normal ⟨sparse .undef [(0, (TV.val (PV.int .i64 y5213))), (8, (TV.val (PV.str y5214))), (13, (TV.ref 0 0)), (14, (TV.val (PV.int .i64 y5215)))] 0 133, [(Ob.pbox (PV.agg [(PV.int .i64 y5216), (PV.int .i64 y5217), (PV.int .i64 y5218), (PV.int .i64 y5219), (PV.int .i64 y5220), (PV.int .i64 y5221), (PV.int .i64 y5222), (PV.int .i64 y5223)]) 8)], []⟩)
  | _ => none
def cmdNumbers_J23 (n : Nat) (ls : List Leaf) (R : Type) (k : Ex → St → Option R) : Option R :=
  match ls with
  | [.int op156, .str s157, .int e158, .int i159, .int i160, .int i161, .int i162, .int i163, .int i164, .int i165, .int i166] => cmdNumbers_q23 n op156 s157 e158 i159 i160 i161 i162 i163 i164 i165 i166 (fun y6224 => k .ret ⟨sparse .undef [(4, (TV.val (PV.bool y6224)))] 0 133, [], []⟩)
  | _ => none
def cmdNumbers_L (n key : Nat) (ls : List Leaf) (R : Type) (k : Ex → St → Option R) : Option R :=
  match key with
  | 9 => cmdNumbers_L9 n ls R k
  | _ => none
def cmdNumbers_J (n key : Nat) (ls : List Leaf) (R : Type) (k : Ex → St → Option R) : Option R :=
  match key with
  | 18 => cmdNumbers_J18 n ls R k
  | 17 => cmdNumbers_J17 n ls R k
  | 15 => cmdNumbers_J15 n ls R k
  | 21 => cmdNumbers_J21 n ls R k
  | 23 => cmdNumbers_J23 n ls R k
  | _ => none
def cmdNumbers_on : Code → Bool := onKeys [15, 17, 18, 23, 21]
def cmdNumbers_Λ : Nat → Loops := patL (normBy cmdNumbers_cfg) cmdNumbers_pat cmdNumbers_L (normJ cmdNumbers_cfg) cmdNumbers_on cmdNumbers_patj cmdNumbers_J
theorem cmdNumbers_step9 (n : Nat) (op59 : Int) (l60 : List (List PV)) (s61 : ByteArray) (ok62 : Bool) (count63 : Int) (k64 : Int) (es65 : List (List PV)) (es66 : List (List PV))  (R : Type) (k : Ex → St → Option R) :
    roundK T G0 (ctrOf cmdNumbers_Γ) (normBy cmdNumbers_cfg) (cmdNumbers_Λ n) (codeAt [1, 1, 1, 1, 1, 1, 1, 1, 0, 1, 0, 0] (bodyOf Tryd.f13)) (buildSt ⟨sparse .undef [(0, (.val (.int .i64))), (1, (.val .fs)), (6, (.ow 0)), (7, (.ow 1)), (8, (.val .str)), (9, (.val .bool)), (10, (.val (.int .i64))), (11, (.val (.int .i64)))] 0 133, [(.row 1), (.row 1)], []⟩ [.int op59, .rows l60, .str s61, .bool ok62, .int count63, .int k64, .rows es65, .rows es66]) R k = cmdNumbers_L9 (n + 1) [.int op59, .rows l60, .str s61, .bool ok62, .int count63, .int k64, .rows es65, .rows es66] R k := by kernel_rfl
theorem cmdNumbers_stepq15 (n : Nat) (op87 : Int) (l88 : List (List PV)) (s89 : ByteArray) (ok90 : Bool) (count91 : Int) (k92 : Int) (n93 : Int) (es94 : List (List PV)) (es95 : List (List PV))  (R : Type) (k : Ex → St → Option R) :
    joinK T G0 (ctrOf cmdNumbers_Γ) (normJ cmdNumbers_cfg) (cmdNumbers_Λ n) (codeAt [1, 1, 1, 1, 1, 1, 1, 1, 0, 1, 0, 0, 1, 0, 0, 1, 1] (bodyOf Tryd.f13)) (buildSt ⟨sparse .undef [(0, (.val (.int .i64))), (1, (.val .fs)), (6, (.ow 0)), (7, (.ow 1)), (8, (.val .str)), (9, (.val .bool)), (10, (.val (.int .i64))), (11, (.val (.int .i64))), (12, (.val (.int .i64)))] 0 133, [(.row 1), (.row 1)], []⟩ [.int op87, .rows l88, .str s89, .bool ok90, .int count91, .int k92, .int n93, .rows es94, .rows es95]) R k = cmdNumbers_J15 n [.int op87, .rows l88, .str s89, .bool ok90, .int count91, .int k92, .int n93, .rows es94, .rows es95] R k := by kernel_rfl
theorem cmdNumbers_stepq17 (n : Nat) (op121 : Int) (l122 : List (List PV)) (s123 : ByteArray) (ok124 : Bool) (count125 : Int) (k126 : Int) (n127 : Int) (es128 : List (List PV)) (es129 : List (List PV))  (R : Type) (k : Ex → St → Option R) :
    joinK T G0 (ctrOf cmdNumbers_Γ) (normJ cmdNumbers_cfg) (cmdNumbers_Λ n) (codeAt [1, 1, 1, 1, 1, 1, 1, 1, 0, 1, 0, 0, 1, 0, 0, 1, 1, 1, 1] (bodyOf Tryd.f13)) (buildSt ⟨sparse .undef [(0, (.val (.int .i64))), (1, (.val .fs)), (6, (.ow 0)), (7, (.ow 1)), (8, (.val .str)), (9, (.val .bool)), (10, (.val (.int .i64))), (11, (.val (.int .i64))), (12, (.val (.int .i64)))] 0 133, [(.row 1), (.row 1)], []⟩ [.int op121, .rows l122, .str s123, .bool ok124, .int count125, .int k126, .int n127, .rows es128, .rows es129]) R k = cmdNumbers_J17 n [.int op121, .rows l122, .str s123, .bool ok124, .int count125, .int k126, .int n127, .rows es128, .rows es129] R k := by kernel_rfl
theorem cmdNumbers_stepq18 (n : Nat) (op146 : Int) (l147 : List (List PV)) (s148 : ByteArray) (ok149 : Bool) (count150 : Int) (k151 : Int) (n152 : Int) (b153 : Bool) (es154 : List (List PV)) (es155 : List (List PV))  (R : Type) (k : Ex → St → Option R) :
    joinK T G0 (ctrOf cmdNumbers_Γ) (normJ cmdNumbers_cfg) (cmdNumbers_Λ n) (codeAt [1, 1, 1, 1, 1, 1, 1, 1, 0, 1, 0, 0, 1, 0, 0, 1, 1, 1, 1, 1] (bodyOf Tryd.f13)) (buildSt ⟨sparse .undef [(0, (.val (.int .i64))), (1, (.val .fs)), (6, (.ow 0)), (7, (.ow 1)), (8, (.val .str)), (9, (.val .bool)), (10, (.val (.int .i64))), (11, (.val (.int .i64))), (12, (.val (.int .i64))), (63, (.val .bool))] 0 133, [(.row 1), (.row 1)], []⟩ [.int op146, .rows l147, .str s148, .bool ok149, .int count150, .int k151, .int n152, .bool b153, .rows es154, .rows es155]) R k = cmdNumbers_J18 n [.int op146, .rows l147, .str s148, .bool ok149, .int count150, .int k151, .int n152, .bool b153, .rows es154, .rows es155] R k := by kernel_rfl
theorem cmdNumbers_stepq23 (n : Nat) (op156 : Int) (s157 : ByteArray) (e158 : Int) (i159 : Int) (i160 : Int) (i161 : Int) (i162 : Int) (i163 : Int) (i164 : Int) (i165 : Int) (i166 : Int)  (R : Type) (k : Ex → St → Option R) :
    joinK T G0 (ctrOf cmdNumbers_Γ) (normJ cmdNumbers_cfg) (cmdNumbers_Λ n) (codeAt [1, 1, 1, 1, 1, 1, 1, 1, 1, 1, 1] (bodyOf Tryd.f13)) (buildSt ⟨sparse .undef [(0, (.val (.int .i64))), (8, (.val .str)), (13, (.ref 0 0)), (14, (.val (.int .i64)))] 0 133, [(.pbox (.agg [(.int .i64), (.int .i64), (.int .i64), (.int .i64), (.int .i64), (.int .i64), (.int .i64), (.int .i64)]) 8)], []⟩ [.int op156, .str s157, .int e158, .int i159, .int i160, .int i161, .int i162, .int i163, .int i164, .int i165, .int i166]) R k = cmdNumbers_J23 n [.int op156, .str s157, .int e158, .int i159, .int i160, .int i161, .int i162, .int i163, .int i164, .int i165, .int i166] R k := by kernel_rfl
theorem cmdNumbers_stepq21 (n : Nat) (op169 : Int) (s170 : ByteArray) (ok171 : Bool) (e172 : Int) (i173 : Int) (i174 : Int) (i175 : Int) (i176 : Int) (i177 : Int) (i178 : Int) (i179 : Int) (i180 : Int)  (R : Type) (k : Ex → St → Option R) :
    joinK T G0 (ctrOf cmdNumbers_Γ) (normJ cmdNumbers_cfg) (cmdNumbers_Λ n) (codeAt [1, 1, 1, 1, 1, 1, 1, 1, 1, 1, 0, 1] (bodyOf Tryd.f13)) (buildSt ⟨sparse .undef [(0, (.val (.int .i64))), (8, (.val .str)), (9, (.val .bool)), (13, (.ref 0 0)), (14, (.val (.int .i64)))] 0 133, [(.pbox (.agg [(.int .i64), (.int .i64), (.int .i64), (.int .i64), (.int .i64), (.int .i64), (.int .i64), (.int .i64)]) 8)], []⟩ [.int op169, .str s170, .bool ok171, .int e172, .int i173, .int i174, .int i175, .int i176, .int i177, .int i178, .int i179, .int i180]) R k = cmdNumbers_J21 n [.int op169, .str s170, .bool ok171, .int e172, .int i173, .int i174, .int i175, .int i176, .int i177, .int i178, .int i179, .int i180] R k := by kernel_rfl
theorem cmdNumbers_eq (n : Nat) (op1 : Int) (l2 : List (List PV)) :
    funK T G0 (ctrOf cmdNumbers_Γ) (cmdNumbers_Λ n) .d true [none, none] (funOf Tryd.f13) [(PV.int .i64 op1), (PV.fs l2)] = cmdNumbers_b n  op1 l2 (fun a0 => some (cmdNumbers_E a0)) := by kernel_rfl
theorem cmdNumbers_inv {ps : List PV} {y : Bool} (h : cmdNumbers_D ps = some y) : ∃ (op1 : Int) (l2 : List (List PV)), ps = [(PV.int .i64 op1), (PV.fs l2)] := by
  unfold cmdNumbers_D at h
  split at h
  · exact ⟨_, _, rfl⟩
  · cases h
theorem cmdNumbers_loops : loopsOf (bodyOf Tryd.f13) = [codeAt [1, 1, 1, 1, 1, 1, 1, 1, 0, 1, 0, 0] (bodyOf Tryd.f13)] := by kernel_rfl
theorem cmdNumbers_joins : (joinsOf (bodyOf Tryd.f13)).filter cmdNumbers_on = [codeAt [1, 1, 1, 1, 1, 1, 1, 1, 0, 1, 0, 0, 1, 0, 0, 1, 1] (bodyOf Tryd.f13), codeAt [1, 1, 1, 1, 1, 1, 1, 1, 0, 1, 0, 0, 1, 0, 0, 1, 1, 1, 1] (bodyOf Tryd.f13), codeAt [1, 1, 1, 1, 1, 1, 1, 1, 0, 1, 0, 0, 1, 0, 0, 1, 1, 1, 1, 1] (bodyOf Tryd.f13), codeAt [1, 1, 1, 1, 1, 1, 1, 1, 1, 1, 1] (bodyOf Tryd.f13), codeAt [1, 1, 1, 1, 1, 1, 1, 1, 1, 1, 0, 1] (bodyOf Tryd.f13)] := by kernel_rfl
theorem cmdNumbers_holds (hΓ : HoldsAll Tryd.prog G0 cmdNumbers_Γ) (hok : ∀ (op1 : Int) (l2 : List (List PV)) (y : Bool), sCmdNumbers op1 l2 = some y → ∃ n, ∀ (R : Type) (k : Bool → Option R), cmdNumbers_b n  op1 l2 k = k y) : Holds Tryd.prog G0 13 cmdNumbers_C := by
  refine fun_pat mixed tOk (ctrOf_ok hΓ) Tryd.func13 rfl rfl rfl rfl (F := funOf Tryd.f13) (normBy_ok cmdNumbers_cfg) (pat := cmdNumbers_pat) (L := cmdNumbers_L) (normJ_ok cmdNumbers_cfg) (on := cmdNumbers_on) (patj := cmdNumbers_patj) (J := cmdNumbers_J) (fun c hc ls R k => ?_) (fun c hc p hp m ls R k r h => ?_) (fun c hc p hp m ls R k r h => ?_) (fun ps x h => ?_)
  · rw [show (funOf Tryd.f13).code = bodyOf Tryd.f13 from rfl, cmdNumbers_loops] at hc
    simp only [List.mem_cons, List.not_mem_nil, or_false] at hc
    rcases hc with rfl
    · show cmdNumbers_L9 0 ls R k = none
      unfold cmdNumbers_L9
      split
      · rfl
      · rfl
  · rw [show (funOf Tryd.f13).code = bodyOf Tryd.f13 from rfl, cmdNumbers_loops] at hc
    simp only [List.mem_cons, List.not_mem_nil, or_false] at hc
    rcases hc with rfl
    · have hp' : p = ⟨sparse .undef [(0, (.val (.int .i64))), (1, (.val .fs)), (6, (.ow 0)), (7, (.ow 1)), (8, (.val .str)), (9, (.val .bool)), (10, (.val (.int .i64))), (11, (.val (.int .i64)))] 0 133, [(.row 1), (.row 1)], []⟩ := (Option.some.inj (hp : some _ = some p)).symm
      subst hp'
      change cmdNumbers_L9 (m + 1) ls R k = some r at h
      have h' := h
      unfold cmdNumbers_L9 at h'
      split at h'
      · exact (cmdNumbers_step9 m _ _ _ _ _ _ _ _ R k).trans h
      · cases h'
  · rw [show (funOf Tryd.f13).code = bodyOf Tryd.f13 from rfl, cmdNumbers_joins] at hc
    simp only [List.mem_cons, List.not_mem_nil, or_false] at hc
    rcases hc with rfl | rfl | rfl | rfl | rfl
    · have hp' : p = ⟨sparse .undef [(0, (.val (.int .i64))), (1, (.val .fs)), (6, (.ow 0)), (7, (.ow 1)), (8, (.val .str)), (9, (.val .bool)), (10, (.val (.int .i64))), (11, (.val (.int .i64))), (12, (.val (.int .i64)))] 0 133, [(.row 1), (.row 1)], []⟩ := (Option.some.inj (hp : some _ = some p)).symm
      subst hp'
      change cmdNumbers_J15 m ls R k = some r at h
      have h' := h
      unfold cmdNumbers_J15 at h'
      split at h'
      · exact (cmdNumbers_stepq15 m _ _ _ _ _ _ _ _ _ R k).trans h
      · cases h'
    · have hp' : p = ⟨sparse .undef [(0, (.val (.int .i64))), (1, (.val .fs)), (6, (.ow 0)), (7, (.ow 1)), (8, (.val .str)), (9, (.val .bool)), (10, (.val (.int .i64))), (11, (.val (.int .i64))), (12, (.val (.int .i64)))] 0 133, [(.row 1), (.row 1)], []⟩ := (Option.some.inj (hp : some _ = some p)).symm
      subst hp'
      change cmdNumbers_J17 m ls R k = some r at h
      have h' := h
      unfold cmdNumbers_J17 at h'
      split at h'
      · exact (cmdNumbers_stepq17 m _ _ _ _ _ _ _ _ _ R k).trans h
      · cases h'
    · have hp' : p = ⟨sparse .undef [(0, (.val (.int .i64))), (1, (.val .fs)), (6, (.ow 0)), (7, (.ow 1)), (8, (.val .str)), (9, (.val .bool)), (10, (.val (.int .i64))), (11, (.val (.int .i64))), (12, (.val (.int .i64))), (63, (.val .bool))] 0 133, [(.row 1), (.row 1)], []⟩ := (Option.some.inj (hp : some _ = some p)).symm
      subst hp'
      change cmdNumbers_J18 m ls R k = some r at h
      have h' := h
      unfold cmdNumbers_J18 at h'
      split at h'
      · exact (cmdNumbers_stepq18 m _ _ _ _ _ _ _ _ _ _ R k).trans h
      · cases h'
    · have hp' : p = ⟨sparse .undef [(0, (.val (.int .i64))), (8, (.val .str)), (13, (.ref 0 0)), (14, (.val (.int .i64)))] 0 133, [(.pbox (.agg [(.int .i64), (.int .i64), (.int .i64), (.int .i64), (.int .i64), (.int .i64), (.int .i64), (.int .i64)]) 8)], []⟩ := (Option.some.inj (hp : some _ = some p)).symm
      subst hp'
      change cmdNumbers_J23 m ls R k = some r at h
      have h' := h
      unfold cmdNumbers_J23 at h'
      split at h'
      · exact (cmdNumbers_stepq23 m _ _ _ _ _ _ _ _ _ _ _ R k).trans h
      · cases h'
    · have hp' : p = ⟨sparse .undef [(0, (.val (.int .i64))), (8, (.val .str)), (9, (.val .bool)), (13, (.ref 0 0)), (14, (.val (.int .i64)))] 0 133, [(.pbox (.agg [(.int .i64), (.int .i64), (.int .i64), (.int .i64), (.int .i64), (.int .i64), (.int .i64), (.int .i64)]) 8)], []⟩ := (Option.some.inj (hp : some _ = some p)).symm
      subst hp'
      change cmdNumbers_J21 m ls R k = some r at h
      have h' := h
      unfold cmdNumbers_J21 at h'
      split at h'
      · exact (cmdNumbers_stepq21 m _ _ _ _ _ _ _ _ _ _ _ _ R k).trans h
      · cases h'
  · obtain ⟨y, hy, hx⟩ := bind_inv h
    cases hx
    obtain ⟨op1, l2, rfl⟩ := cmdNumbers_inv hy
    obtain ⟨n, hn⟩ := hok op1 l2 y hy
    exact ⟨n, (cmdNumbers_eq n op1 l2).trans (hn _ _)⟩

end
end Go.Proofs.YtkeklbicmfhemaaDoorV
