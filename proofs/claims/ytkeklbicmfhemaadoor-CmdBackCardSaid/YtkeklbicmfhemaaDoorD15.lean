/- What the functions of the program come to, as the reading machine has it: printed by dec.py. -/
import Derived.Test.YtkeklbicmfhemaaDoorVTab
import Derived.Test.YtkeklbicmfhemaaDoorS15
import Derived.Test.YtkeklbicmfhemaaDoorD02
namespace Go.Proofs.YtkeklbicmfhemaaDoorV
open Go
set_option maxRecDepth 100000
set_option linter.unusedVariables false
set_option linter.unusedSimpArgs false
noncomputable section
/-! ## drayman/cmd.forms -/
def cForms_b {R : Type} (k : List (List PV) → Option R) : Option R :=
  k [[(PV.str (ByteArray.mk #[97, 100, 100])), (PV.int .i64 1), (PV.str (ByteArray.mk #[115, 99, 97]))], [(PV.str (ByteArray.mk #[97, 100, 100])), (PV.int .i64 1), (PV.str (ByteArray.mk #[115, 99, 97, 109]))], [(PV.str (ByteArray.mk #[100, 101, 108])), (PV.int .i64 2), (PV.str (ByteArray.mk #[115]))], [(PV.str (ByteArray.mk #[109, 111, 118])), (PV.int .i64 3), (PV.str (ByteArray.mk #[115, 99, 97]))], [(PV.str (ByteArray.mk #[109, 111, 118])), (PV.int .i64 3), (PV.str (ByteArray.mk #[115, 99, 97, 109]))], [(PV.str (ByteArray.mk #[108, 111, 99, 107])), (PV.int .i64 4), (PV.str (ByteArray.mk #[115]))], [(PV.str (ByteArray.mk #[102, 114, 101, 101])), (PV.int .i64 5), (PV.str (ByteArray.mk #[115]))], [(PV.str (ByteArray.mk #[105, 99, 101])), (PV.int .i64 6), (PV.str (ByteArray.mk #[99]))], [(PV.str (ByteArray.mk #[116, 104, 97, 119])), (PV.int .i64 7), (PV.str (ByteArray.mk #[99]))], [(PV.str (ByteArray.mk #[111, 112, 116])), (PV.int .i64 8), (PV.str (ByteArray.mk #[98, 120, 99]))], [(PV.str (ByteArray.mk #[111, 112, 116])), (PV.int .i64 8), (PV.str (ByteArray.mk #[98, 120, 99, 111]))], [(PV.str (ByteArray.mk #[117, 110, 100, 111])), (PV.int .i64 9), (PV.str (ByteArray.mk #[]))], [(PV.str (ByteArray.mk #[114, 101, 100, 111])), (PV.int .i64 10), (PV.str (ByteArray.mk #[]))], [(PV.str (ByteArray.mk #[115, 104, 111, 119])), (PV.int .i64 11), (PV.str (ByteArray.mk #[99]))], [(PV.str (ByteArray.mk #[112, 111, 111, 108])), (PV.int .i64 12), (PV.str (ByteArray.mk #[]))], [(PV.str (ByteArray.mk #[99, 111, 115, 116])), (PV.int .i64 13), (PV.str (ByteArray.mk #[]))]]
def cForms_E (y : (List (List PV))) : PV × List PV := ((PV.os y 3), [])
def cForms_d : Option ((List (List PV))) := cForms_b fun a0 => if (noMem (cForms_E a0).1 && noMemL (cForms_E a0).2) = true then some a0 else none
def cForms_D : List PV → Option ((List (List PV)))
  | [] => cForms_d
  | _ => none
def cForms_Γ : List (Nat × Cal) := []
def cForms_C : Ctr := ⟨[], (List (List PV)), cForms_D, cForms_E, true, .s⟩
theorem cForms_eq :
    funK T G0 (ctrOf cForms_Γ) noL .s true [] (funOf Tryd.f48) [] = cForms_b  (fun a0 => if (noMem (cForms_E a0).1 && noMemL (cForms_E a0).2) = true then some (cForms_E a0) else none) := by kernel_rfl
theorem cForms_inv {ps : List PV} {y : (List (List PV))} (h : cForms_D ps = some y) : ps = [] := by
  unfold cForms_D at h
  split at h
  · rfl
  · cases h
theorem cForms_nat {R : Type} (k : List (List PV) → Option R) : cForms_b k = Option.bind (cForms_b fun a0 => some a0) fun y => k y := by
  unfold cForms_b
  first | rfl | simp only [Option.bind_assoc, bind_cond, bind_ite, Option.bind_some, Option.bind_none]
theorem cForms_holds (hΓ : HoldsAll Tryd.prog G0 cForms_Γ) : Holds Tryd.prog G0 48 cForms_C := by
  refine fun_ok mixed tOk (ctrOf_ok hΓ) Tryd.func48 rfl rfl rfl rfl (F := funOf Tryd.f48) (fun ps x h => ?_)
  obtain ⟨y, hy, hx⟩ := bind_inv h
  cases hx
  obtain rfl := cForms_inv hy
  have hy' : cForms_d = some y := hy
  refine ⟨noL, noL_ok _, (cForms_eq).trans ?_⟩
  unfold cForms_d at hy'
  rw [cForms_nat] at hy' ⊢
  obtain ⟨z, hz, hz'⟩ := bind_inv hy'
  rw [hz]
  try simp only at hz'
  split at hz'
  · rename_i hno
    cases hz'
    exact if_pos hno
  · cases hz'

/-! ## drayman/cmd.number -/
def cNumber_b {R : Type} (w1 : ByteArray) (k : Int → Bool → Option R) : Option R :=
  Option.bind (sInt_d w1) fun y2 =>
  cond (!y2.2) (
    k 0 false) (
    cond (decide (y2.1 < (0 : Int))) (
      k 0 false) (
      cond (decide (y2.1 > (999 : Int))) (
        k 0 false) (
        k y2.1 true)))
def cNumber_E (y : Int × Bool) : PV × List PV := ((PV.tuple [(PV.int .i64 y.1), (PV.bool y.2)]), [])
def cNumber_d (w1 : ByteArray) : Option (Int × Bool) := cNumber_b w1 fun a0 a1 => some (a0, a1)
def cNumber_D : List PV → Option (Int × Bool)
  | [(PV.str w1)] => cNumber_d w1
  | _ => none
def cNumber_Γ : List (Nat × Cal) := [(17, .ctr sInt_C)]
def cNumber_C : Ctr := ⟨[none], Int × Bool, cNumber_D, cNumber_E, true, .d⟩
theorem cNumber_eq (w1 : ByteArray) :
    funK T G0 (ctrOf cNumber_Γ) noL .d true [none] (funOf Tryd.f72) [(PV.str w1)] = cNumber_b  w1 (fun a0 a1 => some (cNumber_E (a0, a1))) := by kernel_rfl
theorem cNumber_inv {ps : List PV} {y : Int × Bool} (h : cNumber_D ps = some y) : ∃ (w1 : ByteArray), ps = [(PV.str w1)] := by
  unfold cNumber_D at h
  split at h
  · exact ⟨_, rfl⟩
  · cases h
theorem cNumber_nat {R : Type} (w1 : ByteArray) (k : Int → Bool → Option R) : cNumber_b w1 k = Option.bind (cNumber_b w1 fun a0 a1 => some (a0, a1)) fun y => k y.1 y.2 := by
  unfold cNumber_b
  first | rfl | simp only [Option.bind_assoc, bind_cond, bind_ite, Option.bind_some, Option.bind_none]
theorem cNumber_holds (hΓ : HoldsAll Tryd.prog G0 cNumber_Γ) : Holds Tryd.prog G0 72 cNumber_C := by
  refine fun_ok mixed tOk (ctrOf_ok hΓ) Tryd.func72 rfl rfl rfl rfl (F := funOf Tryd.f72) (fun ps x h => ?_)
  obtain ⟨y, hy, hx⟩ := bind_inv h
  cases hx
  obtain ⟨w1, rfl⟩ := cNumber_inv hy
  have hy' : cNumber_d w1 = some y := hy
  refine ⟨noL, noL_ok _, (cNumber_eq w1).trans ?_⟩
  unfold cNumber_d at hy'
  rw [cNumber_nat, hy']
  rfl

/-! ## drayman/cmd.place: its own code is run where it is called -/
def cPlace_Γ : List (Nat × Cal) := []
def cPlace_I : Cal := .inl (inlF T G0 (ctrOf cPlace_Γ) noL (funOf Tryd.f50))
theorem cPlace_holds (hΓ : HoldsAll Tryd.prog G0 cPlace_Γ) : CalOk Tryd.prog G0 50 cPlace_I := inlF_ok mixed tOk (ctrOf_ok hΓ) Tryd.func50 rfl rfl rfl rfl (noL_ok _)

/-! ## (drayman/cmd.form).read -/
def cRead_l5 {R : Type} : Nat → List (List PV) → Int → Int → Int → Int → Int → Int → Int → Int → Int → Int → Int → Int → Int → Int → Int → Int → ByteArray → Nat → (Bool → Int → Int → Int → Int → Int → Int → Int → Int → Option R) → (Int → Int → Int → Int → Int → Int → Int → Int → Int → Int → Int → Int → Int → Int → Int → Int → Option R) → Option R
  | 0, _, _, _, _, _, _, _, _, _, _, _, _, _, _, _, _, _, _, _, _, _ => none
  | n + 1, w84, i85, i86, i87, i88, i89, i90, i91, i92, i93, i94, i95, i96, i97, i98, i99, i100, s101, j102, k0, k1 =>
    if j102 < (s101).size then
      Option.bind (idx w84 (IntKind.i64.wrap ((1 : Int) + (j102 : Int)))) fun e103 =>
      if e103.length = 1 then
        Option.bind (e103[0]?) fun c104 =>
        Option.bind (PV.asS c104) fun s105 =>
        Option.bind (cNumber_d s105) fun y106 =>
        cond (!y106.2) (
          k0 false 0 0 0 0 0 0 0 0) (
          cond (((Utf8.decode s101 j102).1 : Int) == (115 : Int)) (
            cRead_l5 n w84 i85 i86 i87 i88 i89 i90 i91 i92 i93 y106.1 i95 i96 i97 i98 i99 i100 s101 (j102 + (Utf8.decode s101 j102).2) k0 k1) (
            cond (((Utf8.decode s101 j102).1 : Int) == (99 : Int)) (
              cRead_l5 n w84 i85 i86 i87 i88 i89 i90 i91 i92 i93 i94 y106.1 i96 i97 i98 i99 i100 s101 (j102 + (Utf8.decode s101 j102).2) k0 k1) (
              cond (((Utf8.decode s101 j102).1 : Int) == (97 : Int)) (
                cRead_l5 n w84 i85 i86 i87 i88 i89 i90 i91 i92 i93 i94 i95 y106.1 i97 i98 i99 i100 s101 (j102 + (Utf8.decode s101 j102).2) k0 k1) (
                cond (((Utf8.decode s101 j102).1 : Int) == (109 : Int)) (
                  cRead_l5 n w84 i85 i86 i87 i88 i89 i90 i91 i92 i93 i94 i95 i96 y106.1 i98 i99 i100 s101 (j102 + (Utf8.decode s101 j102).2) k0 k1) (
                  cond (((Utf8.decode s101 j102).1 : Int) == (98 : Int)) (
                    cRead_l5 n w84 i85 i86 i87 i88 i89 i90 i91 i92 i93 i94 i95 i96 i97 y106.1 i99 i100 s101 (j102 + (Utf8.decode s101 j102).2) k0 k1) (
                    cond (((Utf8.decode s101 j102).1 : Int) == (120 : Int)) (
                      cRead_l5 n w84 i85 i86 i87 i88 i89 i90 i91 i92 i93 i94 i95 i96 i97 i98 y106.1 i100 s101 (j102 + (Utf8.decode s101 j102).2) k0 k1) (
                      cRead_l5 n w84 i85 i86 i87 i88 i89 i90 i91 i92 i93 i94 i95 i96 i97 i98 i99 y106.1 s101 (j102 + (Utf8.decode s101 j102).2) k0 k1)))))))
      else none
    else
      k1 i85 i86 i87 i88 i89 i90 i91 i92 i93 i94 i95 i96 i97 i98 i99 i100
def cRead_q13 {R : Type} (n : Nat) (b248 : Bool) (i249 : Int) (i250 : Int) (i251 : Int) (i252 : Int) (i253 : Int) (i254 : Int) (i255 : Int) (i256 : Int) (i257 : Int) (i258 : Int) (i259 : Int) (i260 : Int) (i261 : Int) (i262 : Int) (i263 : Int) (i264 : Int) (k0 : Bool → Int → Int → Int → Int → Int → Int → Int → Int → Option R) (k1 : Int → Int → Int → Int → Int → Int → Int → Int → Int → Int → Int → Int → Int → Int → Int → Int → Option R) : Option R :=
  cond b248 (
    k0 false 0 0 0 0 0 0 0 0) (
    k1 i249 i250 i251 i252 i253 i254 i255 i256 i257 i258 i259 i260 i261 i262 i263 i264)
def cRead_q4 {R : Type} (n : Nat) (w227 : List (List PV)) (b228 : Bool) (s229 : ByteArray) (i230 : Int) (s231 : ByteArray) (i232 : Int) (i233 : Int) (i234 : Int) (i235 : Int) (i236 : Int) (i237 : Int) (i238 : Int) (i239 : Int) (i240 : Int) (i241 : Int) (i242 : Int) (i243 : Int) (i244 : Int) (i245 : Int) (i246 : Int) (i247 : Int) (k0 : Bool → Int → Int → Int → Int → Int → Int → Int → Int → Option R) (k1 : List (List PV) → ByteArray → Int → ByteArray → Int → Int → Int → Int → Int → Int → Int → Int → Int → Int → Int → Int → Int → Int → Int → Int → Option R) : Option R :=
  cond b228 (
    k0 false 0 0 0 0 0 0 0 0) (
    k1 w227 s229 i230 s231 i232 i233 i234 i235 i236 i237 i238 i239 i240 i241 i242 i243 i244 i245 i246 i247)
def cRead_q5 {R : Type} (n : Nat) (w107 : List (List PV)) (s108 : ByteArray) (i109 : Int) (s110 : ByteArray) (i111 : Int) (i112 : Int) (i113 : Int) (i114 : Int) (i115 : Int) (i116 : Int) (i117 : Int) (i118 : Int) (i119 : Int) (i120 : Int) (i121 : Int) (i122 : Int) (i123 : Int) (i124 : Int) (i125 : Int) (i126 : Int) (k0 : Bool → Int → Int → Int → Int → Int → Int → Int → Int → Option R) : Option R :=
  cRead_l5 n w107 i111 i112 i113 i114 i115 i116 i117 i118 i119 i120 i121 i122 i123 i124 i125 i126 s110 0 k0
    (fun (i136 : Int) (i137 : Int) (i138 : Int) (i139 : Int) (i140 : Int) (i141 : Int) (i142 : Int) (i143 : Int) (i144 : Int) (i145 : Int) (i146 : Int) (i147 : Int) (i148 : Int) (i149 : Int) (i150 : Int) (i151 : Int) =>
      cond (i144 == (8 : Int)) (
        cond (decide (i149 < (1 : Int))) (
          cRead_q13 n true i136 i137 i138 i139 i140 i141 i142 i143 i144 i145 i146 i147 i148 i149 i150 i151 k0
            (fun (i161 : Int) (i162 : Int) (i163 : Int) (i164 : Int) (i165 : Int) (i166 : Int) (i167 : Int) (i168 : Int) (i169 : Int) (i170 : Int) (i171 : Int) (i172 : Int) (i173 : Int) (i174 : Int) (i175 : Int) (i176 : Int) =>
              k0 true i169 i170 i171 i172 i173 i174 i175 i176)) (
          cRead_q13 n (decide (i149 > (20 : Int))) i136 i137 i138 i139 i140 i141 i142 i143 i144 i145 i146 i147 i148 i149 i150 i151 k0
            (fun (i186 : Int) (i187 : Int) (i188 : Int) (i189 : Int) (i190 : Int) (i191 : Int) (i192 : Int) (i193 : Int) (i194 : Int) (i195 : Int) (i196 : Int) (i197 : Int) (i198 : Int) (i199 : Int) (i200 : Int) (i201 : Int) =>
              k0 true i194 i195 i196 i197 i198 i199 i200 i201))) (
        cRead_q13 n false i136 i137 i138 i139 i140 i141 i142 i143 i144 i145 i146 i147 i148 i149 i150 i151 k0
          (fun (i211 : Int) (i212 : Int) (i213 : Int) (i214 : Int) (i215 : Int) (i216 : Int) (i217 : Int) (i218 : Int) (i219 : Int) (i220 : Int) (i221 : Int) (i222 : Int) (i223 : Int) (i224 : Int) (i225 : Int) (i226 : Int) =>
            k0 true i219 i220 i221 i222 i223 i224 i225 i226)))
def cRead_b {R : Type} (n : Nat) (f1 : ByteArray) (f2 : Int) (f3 : ByteArray) (w4 : List (List PV)) (k : Int → Int → Int → Int → Int → Int → Int → Int → Bool → Option R) : Option R :=
  Option.bind (idx w4 (0 : Int)) fun e5 =>
  if e5.length = 1 then
    Option.bind (e5[0]?) fun c6 =>
    Option.bind (PV.asS c6) fun s7 =>
    cond (!(ByteArray.toList s7 == ByteArray.toList f1)) (
      cRead_q4 n w4 true f1 f2 f3 0 0 0 0 0 0 0 0 f2 0 0 0 (-1) 0 0 (-1)
        (fun (b8 : Bool) (i9 : Int) (i10 : Int) (i11 : Int) (i12 : Int) (i13 : Int) (i14 : Int) (i15 : Int) (i16 : Int) =>
          k i9 i10 i11 i12 i13 i14 i15 i16 b8)
        (fun (w17 : List (List PV)) (s18 : ByteArray) (i19 : Int) (s20 : ByteArray) (i21 : Int) (i22 : Int) (i23 : Int) (i24 : Int) (i25 : Int) (i26 : Int) (i27 : Int) (i28 : Int) (i29 : Int) (i30 : Int) (i31 : Int) (i32 : Int) (i33 : Int) (i34 : Int) (i35 : Int) (i36 : Int) =>
          cRead_q5 n w17 s18 i19 s20 i21 i22 i23 i24 i25 i26 i27 i28 i29 i30 i31 i32 i33 i34 i35 i36
            (fun (b37 : Bool) (i38 : Int) (i39 : Int) (i40 : Int) (i41 : Int) (i42 : Int) (i43 : Int) (i44 : Int) (i45 : Int) =>
              k i38 i39 i40 i41 i42 i43 i44 i45 b37))) (
      cRead_q4 n w4 ((w4.length : Int) != (IntKind.i64.wrap ((1 : Int) + ((f3).size : Int)))) f1 f2 f3 0 0 0 0 0 0 0 0 f2 0 0 0 (-1) 0 0 (-1)
        (fun (b46 : Bool) (i47 : Int) (i48 : Int) (i49 : Int) (i50 : Int) (i51 : Int) (i52 : Int) (i53 : Int) (i54 : Int) =>
          k i47 i48 i49 i50 i51 i52 i53 i54 b46)
        (fun (w55 : List (List PV)) (s56 : ByteArray) (i57 : Int) (s58 : ByteArray) (i59 : Int) (i60 : Int) (i61 : Int) (i62 : Int) (i63 : Int) (i64 : Int) (i65 : Int) (i66 : Int) (i67 : Int) (i68 : Int) (i69 : Int) (i70 : Int) (i71 : Int) (i72 : Int) (i73 : Int) (i74 : Int) =>
          cRead_q5 n w55 s56 i57 s58 i59 i60 i61 i62 i63 i64 i65 i66 i67 i68 i69 i70 i71 i72 i73 i74
            (fun (b75 : Bool) (i76 : Int) (i77 : Int) (i78 : Int) (i79 : Int) (i80 : Int) (i81 : Int) (i82 : Int) (i83 : Int) =>
              k i76 i77 i78 i79 i80 i81 i82 i83 b75)))
  else none
def cRead_E (y : Int × Int × Int × Int × Int × Int × Int × Int × Bool) : PV × List PV := ((PV.tuple [(PV.agg [(PV.int .i64 y.1), (PV.int .i64 y.2.1), (PV.int .i64 y.2.2.1), (PV.int .i64 y.2.2.2.1), (PV.int .i64 y.2.2.2.2.1), (PV.int .i64 y.2.2.2.2.2.1), (PV.int .i64 y.2.2.2.2.2.2.1), (PV.int .i64 y.2.2.2.2.2.2.2.1)]), (PV.bool y.2.2.2.2.2.2.2.2)]), [])
def cRead_D : List PV → Option (Int × Int × Int × Int × Int × Int × Int × Int × Bool)
  | [(PV.agg [(PV.str f1), (PV.int .i64 f2), (PV.str f3)]), (PV.fs w4)] => sCRead f1 f2 f3 w4
  | _ => none
def cRead_Γ : List (Nat × Cal) := [(72, .ctr cNumber_C), (50, cPlace_I)]
def cRead_C : Ctr := ⟨[none, none], Int × Int × Int × Int × Int × Int × Int × Int × Bool, cRead_D, cRead_E, true, .d⟩
def cRead_cfg : List (Nat × LC) := [(4000004, ⟨[1, 2, 4, 6, 28], [], [], []⟩),
  (6000004, ⟨[4, 5], [], [], []⟩),
  (5000004, ⟨[1, 2, 4, 6], [], [], []⟩),
  (5, ⟨[1, 4, 6, 32], [], [], []⟩),
  (4000005, ⟨[1, 2, 4, 6], [], [], []⟩),
  (2000005, ⟨[4, 5], [], [], []⟩),
  (1005000, ⟨[4, 6], [], [], []⟩),
  (6000005, ⟨[4, 5], [], [], []⟩),
  (4000013, ⟨[4, 6, 65], [], [], []⟩),
  (6000013, ⟨[4, 5], [], [], []⟩),
  (5000013, ⟨[4, 6], [], [], []⟩)]
def cRead_pat : Nat → Option SP
  | 5 => some ⟨sparse .undef [(1, (.val .fs)), (4, (.ref 0 0)), (6, (.ref 1 0)), (32, (.it 2))] 0 68, [(.box [(.val (.int .i64)), (.val (.int .i64)), (.val (.int .i64)), (.val (.int .i64)), (.val (.int .i64)), (.val (.int .i64)), (.val (.int .i64)), (.val (.int .i64))]), (.pbox (.agg [(.int .i64), (.int .i64), (.int .i64), (.int .i64), (.int .i64), (.int .i64), (.int .i64), (.int .i64)]) 8), .sit], []⟩
  | _ => none
def cRead_patj : Nat → Option SP
  | 13 => some ⟨sparse .undef [(4, (.ref 0 0)), (6, (.ref 1 0)), (65, (.val .bool))] 0 68, [(.box [(.val (.int .i64)), (.val (.int .i64)), (.val (.int .i64)), (.val (.int .i64)), (.val (.int .i64)), (.val (.int .i64)), (.val (.int .i64)), (.val (.int .i64))]), (.pbox (.agg [(.int .i64), (.int .i64), (.int .i64), (.int .i64), (.int .i64), (.int .i64), (.int .i64), (.int .i64)]) 8)], []⟩
  | 4 => some ⟨sparse .undef [(1, (.val .fs)), (2, (.ref 0 0)), (4, (.ref 1 0)), (6, (.ref 2 0)), (28, (.val .bool))] 0 68, [(.pbox (.agg [.str, (.int .i64), .str]) 3), (.box [(.val (.int .i64)), (.val (.int .i64)), (.val (.int .i64)), (.val (.int .i64)), (.val (.int .i64)), (.val (.int .i64)), (.val (.int .i64)), (.val (.int .i64))]), (.pbox (.agg [(.int .i64), (.int .i64), (.int .i64), (.int .i64), (.int .i64), (.int .i64), (.int .i64), (.int .i64)]) 8)], []⟩
  | 5 => some ⟨sparse .undef [(1, (.val .fs)), (2, (.ref 0 0)), (4, (.ref 1 0)), (6, (.ref 2 0))] 0 68, [(.pbox (.agg [.str, (.int .i64), .str]) 3), (.box [(.val (.int .i64)), (.val (.int .i64)), (.val (.int .i64)), (.val (.int .i64)), (.val (.int .i64)), (.val (.int .i64)), (.val (.int .i64)), (.val (.int .i64))]), (.pbox (.agg [(.int .i64), (.int .i64), (.int .i64), (.int .i64), (.int .i64), (.int .i64), (.int .i64), (.int .i64)]) 8)], []⟩
  | _ => none
def cRead_L5 (n : Nat) (ls : List Leaf) (R : Type) (k : Ex → St → Option R) : Option R :=
  match ls with
  | [.rows w84, .int i85, .int i86, .int i87, .int i88, .int i89, .int i90, .int i91, .int i92, .int i93, .int i94, .int i95, .int i96, .int i97, .int i98, .int i99, .int i100, .str s101, .nat j102] => cRead_l5 n w84 i85 i86 i87 i88 i89 i90 i91 i92 i93 i94 i95 i96 i97 i98 i99 i100 s101 j102 (fun y1265 y1266 y1267 y1268 y1269 y1270 y1271 y1272 y1273 => k .ret ⟨sparse .undef [(4, (TV.ref 0 0)), (5, (TV.val (PV.bool y1265)))] 0 68, [(Ob.pbox (PV.agg [(PV.int .i64 y1266), (PV.int .i64 y1267), (PV.int .i64 y1268), (PV.int .i64 y1269), (PV.int .i64 y1270), (PV.int .i64 y1271), (PV.int .i64 y1272), (PV.int .i64 y1273)]) 8)], []⟩)
      (fun y1274 y1275 y1276 y1277 y1278 y1279 y1280 y1281 y1282 y1283 y1284 y1285 y1286 y1287 y1288 y1289 => k (.exit 0) ⟨sparse .undef [(4, (TV.ref 0 0)), (6, (TV.ref 1 0))] 0 68, [(Ob.box [(TV.val (PV.int .i64 y1274)), (TV.val (PV.int .i64 y1275)), (TV.val (PV.int .i64 y1276)), (TV.val (PV.int .i64 y1277)), (TV.val (PV.int .i64 y1278)), (TV.val (PV.int .i64 y1279)), (TV.val (PV.int .i64 y1280)), (TV.val (PV.int .i64 y1281))]), (Ob.pbox (PV.agg [(PV.int .i64 y1282), (PV.int .i64 y1283), (PV.int .i64 y1284), (PV.int .i64 y1285), (PV.int .i64 y1286), (PV.int .i64 y1287), (PV.int .i64 y1288), (PV.int .i64 y1289)]) 8)], []⟩)
  | _ => none
def cRead_J13 (n : Nat) (ls : List Leaf) (R : Type) (k : Ex → St → Option R) : Option R :=
  match ls with
  | [.bool b248, .int i249, .int i250, .int i251, .int i252, .int i253, .int i254, .int i255, .int i256, .int i257, .int i258, .int i259, .int i260, .int i261, .int i262, .int i263, .int i264] => cRead_q13 n b248 i249 i250 i251 i252 i253 i254 i255 i256 i257 i258 i259 i260 i261 i262 i263 i264 (fun y2290 y2291 y2292 y2293 y2294 y2295 y2296 y2297 y2298 => k .ret ⟨sparse .undef [(4, (TV.ref 0 0)), (5, (TV.val (PV.bool y2290)))] 0 68, [(Ob.pbox (PV.agg [(PV.int .i64 y2291), (PV.int .i64 y2292), (PV.int .i64 y2293), (PV.int .i64 y2294), (PV.int .i64 y2295), (PV.int .i64 y2296), (PV.int .i64 y2297), (PV.int .i64 y2298)]) 8)], []⟩)
      (fun y2299 y2300 y2301 y2302 y2303 y2304 y2305 y2306 y2307 y2308 y2309 y2310 y2311 y2312 y2313 y2314 => k .normal ⟨sparse .undef [(4, (TV.ref 0 0)), (6, (TV.ref 1 0))] 0 68, [(Ob.box [(TV.val (PV.int .i64 y2299)), (TV.val (PV.int .i64 y2300)), (TV.val (PV.int .i64 y2301)), (TV.val (PV.int .i64 y2302)), (TV.val (PV.int .i64 y2303)), (TV.val (PV.int .i64 y2304)), (TV.val (PV.int .i64 y2305)), (TV.val (PV.int .i64 y2306))]), (Ob.pbox (PV.agg [(PV.int .i64 y2307), (PV.int .i64 y2308), (PV.int .i64 y2309), (PV.int .i64 y2310), (PV.int .i64 y2311), (PV.int .i64 y2312), (PV.int .i64 y2313), (PV.int .i64 y2314)]) 8)], []⟩)
  | _ => none
def cRead_J4 (n : Nat) (ls : List Leaf) (R : Type) (k : Ex → St → Option R) : Option R :=
  match ls with
  | [.rows w227, .bool b228, .str s229, .int i230, .str s231, .int i232, .int i233, .int i234, .int i235, .int i236, .int i237, .int i238, .int i239, .int i240, .int i241, .int i242, .int i243, .int i244, .int i245, .int i246, .int i247] => cRead_q4 n w227 b228 s229 i230 s231 i232 i233 i234 i235 i236 i237 i238 i239 i240 i241 i242 i243 i244 i245 i246 i247 (fun y3315 y3316 y3317 y3318 y3319 y3320 y3321 y3322 y3323 => k .ret ⟨sparse .undef [(4, (TV.ref 0 0)), (5, (TV.val (PV.bool y3315)))] 0 68, [(Ob.pbox (PV.agg [(PV.int .i64 y3316), (PV.int .i64 y3317), (PV.int .i64 y3318), (PV.int .i64 y3319), (PV.int .i64 y3320), (PV.int .i64 y3321), (PV.int .i64 y3322), (PV.int .i64 y3323)]) 8)], []⟩)
      (fun y3324 y3325 y3326 y3327 y3328 y3329 y3330 y3331 y3332 y3333 y3334 y3335 y3336 y3337 y3338 y3339 y3340 y3341 y3342 y3343 => k .normal ⟨sparse .undef [(1, (TV.val (PV.fs y3324))), (2, (TV.ref 0 0)), (4, (TV.ref 1 0)), (6, (TV.ref 2 0))] 0 68, [(Ob.pbox (PV.agg [(PV.str y3325), (PV.int .i64 y3326), (PV.str y3327)]) 3), (Ob.box [(TV.val (PV.int .i64 y3328)), (TV.val (PV.int .i64 y3329)), (TV.val (PV.int .i64 y3330)), (TV.val (PV.int .i64 y3331)), (TV.val (PV.int .i64 y3332)), (TV.val (PV.int .i64 y3333)), (TV.val (PV.int .i64 y3334)), (TV.val (PV.int .i64 y3335))]), (Ob.pbox (PV.agg [(PV.int .i64 y3336), (PV.int .i64 y3337), (PV.int .i64 y3338), (PV.int .i64 y3339), (PV.int .i64 y3340), (PV.int .i64 y3341), (PV.int .i64 y3342), (PV.int .i64 y3343)]) 8)], []⟩)
  | _ => none
def cRead_J5 (n : Nat) (ls : List Leaf) (R : Type) (k : Ex → St → Option R) : Option R :=
  match ls with
  | [.rows w107, .str s108, .int i109, .str s110, .int i111, .int i112, .int i113, .int i114, .int i115, .int i116, .int i117, .int i118, .int i119, .int i120, .int i121, .int i122, .int i123, .int i124, .int i125, .int i126] => cRead_q5 n w107 s108 i109 s110 i111 i112 i113 i114 i115 i116 i117 i118 i119 i120 i121 i122 i123 i124 i125 i126 (fun y4344 y4345 y4346 y4347 y4348 y4349 y4350 y4351 y4352 => k .ret ⟨sparse .undef [(4, (TV.ref 0 0)), (5, (TV.val (PV.bool y4344)))] 0 68, [(Ob.pbox (PV.agg [(PV.int .i64 y4345), (PV.int .i64 y4346), (PV.int .i64 y4347), (PV.int .i64 y4348), (PV.int .i64 y4349), (PV.int .i64 y4350), (PV.int .i64 y4351), (PV.int .i64 y4352)]) 8)], []⟩)
  | _ => none
def cRead_L (n key : Nat) (ls : List Leaf) (R : Type) (k : Ex → St → Option R) : Option R :=
  match key with
  | 5 => cRead_L5 n ls R k
  | _ => none
def cRead_J (n key : Nat) (ls : List Leaf) (R : Type) (k : Ex → St → Option R) : Option R :=
  match key with
  | 13 => cRead_J13 n ls R k
  | 4 => cRead_J4 n ls R k
  | 5 => cRead_J5 n ls R k
  | _ => none
def cRead_on : Code → Bool := onKeys [5, 4, 13]
def cRead_Λ : Nat → Loops := patL (normBy cRead_cfg) cRead_pat cRead_L (normJ cRead_cfg) cRead_on cRead_patj cRead_J
theorem cRead_step5 (n : Nat) (w84 : List (List PV)) (i85 : Int) (i86 : Int) (i87 : Int) (i88 : Int) (i89 : Int) (i90 : Int) (i91 : Int) (i92 : Int) (i93 : Int) (i94 : Int) (i95 : Int) (i96 : Int) (i97 : Int) (i98 : Int) (i99 : Int) (i100 : Int) (s101 : ByteArray) (j102 : Nat)  (R : Type) (k : Ex → St → Option R) :
    roundK T G0 (ctrOf cRead_Γ) (normBy cRead_cfg) (cRead_Λ n) (codeAt [1, 1, 1, 0, 1, 0, 0] (bodyOf Tryd.f49)) (buildSt ⟨sparse .undef [(1, (.val .fs)), (4, (.ref 0 0)), (6, (.ref 1 0)), (32, (.it 2))] 0 68, [(.box [(.val (.int .i64)), (.val (.int .i64)), (.val (.int .i64)), (.val (.int .i64)), (.val (.int .i64)), (.val (.int .i64)), (.val (.int .i64)), (.val (.int .i64))]), (.pbox (.agg [(.int .i64), (.int .i64), (.int .i64), (.int .i64), (.int .i64), (.int .i64), (.int .i64), (.int .i64)]) 8), .sit], []⟩ [.rows w84, .int i85, .int i86, .int i87, .int i88, .int i89, .int i90, .int i91, .int i92, .int i93, .int i94, .int i95, .int i96, .int i97, .int i98, .int i99, .int i100, .str s101, .nat j102]) R k = cRead_L5 (n + 1) [.rows w84, .int i85, .int i86, .int i87, .int i88, .int i89, .int i90, .int i91, .int i92, .int i93, .int i94, .int i95, .int i96, .int i97, .int i98, .int i99, .int i100, .str s101, .nat j102] R k := by kernel_rfl
theorem cRead_stepq5 (n : Nat) (w107 : List (List PV)) (s108 : ByteArray) (i109 : Int) (s110 : ByteArray) (i111 : Int) (i112 : Int) (i113 : Int) (i114 : Int) (i115 : Int) (i116 : Int) (i117 : Int) (i118 : Int) (i119 : Int) (i120 : Int) (i121 : Int) (i122 : Int) (i123 : Int) (i124 : Int) (i125 : Int) (i126 : Int)  (R : Type) (k : Ex → St → Option R) :
    joinK T G0 (ctrOf cRead_Γ) (normJ cRead_cfg) (cRead_Λ n) (codeAt [1, 1, 1] (bodyOf Tryd.f49)) (buildSt ⟨sparse .undef [(1, (.val .fs)), (2, (.ref 0 0)), (4, (.ref 1 0)), (6, (.ref 2 0))] 0 68, [(.pbox (.agg [.str, (.int .i64), .str]) 3), (.box [(.val (.int .i64)), (.val (.int .i64)), (.val (.int .i64)), (.val (.int .i64)), (.val (.int .i64)), (.val (.int .i64)), (.val (.int .i64)), (.val (.int .i64))]), (.pbox (.agg [(.int .i64), (.int .i64), (.int .i64), (.int .i64), (.int .i64), (.int .i64), (.int .i64), (.int .i64)]) 8)], []⟩ [.rows w107, .str s108, .int i109, .str s110, .int i111, .int i112, .int i113, .int i114, .int i115, .int i116, .int i117, .int i118, .int i119, .int i120, .int i121, .int i122, .int i123, .int i124, .int i125, .int i126]) R k = cRead_J5 n [.rows w107, .str s108, .int i109, .str s110, .int i111, .int i112, .int i113, .int i114, .int i115, .int i116, .int i117, .int i118, .int i119, .int i120, .int i121, .int i122, .int i123, .int i124, .int i125, .int i126] R k := by kernel_rfl
theorem cRead_stepq4 (n : Nat) (w227 : List (List PV)) (b228 : Bool) (s229 : ByteArray) (i230 : Int) (s231 : ByteArray) (i232 : Int) (i233 : Int) (i234 : Int) (i235 : Int) (i236 : Int) (i237 : Int) (i238 : Int) (i239 : Int) (i240 : Int) (i241 : Int) (i242 : Int) (i243 : Int) (i244 : Int) (i245 : Int) (i246 : Int) (i247 : Int)  (R : Type) (k : Ex → St → Option R) :
    joinK T G0 (ctrOf cRead_Γ) (normJ cRead_cfg) (cRead_Λ n) (codeAt [1, 1, 0, 1] (bodyOf Tryd.f49)) (buildSt ⟨sparse .undef [(1, (.val .fs)), (2, (.ref 0 0)), (4, (.ref 1 0)), (6, (.ref 2 0)), (28, (.val .bool))] 0 68, [(.pbox (.agg [.str, (.int .i64), .str]) 3), (.box [(.val (.int .i64)), (.val (.int .i64)), (.val (.int .i64)), (.val (.int .i64)), (.val (.int .i64)), (.val (.int .i64)), (.val (.int .i64)), (.val (.int .i64))]), (.pbox (.agg [(.int .i64), (.int .i64), (.int .i64), (.int .i64), (.int .i64), (.int .i64), (.int .i64), (.int .i64)]) 8)], []⟩ [.rows w227, .bool b228, .str s229, .int i230, .str s231, .int i232, .int i233, .int i234, .int i235, .int i236, .int i237, .int i238, .int i239, .int i240, .int i241, .int i242, .int i243, .int i244, .int i245, .int i246, .int i247]) R k = cRead_J4 n [.rows w227, .bool b228, .str s229, .int i230, .str s231, .int i232, .int i233, .int i234, .int i235, .int i236, .int i237, .int i238, .int i239, .int i240, .int i241, .int i242, .int i243, .int i244, .int i245, .int i246, .int i247] R k := by kernel_rfl
theorem cRead_stepq13 (n : Nat) (b248 : Bool) (i249 : Int) (i250 : Int) (i251 : Int) (i252 : Int) (i253 : Int) (i254 : Int) (i255 : Int) (i256 : Int) (i257 : Int) (i258 : Int) (i259 : Int) (i260 : Int) (i261 : Int) (i262 : Int) (i263 : Int) (i264 : Int)  (R : Type) (k : Ex → St → Option R) :
    joinK T G0 (ctrOf cRead_Γ) (normJ cRead_cfg) (cRead_Λ n) (codeAt [1, 1, 1, 1, 0, 1] (bodyOf Tryd.f49)) (buildSt ⟨sparse .undef [(4, (.ref 0 0)), (6, (.ref 1 0)), (65, (.val .bool))] 0 68, [(.box [(.val (.int .i64)), (.val (.int .i64)), (.val (.int .i64)), (.val (.int .i64)), (.val (.int .i64)), (.val (.int .i64)), (.val (.int .i64)), (.val (.int .i64))]), (.pbox (.agg [(.int .i64), (.int .i64), (.int .i64), (.int .i64), (.int .i64), (.int .i64), (.int .i64), (.int .i64)]) 8)], []⟩ [.bool b248, .int i249, .int i250, .int i251, .int i252, .int i253, .int i254, .int i255, .int i256, .int i257, .int i258, .int i259, .int i260, .int i261, .int i262, .int i263, .int i264]) R k = cRead_J13 n [.bool b248, .int i249, .int i250, .int i251, .int i252, .int i253, .int i254, .int i255, .int i256, .int i257, .int i258, .int i259, .int i260, .int i261, .int i262, .int i263, .int i264] R k := by kernel_rfl
theorem cRead_eq (n : Nat) (f1 : ByteArray) (f2 : Int) (f3 : ByteArray) (w4 : List (List PV)) :
    funK T G0 (ctrOf cRead_Γ) (cRead_Λ n) .d true [none, none] (funOf Tryd.f49) [(PV.agg [(PV.str f1), (PV.int .i64 f2), (PV.str f3)]), (PV.fs w4)] = cRead_b n  f1 f2 f3 w4 (fun a0 a1 a2 a3 a4 a5 a6 a7 a8 => some (cRead_E (a0, a1, a2, a3, a4, a5, a6, a7, a8))) := by kernel_rfl
theorem cRead_inv {ps : List PV} {y : Int × Int × Int × Int × Int × Int × Int × Int × Bool} (h : cRead_D ps = some y) : ∃ (f1 : ByteArray) (f2 : Int) (f3 : ByteArray) (w4 : List (List PV)), ps = [(PV.agg [(PV.str f1), (PV.int .i64 f2), (PV.str f3)]), (PV.fs w4)] := by
  unfold cRead_D at h
  split at h
  · exact ⟨_, _, _, _, rfl⟩
  · cases h
theorem cRead_loops : loopsOf (bodyOf Tryd.f49) = [codeAt [1, 1, 1, 0, 1, 0, 0] (bodyOf Tryd.f49)] := by kernel_rfl
theorem cRead_joins : (joinsOf (bodyOf Tryd.f49)).filter cRead_on = [codeAt [1, 1, 1] (bodyOf Tryd.f49), codeAt [1, 1, 0, 1] (bodyOf Tryd.f49), codeAt [1, 1, 1, 1, 0, 1] (bodyOf Tryd.f49)] := by kernel_rfl
theorem cRead_holds (hΓ : HoldsAll Tryd.prog G0 cRead_Γ) (hok : ∀ (f1 : ByteArray) (f2 : Int) (f3 : ByteArray) (w4 : List (List PV)) (y : Int × Int × Int × Int × Int × Int × Int × Int × Bool), sCRead f1 f2 f3 w4 = some y → ∃ n, ∀ (R : Type) (k : Int → Int → Int → Int → Int → Int → Int → Int → Bool → Option R), cRead_b n  f1 f2 f3 w4 k = k y.1 y.2.1 y.2.2.1 y.2.2.2.1 y.2.2.2.2.1 y.2.2.2.2.2.1 y.2.2.2.2.2.2.1 y.2.2.2.2.2.2.2.1 y.2.2.2.2.2.2.2.2) : Holds Tryd.prog G0 49 cRead_C := by
  refine fun_pat mixed tOk (ctrOf_ok hΓ) Tryd.func49 rfl rfl rfl rfl (F := funOf Tryd.f49) (normBy_ok cRead_cfg) (pat := cRead_pat) (L := cRead_L) (normJ_ok cRead_cfg) (on := cRead_on) (patj := cRead_patj) (J := cRead_J) (fun c hc ls R k => ?_) (fun c hc p hp m ls R k r h => ?_) (fun c hc p hp m ls R k r h => ?_) (fun ps x h => ?_)
  · rw [show (funOf Tryd.f49).code = bodyOf Tryd.f49 from rfl, cRead_loops] at hc
    simp only [List.mem_cons, List.not_mem_nil, or_false] at hc
    rcases hc with rfl
    · show cRead_L5 0 ls R k = none
      unfold cRead_L5
      split
      · rfl
      · rfl
  · rw [show (funOf Tryd.f49).code = bodyOf Tryd.f49 from rfl, cRead_loops] at hc
    simp only [List.mem_cons, List.not_mem_nil, or_false] at hc
    rcases hc with rfl
    · have hp' : p = ⟨sparse .undef [(1, (.val .fs)), (4, (.ref 0 0)), (6, (.ref 1 0)), (32, (.it 2))] 0 68, [(.box [(.val (.int .i64)), (.val (.int .i64)), (.val (.int .i64)), (.val (.int .i64)), (.val (.int .i64)), (.val (.int .i64)), (.val (.int .i64)), (.val (.int .i64))]), (.pbox (.agg [(.int .i64), (.int .i64), (.int .i64), (.int .i64), (.int .i64), (.int .i64), (.int .i64), (.int .i64)]) 8), .sit], []⟩ := (Option.some.inj (hp : some _ = some p)).symm
      subst hp'
      change cRead_L5 (m + 1) ls R k = some r at h
      have h' := h
      unfold cRead_L5 at h'
      split at h'
      · exact (cRead_step5 m _ _ _ _ _ _ _ _ _ _ _ _ _ _ _ _ _ _ _ R k).trans h
      · cases h'
  · rw [show (funOf Tryd.f49).code = bodyOf Tryd.f49 from rfl, cRead_joins] at hc
    simp only [List.mem_cons, List.not_mem_nil, or_false] at hc
    rcases hc with rfl | rfl | rfl
    · have hp' : p = ⟨sparse .undef [(1, (.val .fs)), (2, (.ref 0 0)), (4, (.ref 1 0)), (6, (.ref 2 0))] 0 68, [(.pbox (.agg [.str, (.int .i64), .str]) 3), (.box [(.val (.int .i64)), (.val (.int .i64)), (.val (.int .i64)), (.val (.int .i64)), (.val (.int .i64)), (.val (.int .i64)), (.val (.int .i64)), (.val (.int .i64))]), (.pbox (.agg [(.int .i64), (.int .i64), (.int .i64), (.int .i64), (.int .i64), (.int .i64), (.int .i64), (.int .i64)]) 8)], []⟩ := (Option.some.inj (hp : some _ = some p)).symm
      subst hp'
      change cRead_J5 m ls R k = some r at h
      have h' := h
      unfold cRead_J5 at h'
      split at h'
      · exact (cRead_stepq5 m _ _ _ _ _ _ _ _ _ _ _ _ _ _ _ _ _ _ _ _ R k).trans h
      · cases h'
    · have hp' : p = ⟨sparse .undef [(1, (.val .fs)), (2, (.ref 0 0)), (4, (.ref 1 0)), (6, (.ref 2 0)), (28, (.val .bool))] 0 68, [(.pbox (.agg [.str, (.int .i64), .str]) 3), (.box [(.val (.int .i64)), (.val (.int .i64)), (.val (.int .i64)), (.val (.int .i64)), (.val (.int .i64)), (.val (.int .i64)), (.val (.int .i64)), (.val (.int .i64))]), (.pbox (.agg [(.int .i64), (.int .i64), (.int .i64), (.int .i64), (.int .i64), (.int .i64), (.int .i64), (.int .i64)]) 8)], []⟩ := (Option.some.inj (hp : some _ = some p)).symm
      subst hp'
      change cRead_J4 m ls R k = some r at h
      have h' := h
      unfold cRead_J4 at h'
      split at h'
      · exact (cRead_stepq4 m _ _ _ _ _ _ _ _ _ _ _ _ _ _ _ _ _ _ _ _ _ R k).trans h
      · cases h'
    · have hp' : p = ⟨sparse .undef [(4, (.ref 0 0)), (6, (.ref 1 0)), (65, (.val .bool))] 0 68, [(.box [(.val (.int .i64)), (.val (.int .i64)), (.val (.int .i64)), (.val (.int .i64)), (.val (.int .i64)), (.val (.int .i64)), (.val (.int .i64)), (.val (.int .i64))]), (.pbox (.agg [(.int .i64), (.int .i64), (.int .i64), (.int .i64), (.int .i64), (.int .i64), (.int .i64), (.int .i64)]) 8)], []⟩ := (Option.some.inj (hp : some _ = some p)).symm
      subst hp'
      change cRead_J13 m ls R k = some r at h
      have h' := h
      unfold cRead_J13 at h'
      split at h'
      · exact (cRead_stepq13 m _ _ _ _ _ _ _ _ _ _ _ _ _ _ _ _ _ R k).trans h
      · cases h'
  · obtain ⟨y, hy, hx⟩ := bind_inv h
    cases hx
    obtain ⟨f1, f2, f3, w4, rfl⟩ := cRead_inv hy
    obtain ⟨n, hn⟩ := hok f1 f2 f3 w4 y hy
    exact ⟨n, (cRead_eq n f1 f2 f3 w4).trans (hn _ _)⟩

/-! ## drayman/cmd.Parse -/
def cParse_l5 {R : Type} : Nat → Int → Int → Int → Int → Int → Int → Int → Int → Int → Int → List (List PV) → List (List PV) → (Int → Int → Int → Int → Int → Int → Int → Int → Int → Option R) → (Int → Int → Int → Int → Int → Int → Int → Int → Option R) → Option R
  | 0, _, _, _, _, _, _, _, _, _, _, _, _, _, _ => none
  | n + 1, i21, i22, i23, i24, i25, i26, i27, i28, i29, i30, es31, es32, k0, k1 =>
    cond (decide (i22 < i21)) (
      if 0 ≤ i22 ∧ i22 < (es32.length : Int) then
        Option.bind (es32[(Int.toNat i22)]?) fun e33 =>
        Option.bind (subAgg e33 0 3) fun p34 =>
        if (PV.isAgg p34 3) = true then
          Option.bind (cRead_D [p34, (PV.fs es31)]) fun y35 =>
          cond y35.2.2.2.2.2.2.2.2 (
            k0 0 y35.1 y35.2.1 y35.2.2.1 y35.2.2.2.1 y35.2.2.2.2.1 y35.2.2.2.2.2.1 y35.2.2.2.2.2.2.1 y35.2.2.2.2.2.2.2.1) (
            cParse_l5 n i21 (IntKind.i64.wrap (i22 + (1 : Int))) i23 i24 i25 i26 i27 i28 i29 i30 es31 es32 k0 k1)
        else none
      else none) (
      k1 i23 i24 i25 i26 i27 i28 i29 i30)
def cParse_b {R : Type} (n : Nat) (line1 : ByteArray) (k : Int → Int → Int → Int → Int → Int → Int → Int → Int → Option R) : Option R :=
  Option.bind (sWords line1) fun y2 =>
  cond ((y2.length : Int) == (0 : Int)) (
    k 0 0 0 0 0 0 0 0 2) (
    Option.bind (cForms_d) fun y3 =>
    cParse_l5 n (y3.length : Int) 0 0 0 0 0 0 0 0 0 y2 y3
      (fun (i4 : Int) (i5 : Int) (i6 : Int) (i7 : Int) (i8 : Int) (i9 : Int) (i10 : Int) (i11 : Int) (i12 : Int) =>
        k i5 i6 i7 i8 i9 i10 i11 i12 i4)
      (fun (i13 : Int) (i14 : Int) (i15 : Int) (i16 : Int) (i17 : Int) (i18 : Int) (i19 : Int) (i20 : Int) =>
        k 0 0 0 0 0 0 0 0 2))
def cParse_E (y : Int × Int × Int × Int × Int × Int × Int × Int × Int) : PV × List PV := ((PV.tuple [(PV.agg [(PV.int .i64 y.1), (PV.int .i64 y.2.1), (PV.int .i64 y.2.2.1), (PV.int .i64 y.2.2.2.1), (PV.int .i64 y.2.2.2.2.1), (PV.int .i64 y.2.2.2.2.2.1), (PV.int .i64 y.2.2.2.2.2.2.1), (PV.int .i64 y.2.2.2.2.2.2.2.1)]), (PV.int .i64 y.2.2.2.2.2.2.2.2)]), [])
def cParse_D : List PV → Option (Int × Int × Int × Int × Int × Int × Int × Int × Int)
  | [(PV.str line1)] => sCParse line1
  | _ => none
def cParse_Γ : List (Nat × Cal) := [(27, .ctr wordsS_C), (48, .ctr cForms_C), (49, .ctr cRead_C)]
def cParse_C : Ctr := ⟨[none], Int × Int × Int × Int × Int × Int × Int × Int × Int, cParse_D, cParse_E, true, .d⟩
def cParse_cfg : List (Nat × LC) := [(5, ⟨[2, 4, 15, 16, 17], [], [], []⟩),
  (2000005, ⟨[2, 3], [], [], []⟩),
  (1005000, ⟨[2], [], [], []⟩)]
def cParse_pat : Nat → Option SP
  | 5 => some ⟨sparse .undef [(2, (.ref 0 0)), (4, (.ow 1)), (15, (.ow 2)), (16, (.val (.int .i64))), (17, (.val (.int .i64)))] 0 31, [(.box [(.val (.int .i64)), (.val (.int .i64)), (.val (.int .i64)), (.val (.int .i64)), (.val (.int .i64)), (.val (.int .i64)), (.val (.int .i64)), (.val (.int .i64))]), (.row 1), (.row 3)], []⟩
  | _ => none
def cParse_patj : Nat → Option SP
  | _ => none
def cParse_L5 (n : Nat) (ls : List Leaf) (R : Type) (k : Ex → St → Option R) : Option R :=
  match ls with
  | [.int i21, .int i22, .int i23, .int i24, .int i25, .int i26, .int i27, .int i28, .int i29, .int i30, .rows es31, .rows es32] => cParse_l5 n i21 i22 i23 i24 i25 i26 i27 i28 i29 i30 es31 es32 (fun y1036 y1037 y1038 y1039 y1040 y1041 y1042 y1043 y1044 => k .ret ⟨sparse .undef [(2, (TV.ref 0 0)), (3, (TV.val (PV.int .i64 y1036)))] 0 31, [(Ob.pbox (PV.agg [(PV.int .i64 y1037), (PV.int .i64 y1038), (PV.int .i64 y1039), (PV.int .i64 y1040), (PV.int .i64 y1041), (PV.int .i64 y1042), (PV.int .i64 y1043), (PV.int .i64 y1044)]) 8)], []⟩)
      (fun y1045 y1046 y1047 y1048 y1049 y1050 y1051 y1052 => k (.exit 0) ⟨sparse .undef [(2, (TV.ref 0 0))] 0 31, [(Ob.box [(TV.val (PV.int .i64 y1045)), (TV.val (PV.int .i64 y1046)), (TV.val (PV.int .i64 y1047)), (TV.val (PV.int .i64 y1048)), (TV.val (PV.int .i64 y1049)), (TV.val (PV.int .i64 y1050)), (TV.val (PV.int .i64 y1051)), (TV.val (PV.int .i64 y1052))])], []⟩)
  | _ => none
def cParse_L (n key : Nat) (ls : List Leaf) (R : Type) (k : Ex → St → Option R) : Option R :=
  match key with
  | 5 => cParse_L5 n ls R k
  | _ => none
def cParse_J (n key : Nat) (ls : List Leaf) (R : Type) (k : Ex → St → Option R) : Option R :=
  match key with
  | _ => none
def cParse_on : Code → Bool := fun _ => false
def cParse_Λ : Nat → Loops := patL (normBy cParse_cfg) cParse_pat cParse_L (normJ cParse_cfg) cParse_on cParse_patj cParse_J
theorem cParse_step5 (n : Nat) (i21 : Int) (i22 : Int) (i23 : Int) (i24 : Int) (i25 : Int) (i26 : Int) (i27 : Int) (i28 : Int) (i29 : Int) (i30 : Int) (es31 : List (List PV)) (es32 : List (List PV))  (R : Type) (k : Ex → St → Option R) :
    roundK T G0 (ctrOf cParse_Γ) (normBy cParse_cfg) (cParse_Λ n) (codeAt [1, 1, 1, 0, 1, 0, 0] (bodyOf Tryd.f31)) (buildSt ⟨sparse .undef [(2, (.ref 0 0)), (4, (.ow 1)), (15, (.ow 2)), (16, (.val (.int .i64))), (17, (.val (.int .i64)))] 0 31, [(.box [(.val (.int .i64)), (.val (.int .i64)), (.val (.int .i64)), (.val (.int .i64)), (.val (.int .i64)), (.val (.int .i64)), (.val (.int .i64)), (.val (.int .i64))]), (.row 1), (.row 3)], []⟩ [.int i21, .int i22, .int i23, .int i24, .int i25, .int i26, .int i27, .int i28, .int i29, .int i30, .rows es31, .rows es32]) R k = cParse_L5 (n + 1) [.int i21, .int i22, .int i23, .int i24, .int i25, .int i26, .int i27, .int i28, .int i29, .int i30, .rows es31, .rows es32] R k := by kernel_rfl
theorem cParse_eq (n : Nat) (line1 : ByteArray) :
    funK T G0 (ctrOf cParse_Γ) (cParse_Λ n) .d true [none] (funOf Tryd.f31) [(PV.str line1)] = cParse_b n  line1 (fun a0 a1 a2 a3 a4 a5 a6 a7 a8 => some (cParse_E (a0, a1, a2, a3, a4, a5, a6, a7, a8))) := by kernel_rfl
theorem cParse_inv {ps : List PV} {y : Int × Int × Int × Int × Int × Int × Int × Int × Int} (h : cParse_D ps = some y) : ∃ (line1 : ByteArray), ps = [(PV.str line1)] := by
  unfold cParse_D at h
  split at h
  · exact ⟨_, rfl⟩
  · cases h
theorem cParse_loops : loopsOf (bodyOf Tryd.f31) = [codeAt [1, 1, 1, 0, 1, 0, 0] (bodyOf Tryd.f31)] := by kernel_rfl
theorem cParse_holds (hΓ : HoldsAll Tryd.prog G0 cParse_Γ) (hok : ∀ (line1 : ByteArray) (y : Int × Int × Int × Int × Int × Int × Int × Int × Int), sCParse line1 = some y → ∃ n, ∀ (R : Type) (k : Int → Int → Int → Int → Int → Int → Int → Int → Int → Option R), cParse_b n  line1 k = k y.1 y.2.1 y.2.2.1 y.2.2.2.1 y.2.2.2.2.1 y.2.2.2.2.2.1 y.2.2.2.2.2.2.1 y.2.2.2.2.2.2.2.1 y.2.2.2.2.2.2.2.2) : Holds Tryd.prog G0 31 cParse_C := by
  refine fun_pat mixed tOk (ctrOf_ok hΓ) Tryd.func31 rfl rfl rfl rfl (F := funOf Tryd.f31) (normBy_ok cParse_cfg) (pat := cParse_pat) (L := cParse_L) (normJ_ok cParse_cfg) (on := cParse_on) (patj := cParse_patj) (J := cParse_J) (fun c hc ls R k => ?_) (fun c hc p hp m ls R k r h => ?_) (fun c hc p hp m ls R k r h => ?_) (fun ps x h => ?_)
  · rw [show (funOf Tryd.f31).code = bodyOf Tryd.f31 from rfl, cParse_loops] at hc
    simp only [List.mem_cons, List.not_mem_nil, or_false] at hc
    rcases hc with rfl
    · show cParse_L5 0 ls R k = none
      unfold cParse_L5
      split
      · rfl
      · rfl
  · rw [show (funOf Tryd.f31).code = bodyOf Tryd.f31 from rfl, cParse_loops] at hc
    simp only [List.mem_cons, List.not_mem_nil, or_false] at hc
    rcases hc with rfl
    · have hp' : p = ⟨sparse .undef [(2, (.ref 0 0)), (4, (.ow 1)), (15, (.ow 2)), (16, (.val (.int .i64))), (17, (.val (.int .i64)))] 0 31, [(.box [(.val (.int .i64)), (.val (.int .i64)), (.val (.int .i64)), (.val (.int .i64)), (.val (.int .i64)), (.val (.int .i64)), (.val (.int .i64)), (.val (.int .i64))]), (.row 1), (.row 3)], []⟩ := (Option.some.inj (hp : some _ = some p)).symm
      subst hp'
      change cParse_L5 (m + 1) ls R k = some r at h
      have h' := h
      unfold cParse_L5 at h'
      split at h'
      · exact (cParse_step5 m _ _ _ _ _ _ _ _ _ _ _ _ R k).trans h
      · cases h'
  · cases (List.mem_filter.1 hc).2
  · obtain ⟨y, hy, hx⟩ := bind_inv h
    cases hx
    obtain ⟨line1, rfl⟩ := cParse_inv hy
    obtain ⟨n, hn⟩ := hok line1 y hy
    exact ⟨n, (cParse_eq n line1).trans (hn _ _)⟩

/-! ## drayman/cmd.Print -/
def cPrint_l6 {R : Type} : Nat → ByteArray → Int → Int → Int → Int → Int → Int → Int → Int → Int → Int → List (List PV) → ByteArray → Nat → (ByteArray → Int → Int → Int → Int → Int → Int → Int → Int → Int → Int → List (List PV) → Option R) → Option R
  | 0, _, _, _, _, _, _, _, _, _, _, _, _, _, _, _ => none
  | n + 1, out42, i43, i44, i45, i46, i47, i48, i49, i50, i51, i52, es53, s54, j55, k0 =>
    if j55 < (s54).size then
      if (out42).size + ((ByteArray.mk #[32])).size ≤ 140737488355328 then
        cond (((Utf8.decode s54 j55).1 : Int) == (115 : Int)) (
          Option.bind (digits_d i46) fun y56 =>
          if ((out42 ++ (ByteArray.mk #[32]))).size + (y56).size ≤ 140737488355328 then
            cPrint_l6 n ((out42 ++ (ByteArray.mk #[32])) ++ y56) i43 i44 i45 i46 i47 i48 i49 i50 i51 i52 es53 s54 (j55 + (Utf8.decode s54 j55).2) k0
          else none) (
          cond (((Utf8.decode s54 j55).1 : Int) == (99 : Int)) (
            Option.bind (digits_d i47) fun y57 =>
            if ((out42 ++ (ByteArray.mk #[32]))).size + (y57).size ≤ 140737488355328 then
              cPrint_l6 n ((out42 ++ (ByteArray.mk #[32])) ++ y57) i43 i44 i45 i46 i47 i48 i49 i50 i51 i52 es53 s54 (j55 + (Utf8.decode s54 j55).2) k0
            else none) (
            cond (((Utf8.decode s54 j55).1 : Int) == (97 : Int)) (
              Option.bind (digits_d i48) fun y58 =>
              if ((out42 ++ (ByteArray.mk #[32]))).size + (y58).size ≤ 140737488355328 then
                cPrint_l6 n ((out42 ++ (ByteArray.mk #[32])) ++ y58) i43 i44 i45 i46 i47 i48 i49 i50 i51 i52 es53 s54 (j55 + (Utf8.decode s54 j55).2) k0
              else none) (
              cond (((Utf8.decode s54 j55).1 : Int) == (109 : Int)) (
                Option.bind (digits_d i49) fun y59 =>
                if ((out42 ++ (ByteArray.mk #[32]))).size + (y59).size ≤ 140737488355328 then
                  cPrint_l6 n ((out42 ++ (ByteArray.mk #[32])) ++ y59) i43 i44 i45 i46 i47 i48 i49 i50 i51 i52 es53 s54 (j55 + (Utf8.decode s54 j55).2) k0
                else none) (
                cond (((Utf8.decode s54 j55).1 : Int) == (98 : Int)) (
                  Option.bind (digits_d i50) fun y60 =>
                  if ((out42 ++ (ByteArray.mk #[32]))).size + (y60).size ≤ 140737488355328 then
                    cPrint_l6 n ((out42 ++ (ByteArray.mk #[32])) ++ y60) i43 i44 i45 i46 i47 i48 i49 i50 i51 i52 es53 s54 (j55 + (Utf8.decode s54 j55).2) k0
                  else none) (
                  cond (((Utf8.decode s54 j55).1 : Int) == (120 : Int)) (
                    Option.bind (digits_d i51) fun y61 =>
                    if ((out42 ++ (ByteArray.mk #[32]))).size + (y61).size ≤ 140737488355328 then
                      cPrint_l6 n ((out42 ++ (ByteArray.mk #[32])) ++ y61) i43 i44 i45 i46 i47 i48 i49 i50 i51 i52 es53 s54 (j55 + (Utf8.decode s54 j55).2) k0
                    else none) (
                    Option.bind (digits_d i52) fun y62 =>
                    if ((out42 ++ (ByteArray.mk #[32]))).size + (y62).size ≤ 140737488355328 then
                      cPrint_l6 n ((out42 ++ (ByteArray.mk #[32])) ++ y62) i43 i44 i45 i46 i47 i48 i49 i50 i51 i52 es53 s54 (j55 + (Utf8.decode s54 j55).2) k0
                    else none))))))
      else none
    else
      k0 out42 i43 i44 i45 i46 i47 i48 i49 i50 i51 i52 es53
def cPrint_l2 {R : Type} : Nat → Int → Int → Int → Int → Int → Int → Int → Int → Int → Int → List (List PV) → (Unit → Option R) → (ByteArray → Int → Option R) → Option R
  | 0, _, _, _, _, _, _, _, _, _, _, _, _, _ => none
  | n + 1, i12, i13, i14, i15, i16, i17, i18, i19, i20, i21, es22, k0, k1 =>
    cond (decide (i13 < i12)) (
      if 0 ≤ i13 ∧ i13 < (es22.length : Int) then
        Option.bind (es22[(Int.toNat i13)]?) fun e23 =>
        Option.bind (subAgg e23 0 3) fun p24 =>
        if (PV.isAgg p24 3) = true then
          Option.bind ((PV.cells p24)[0]?) fun c25 =>
          Option.bind (PV.asS c25) fun s26 =>
          Option.bind ((PV.cells p24)[2]?) fun c27 =>
          Option.bind (PV.asS c27) fun s28 =>
          cPrint_l6 n s26 i12 i13 i14 i15 i16 i17 i18 i19 i20 i21 es22 s28 0
            (fun (out29 : ByteArray) (i30 : Int) (i31 : Int) (i32 : Int) (i33 : Int) (i34 : Int) (i35 : Int) (i36 : Int) (i37 : Int) (i38 : Int) (i39 : Int) (es40 : List (List PV)) =>
              Option.bind (sCParse out29) fun y41 =>
              cond (y41.2.2.2.2.2.2.2.2 == (0 : Int)) (
                cond ((y41.1 == i32) && ((y41.2.1 == i33) && ((y41.2.2.1 == i34) && ((y41.2.2.2.1 == i35) && ((y41.2.2.2.2.1 == i36) && ((y41.2.2.2.2.2.1 == i37) && ((y41.2.2.2.2.2.2.1 == i38) && ((y41.2.2.2.2.2.2.2.1 == i39) && true)))))))) (
                  k1 out29 0) (
                  cPrint_l2 n i30 (IntKind.i64.wrap (i31 + (1 : Int))) i32 i33 i34 i35 i36 i37 i38 i39 es40 k0 k1)) (
                cPrint_l2 n i30 (IntKind.i64.wrap (i31 + (1 : Int))) i32 i33 i34 i35 i36 i37 i38 i39 es40 k0 k1))
        else none
      else none) (
      k0 ())
def cPrint_b {R : Type} (n : Nat) (c1 : Int) (c2 : Int) (c3 : Int) (c4 : Int) (c5 : Int) (c6 : Int) (c7 : Int) (c8 : Int) (k : ByteArray → Int → Option R) : Option R :=
  Option.bind (cForms_d) fun y9 =>
  cPrint_l2 n (y9.length : Int) 0 c1 c2 c3 c4 c5 c6 c7 c8 y9
    (fun (_ : Unit) =>
      k (ByteArray.mk #[]) 1) k
def cPrint_E (y : ByteArray × Int) : PV × List PV := ((PV.tuple [(PV.str y.1), (PV.int .i64 y.2)]), [])
def cPrint_D : List PV → Option (ByteArray × Int)
  | [(PV.agg [(PV.int .i64 c1), (PV.int .i64 c2), (PV.int .i64 c3), (PV.int .i64 c4), (PV.int .i64 c5), (PV.int .i64 c6), (PV.int .i64 c7), (PV.int .i64 c8)])] => sCPrint c1 c2 c3 c4 c5 c6 c7 c8
  | _ => none
def cPrint_Γ : List (Nat × Cal) := [(48, .ctr cForms_C), (31, .ctr cParse_C), (50, cPlace_I), (14, .ctr digits_C)]
def cPrint_C : Ctr := ⟨[none], ByteArray × Int, cPrint_D, cPrint_E, true, .d⟩
def cPrint_cfg : List (Nat × LC) := [(2, ⟨[1, 11, 12, 13], [], [], []⟩),
  (6, ⟨[1, 6, 11, 12, 13, 21], [], [], []⟩),
  (1002000, ⟨[], [], [], []⟩),
  (1006002, ⟨[1, 6, 11, 12, 13], [], [], []⟩),
  (2000002, ⟨[2, 3], [], [], []⟩)]
def cPrint_pat : Nat → Option SP
  | 6 => some ⟨sparse .undef [(1, (.ref 0 0)), (6, (.val .str)), (11, (.ow 1)), (12, (.val (.int .i64))), (13, (.val (.int .i64))), (21, (.it 2))] 0 47, [(.pbox (.agg [(.int .i64), (.int .i64), (.int .i64), (.int .i64), (.int .i64), (.int .i64), (.int .i64), (.int .i64)]) 8), (.row 3), .sit], []⟩
  | 2 => some ⟨sparse .undef [(1, (.ref 0 0)), (11, (.ow 1)), (12, (.val (.int .i64))), (13, (.val (.int .i64)))] 0 47, [(.pbox (.agg [(.int .i64), (.int .i64), (.int .i64), (.int .i64), (.int .i64), (.int .i64), (.int .i64), (.int .i64)]) 8), (.row 3)], []⟩
  | _ => none
def cPrint_patj : Nat → Option SP
  | _ => none
def cPrint_L6 (n : Nat) (ls : List Leaf) (R : Type) (k : Ex → St → Option R) : Option R :=
  match ls with
  | [.str out42, .int i43, .int i44, .int i45, .int i46, .int i47, .int i48, .int i49, .int i50, .int i51, .int i52, .rows es53, .str s54, .nat j55] => cPrint_l6 n out42 i43 i44 i45 i46 i47 i48 i49 i50 i51 i52 es53 s54 j55 (fun y1063 y1064 y1065 y1066 y1067 y1068 y1069 y1070 y1071 y1072 y1073 y1074 => k (.exit 2) ⟨sparse .undef [(1, (TV.ref 0 0)), (6, (TV.val (PV.str y1063))), (11, (TV.ow 1)), (12, (TV.val (PV.int .i64 y1064))), (13, (TV.val (PV.int .i64 y1065)))] 0 47, [(Ob.pbox (PV.agg [(PV.int .i64 y1066), (PV.int .i64 y1067), (PV.int .i64 y1068), (PV.int .i64 y1069), (PV.int .i64 y1070), (PV.int .i64 y1071), (PV.int .i64 y1072), (PV.int .i64 y1073)]) 8), (Ob.row y1074 3)], []⟩)
  | _ => none
def cPrint_L2 (n : Nat) (ls : List Leaf) (R : Type) (k : Ex → St → Option R) : Option R :=
  match ls with
  | [.int i12, .int i13, .int i14, .int i15, .int i16, .int i17, .int i18, .int i19, .int i20, .int i21, .rows es22] => cPrint_l2 n i12 i13 i14 i15 i16 i17 i18 i19 i20 i21 es22 (fun _ => k (.exit 0) ⟨sparse .undef [] 0 47, [], []⟩)
      (fun y2075 y2076 => k .ret ⟨sparse .undef [(2, (TV.val (PV.str y2075))), (3, (TV.val (PV.int .i64 y2076)))] 0 47, [], []⟩)
  | _ => none
def cPrint_L (n key : Nat) (ls : List Leaf) (R : Type) (k : Ex → St → Option R) : Option R :=
  match key with
  | 6 => cPrint_L6 n ls R k
  | 2 => cPrint_L2 n ls R k
  | _ => none
def cPrint_J (n key : Nat) (ls : List Leaf) (R : Type) (k : Ex → St → Option R) : Option R :=
  match key with
  | _ => none
def cPrint_on : Code → Bool := fun _ => false
def cPrint_Λ : Nat → Loops := patL (normBy cPrint_cfg) cPrint_pat cPrint_L (normJ cPrint_cfg) cPrint_on cPrint_patj cPrint_J
theorem cPrint_step2 (n : Nat) (i12 : Int) (i13 : Int) (i14 : Int) (i15 : Int) (i16 : Int) (i17 : Int) (i18 : Int) (i19 : Int) (i20 : Int) (i21 : Int) (es22 : List (List PV))  (R : Type) (k : Ex → St → Option R) :
    roundK T G0 (ctrOf cPrint_Γ) (normBy cPrint_cfg) (cPrint_Λ n) (codeAt [1, 0, 1, 0, 0] (bodyOf Tryd.f32)) (buildSt ⟨sparse .undef [(1, (.ref 0 0)), (11, (.ow 1)), (12, (.val (.int .i64))), (13, (.val (.int .i64)))] 0 47, [(.pbox (.agg [(.int .i64), (.int .i64), (.int .i64), (.int .i64), (.int .i64), (.int .i64), (.int .i64), (.int .i64)]) 8), (.row 3)], []⟩ [.int i12, .int i13, .int i14, .int i15, .int i16, .int i17, .int i18, .int i19, .int i20, .int i21, .rows es22]) R k = cPrint_L2 (n + 1) [.int i12, .int i13, .int i14, .int i15, .int i16, .int i17, .int i18, .int i19, .int i20, .int i21, .rows es22] R k := by kernel_rfl
theorem cPrint_step6 (n : Nat) (out42 : ByteArray) (i43 : Int) (i44 : Int) (i45 : Int) (i46 : Int) (i47 : Int) (i48 : Int) (i49 : Int) (i50 : Int) (i51 : Int) (i52 : Int) (es53 : List (List PV)) (s54 : ByteArray) (j55 : Nat)  (R : Type) (k : Ex → St → Option R) :
    roundK T G0 (ctrOf cPrint_Γ) (normBy cPrint_cfg) (cPrint_Λ n) (codeAt [1, 0, 1, 0, 0, 1, 1, 0, 0, 1, 1, 0, 1, 0, 0] (bodyOf Tryd.f32)) (buildSt ⟨sparse .undef [(1, (.ref 0 0)), (6, (.val .str)), (11, (.ow 1)), (12, (.val (.int .i64))), (13, (.val (.int .i64))), (21, (.it 2))] 0 47, [(.pbox (.agg [(.int .i64), (.int .i64), (.int .i64), (.int .i64), (.int .i64), (.int .i64), (.int .i64), (.int .i64)]) 8), (.row 3), .sit], []⟩ [.str out42, .int i43, .int i44, .int i45, .int i46, .int i47, .int i48, .int i49, .int i50, .int i51, .int i52, .rows es53, .str s54, .nat j55]) R k = cPrint_L6 (n + 1) [.str out42, .int i43, .int i44, .int i45, .int i46, .int i47, .int i48, .int i49, .int i50, .int i51, .int i52, .rows es53, .str s54, .nat j55] R k := by kernel_rfl
theorem cPrint_eq (n : Nat) (c1 : Int) (c2 : Int) (c3 : Int) (c4 : Int) (c5 : Int) (c6 : Int) (c7 : Int) (c8 : Int) :
    funK T G0 (ctrOf cPrint_Γ) (cPrint_Λ n) .d true [none] (funOf Tryd.f32) [(PV.agg [(PV.int .i64 c1), (PV.int .i64 c2), (PV.int .i64 c3), (PV.int .i64 c4), (PV.int .i64 c5), (PV.int .i64 c6), (PV.int .i64 c7), (PV.int .i64 c8)])] = cPrint_b n  c1 c2 c3 c4 c5 c6 c7 c8 (fun a0 a1 => some (cPrint_E (a0, a1))) := by kernel_rfl
theorem cPrint_inv {ps : List PV} {y : ByteArray × Int} (h : cPrint_D ps = some y) : ∃ (c1 : Int) (c2 : Int) (c3 : Int) (c4 : Int) (c5 : Int) (c6 : Int) (c7 : Int) (c8 : Int), ps = [(PV.agg [(PV.int .i64 c1), (PV.int .i64 c2), (PV.int .i64 c3), (PV.int .i64 c4), (PV.int .i64 c5), (PV.int .i64 c6), (PV.int .i64 c7), (PV.int .i64 c8)])] := by
  unfold cPrint_D at h
  split at h
  · exact ⟨_, _, _, _, _, _, _, _, rfl⟩
  · cases h
theorem cPrint_loops : loopsOf (bodyOf Tryd.f32) = [codeAt [1, 0, 1, 0, 0] (bodyOf Tryd.f32), codeAt [1, 0, 1, 0, 0, 1, 1, 0, 0, 1, 1, 0, 1, 0, 0] (bodyOf Tryd.f32)] := by kernel_rfl
theorem cPrint_holds (hΓ : HoldsAll Tryd.prog G0 cPrint_Γ) (hok : ∀ (c1 : Int) (c2 : Int) (c3 : Int) (c4 : Int) (c5 : Int) (c6 : Int) (c7 : Int) (c8 : Int) (y : ByteArray × Int), sCPrint c1 c2 c3 c4 c5 c6 c7 c8 = some y → ∃ n, ∀ (R : Type) (k : ByteArray → Int → Option R), cPrint_b n  c1 c2 c3 c4 c5 c6 c7 c8 k = k y.1 y.2) : Holds Tryd.prog G0 32 cPrint_C := by
  refine fun_pat mixed tOk (ctrOf_ok hΓ) Tryd.func32 rfl rfl rfl rfl (F := funOf Tryd.f32) (normBy_ok cPrint_cfg) (pat := cPrint_pat) (L := cPrint_L) (normJ_ok cPrint_cfg) (on := cPrint_on) (patj := cPrint_patj) (J := cPrint_J) (fun c hc ls R k => ?_) (fun c hc p hp m ls R k r h => ?_) (fun c hc p hp m ls R k r h => ?_) (fun ps x h => ?_)
  · rw [show (funOf Tryd.f32).code = bodyOf Tryd.f32 from rfl, cPrint_loops] at hc
    simp only [List.mem_cons, List.not_mem_nil, or_false] at hc
    rcases hc with rfl | rfl
    · show cPrint_L2 0 ls R k = none
      unfold cPrint_L2
      split
      · rfl
      · rfl
    · show cPrint_L6 0 ls R k = none
      unfold cPrint_L6
      split
      · rfl
      · rfl
  · rw [show (funOf Tryd.f32).code = bodyOf Tryd.f32 from rfl, cPrint_loops] at hc
    simp only [List.mem_cons, List.not_mem_nil, or_false] at hc
    rcases hc with rfl | rfl
    · have hp' : p = ⟨sparse .undef [(1, (.ref 0 0)), (11, (.ow 1)), (12, (.val (.int .i64))), (13, (.val (.int .i64)))] 0 47, [(.pbox (.agg [(.int .i64), (.int .i64), (.int .i64), (.int .i64), (.int .i64), (.int .i64), (.int .i64), (.int .i64)]) 8), (.row 3)], []⟩ := (Option.some.inj (hp : some _ = some p)).symm
      subst hp'
      change cPrint_L2 (m + 1) ls R k = some r at h
      have h' := h
      unfold cPrint_L2 at h'
      split at h'
      · exact (cPrint_step2 m _ _ _ _ _ _ _ _ _ _ _ R k).trans h
      · cases h'
    · have hp' : p = ⟨sparse .undef [(1, (.ref 0 0)), (6, (.val .str)), (11, (.ow 1)), (12, (.val (.int .i64))), (13, (.val (.int .i64))), (21, (.it 2))] 0 47, [(.pbox (.agg [(.int .i64), (.int .i64), (.int .i64), (.int .i64), (.int .i64), (.int .i64), (.int .i64), (.int .i64)]) 8), (.row 3), .sit], []⟩ := (Option.some.inj (hp : some _ = some p)).symm
      subst hp'
      change cPrint_L6 (m + 1) ls R k = some r at h
      have h' := h
      unfold cPrint_L6 at h'
      split at h'
      · exact (cPrint_step6 m _ _ _ _ _ _ _ _ _ _ _ _ _ _ R k).trans h
      · cases h'
  · cases (List.mem_filter.1 hc).2
  · obtain ⟨y, hy, hx⟩ := bind_inv h
    cases hx
    obtain ⟨c1, c2, c3, c4, c5, c6, c7, c8, rfl⟩ := cPrint_inv hy
    obtain ⟨n, hn⟩ := hok c1 c2 c3 c4 c5 c6 c7 c8 y hy
    exact ⟨n, (cPrint_eq n c1 c2 c3 c4 c5 c6 c7 c8).trans (hn _ _)⟩

/-! ## drayman/draymanlaw15.wakes -/
def wakes15_b {R : Type} (k : Bool → Option R) : Option R :=
  Option.bind (sCParse (ByteArray.mk #[100, 101, 108, 32, 51])) fun y1 =>
  cond (y1.2.2.2.2.2.2.2.2 == (0 : Int)) (
    k ((y1.1 == (2 : Int)) && ((y1.2.1 == (3 : Int)) && ((y1.2.2.1 == (0 : Int)) && ((y1.2.2.2.1 == (0 : Int)) && ((y1.2.2.2.2.1 == (-1 : Int)) && ((y1.2.2.2.2.2.1 == (0 : Int)) && ((y1.2.2.2.2.2.2.1 == (0 : Int)) && ((y1.2.2.2.2.2.2.2.1 == (-1 : Int)) && true))))))))) (
    k false)
def wakes15_E (y : Bool) : PV × List PV := ((PV.bool y), [])
def wakes15_d : Option (Bool) := wakes15_b fun a0 => some a0
def wakes15_D : List PV → Option (Bool)
  | [] => wakes15_d
  | _ => none
def wakes15_Γ : List (Nat × Cal) := [(31, .ctr cParse_C)]
def wakes15_C : Ctr := ⟨[], Bool, wakes15_D, wakes15_E, true, .d⟩
theorem wakes15_eq :
    funK T G0 (ctrOf wakes15_Γ) noL .d true [] (funOf Tryd.f33) [] = wakes15_b  (fun a0 => some (wakes15_E a0)) := by kernel_rfl
theorem wakes15_inv {ps : List PV} {y : Bool} (h : wakes15_D ps = some y) : ps = [] := by
  unfold wakes15_D at h
  split at h
  · rfl
  · cases h
theorem wakes15_nat {R : Type} (k : Bool → Option R) : wakes15_b k = Option.bind (wakes15_b fun a0 => some a0) fun y => k y := by
  unfold wakes15_b
  first | rfl | simp only [Option.bind_assoc, bind_cond, bind_ite, Option.bind_some, Option.bind_none]
theorem wakes15_holds (hΓ : HoldsAll Tryd.prog G0 wakes15_Γ) : Holds Tryd.prog G0 33 wakes15_C := by
  refine fun_ok mixed tOk (ctrOf_ok hΓ) Tryd.func33 rfl rfl rfl rfl (F := funOf Tryd.f33) (fun ps x h => ?_)
  obtain ⟨y, hy, hx⟩ := bind_inv h
  cases hx
  obtain rfl := wakes15_inv hy
  have hy' : wakes15_d = some y := hy
  refine ⟨noL, noL_ok _, (wakes15_eq).trans ?_⟩
  unfold wakes15_d at hy'
  rw [wakes15_nat, hy']
  rfl

end
end Go.Proofs.YtkeklbicmfhemaaDoorV
