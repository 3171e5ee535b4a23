/- Of this claim's texts what it needs, part 11. -/
import Derived.Test.YtkeklbicmfhemaaDoorRows
import Derived.Test.YtkeklbicmfhemaaDoorKScriptTellsRow10
namespace Go.Proofs.YtkeklbicmfhemaaDoorV
open Go
set_option maxRecDepth 100000
set_option linter.unusedVariables false
set_option linter.unusedSimpArgs false
noncomputable section
def rWords24_b {R : Type} (k : List (List PV) → Option R) : Option R :=
  k [[(PV.str (ByteArray.mk #[]))], [(PV.str (ByteArray.mk #[111, 112, 101, 110]))], [(PV.str (ByteArray.mk #[99, 108, 111, 115, 101]))], [(PV.str (ByteArray.mk #[115, 97, 121]))], [(PV.str (ByteArray.mk #[98, 121, 116, 101, 115]))], [(PV.str (ByteArray.mk #[112, 105, 99, 107]))], [(PV.str (ByteArray.mk #[114, 117, 110]))]]
def rWords24_E (y : (List (List PV))) : PV × List PV := ((PV.os y 1), [])
def rWords24_d : Option ((List (List PV))) := rWords24_b fun a0 => if (noMem (rWords24_E a0).1 && noMemL (rWords24_E a0).2) = true then some a0 else none
def rWords24_D : List PV → Option ((List (List PV)))
  | [] => rWords24_d
  | _ => none
def rWords24_Γ : List (Nat × Cal) := []
def rWords24_C : Ctr := ⟨[], (List (List PV)), rWords24_D, rWords24_E, true, .s⟩
theorem rWords24_eq :
    funK T G0 (ctrOf rWords24_Γ) noL .s true [] (funOf Tryd.f46) [] = rWords24_b  (fun a0 => if (noMem (rWords24_E a0).1 && noMemL (rWords24_E a0).2) = true then some (rWords24_E a0) else none) := by kernel_rfl
theorem rWords24_inv {ps : List PV} {y : (List (List PV))} (h : rWords24_D ps = some y) : ps = [] := by
  unfold rWords24_D at h
  split at h
  · rfl
  · cases h
theorem rWords24_nat {R : Type} (k : List (List PV) → Option R) : rWords24_b k = Option.bind (rWords24_b fun a0 => some a0) fun y => k y := by
  unfold rWords24_b
  first | rfl | simp only [Option.bind_assoc, bind_cond, bind_ite, Option.bind_some, Option.bind_none]
theorem rWords24_holds (hΓ : HoldsAll Tryd.prog G0 rWords24_Γ) : Holds Tryd.prog G0 46 rWords24_C := by
  refine fun_ok mixed tOk (ctrOf_ok hΓ) Tryd.func46 rfl rfl rfl rfl (F := funOf Tryd.f46) (fun ps x h => ?_)
  obtain ⟨y, hy, hx⟩ := bind_inv h
  cases hx
  obtain rfl := rWords24_inv hy
  have hy' : rWords24_d = some y := hy
  refine ⟨noL, noL_ok _, (rWords24_eq).trans ?_⟩
  unfold rWords24_d at hy'
  rw [rWords24_nat] at hy' ⊢
  obtain ⟨z, hz, hz'⟩ := bind_inv hy'
  rw [hz]
  try simp only at hz'
  split at hz'
  · rename_i hno
    cases hz'
    exact if_pos hno
  · cases hz'
def rPrint24_l13 {R : Type} : Nat → ByteArray → ByteArray → Int → List (List PV) → Int → Int → (ByteArray → Bool → Option R) → (ByteArray → ByteArray → List (List PV) → Int → Int → Option R) → Option R
  | 0, _, _, _, _, _, _, _, _ => none
  | n + 1, t71, s72, k73, es74, i75, i76, k0, k1 =>
    cond (decide (k73 < ((s72).size : Int))) (
      Option.bind (idx (s72).data.toList k73) fun u77 =>
      cond ((u77.toNat : Int) == (10 : Int)) (
        k0 (ByteArray.mk #[]) false) (
        rPrint24_l13 n t71 s72 (IntKind.i64.wrap (k73 + (1 : Int))) es74 i75 i76 k0 k1)) (
      k1 t71 s72 es74 i75 i76)
def rPrint24_q10 {R : Type} (n : Nat) (t264 : ByteArray) (s265 : ByteArray) (es266 : List (List PV)) (i267 : Int) (i268 : Int) (b269 : Bool) (p270 : PV) (k0 : ByteArray → ByteArray → List (List PV) → Int → Int → Option R) (k1 : ByteArray → Bool → Option R) : Option R :=
  cond b269 (
    Option.bind ((PV.cells p270)[2]?) fun c271 =>
    Option.bind (PV.asS c271) fun s272 =>
    if ((ByteArray.mk #[32])).size + (s272).size ≤ 140737488355328 then
      if (s265).size + (((ByteArray.mk #[32]) ++ s272)).size ≤ 140737488355328 then
        k0 t264 (s265 ++ ((ByteArray.mk #[32]) ++ s272)) es266 i267 i268
      else none
    else none) (
    Option.bind ((PV.cells p270)[2]?) fun c273 =>
    Option.bind (PV.asS c273) fun s274 =>
    cond (!(ByteArray.toList s274 == ByteArray.toList (ByteArray.mk #[]))) (
      k1 (ByteArray.mk #[]) false) (
      k0 t264 s265 es266 i267 i268))
def rPrint24_q13 {R : Type} (n : Nat) (t252 : ByteArray) (s253 : ByteArray) (es254 : List (List PV)) (i255 : Int) (i256 : Int) (k0 : ByteArray → Bool → Option R) (k1 : ByteArray → List (List PV) → Int → Int → Option R) : Option R :=
  rPrint24_l13 n t252 s253 0 es254 i255 i256 k0
    (fun (t259 : ByteArray) (s260 : ByteArray) (es261 : List (List PV)) (i262 : Int) (i263 : Int) =>
      if (s260).size + ((ByteArray.mk #[10])).size ≤ 140737488355328 then
        if (t259).size + ((s260 ++ (ByteArray.mk #[10]))).size ≤ 140737488355328 then
          k1 (t259 ++ (s260 ++ (ByteArray.mk #[10]))) es261 i262 i263
        else none
      else none)
def rPrint24_q7 {R : Type} (n : Nat) (t210 : ByteArray) (es211 : List (List PV)) (i212 : Int) (i213 : Int) (b214 : Bool) (p215 : PV) (k0 : ByteArray → Bool → Option R) (k1 : ByteArray → List (List PV) → Int → Int → PV → Option R) : Option R :=
  cond b214 (
    k0 (ByteArray.mk #[]) false) (
    k1 t210 es211 i212 i213 p215)
def rPrint24_q9 {R : Type} (n : Nat) (t216 : ByteArray) (s217 : ByteArray) (es218 : List (List PV)) (i219 : Int) (i220 : Int) (p221 : PV) (k0 : ByteArray → Bool → Option R) (k1 : ByteArray → List (List PV) → Int → Int → Option R) : Option R :=
  Option.bind ((PV.cells p221)[0]?) fun c222 =>
  Option.bind (PV.asI .i64 c222) fun n223 =>
  cond (n223 == (3 : Int)) (
    rPrint24_q10 n t216 s217 es218 i219 i220 true p221
      (fun (t224 : ByteArray) (s225 : ByteArray) (es226 : List (List PV)) (i227 : Int) (i228 : Int) =>
        rPrint24_q13 n t224 s225 es226 i227 i228 k0 k1) k0) (
    Option.bind ((PV.cells p221)[0]?) fun c237 =>
    Option.bind (PV.asI .i64 c237) fun n238 =>
    rPrint24_q10 n t216 s217 es218 i219 i220 (n238 == (4 : Int)) p221
      (fun (t239 : ByteArray) (s240 : ByteArray) (es241 : List (List PV)) (i242 : Int) (i243 : Int) =>
        rPrint24_q13 n t239 s240 es241 i242 i243 k0 k1) k0)
def rPrint24_q8 {R : Type} (n : Nat) (t78 : ByteArray) (es79 : List (List PV)) (i80 : Int) (i81 : Int) (p82 : PV) (k0 : ByteArray → Bool → Option R) (k1 : ByteArray → List (List PV) → Int → Int → Option R) : Option R :=
  meet (
    Option.bind (rWords24_d) fun y83 =>
    meet (
      Option.bind ((PV.cells p82)[0]?) fun c84 =>
      Option.bind (PV.asI .i64 c84) fun n85 =>
      if 0 ≤ n85 ∧ n85 < (y83.length : Int) then
        meet (
          Option.bind (y83[(Int.toNat n85)]?) fun e86 =>
          Option.bind (e86[0]?) fun c87 =>
          Option.bind (PV.asS c87) fun s88 =>
          meet (
            if (s88).size + ((ByteArray.mk #[32])).size ≤ 140737488355328 then
              Option.bind ((PV.cells p82)[1]?) fun c89 =>
              Option.bind (PV.asI .i64 c89) fun n90 =>
              Option.bind (sRDigits n90) fun y91 =>
              if ((s88 ++ (ByteArray.mk #[32]))).size + (y91).size ≤ 140737488355328 then
                rPrint24_q9 n t78 ((s88 ++ (ByteArray.mk #[32])) ++ y91) es79 i80 i81 p82 k0 k1
              else none
            else none) (
            Option.bind ((PV.cells p82)[1]?) fun c98 =>
            Option.bind (PV.asI .i64 c98) fun n99 =>
            Option.bind (sRDigits n99) fun y100 =>
            if (s88).size + ((ByteArray.mk #[32])).size ≤ 140737488355328 then
              if ((s88 ++ (ByteArray.mk #[32]))).size + (y100).size ≤ 140737488355328 then
                rPrint24_q9 n t78 ((s88 ++ (ByteArray.mk #[32])) ++ y100) es79 i80 i81 p82 k0 k1
              else none
            else none)) (
          Option.bind ((PV.cells p82)[1]?) fun c107 =>
          Option.bind (PV.asI .i64 c107) fun n108 =>
          Option.bind (sRDigits n108) fun y109 =>
          Option.bind (y83[(Int.toNat n85)]?) fun e110 =>
          Option.bind (e110[0]?) fun c111 =>
          Option.bind (PV.asS c111) fun s112 =>
          if (s112).size + ((ByteArray.mk #[32])).size ≤ 140737488355328 then
            if ((s112 ++ (ByteArray.mk #[32]))).size + (y109).size ≤ 140737488355328 then
              rPrint24_q9 n t78 ((s112 ++ (ByteArray.mk #[32])) ++ y109) es79 i80 i81 p82 k0 k1
            else none
          else none)
      else none) (
      Option.bind ((PV.cells p82)[1]?) fun c119 =>
      Option.bind (PV.asI .i64 c119) fun n120 =>
      Option.bind (sRDigits n120) fun y121 =>
      Option.bind ((PV.cells p82)[0]?) fun c122 =>
      Option.bind (PV.asI .i64 c122) fun n123 =>
      if 0 ≤ n123 ∧ n123 < (y83.length : Int) then
        Option.bind (y83[(Int.toNat n123)]?) fun e124 =>
        Option.bind (e124[0]?) fun c125 =>
        Option.bind (PV.asS c125) fun s126 =>
        if (s126).size + ((ByteArray.mk #[32])).size ≤ 140737488355328 then
          if ((s126 ++ (ByteArray.mk #[32]))).size + (y121).size ≤ 140737488355328 then
            rPrint24_q9 n t78 ((s126 ++ (ByteArray.mk #[32])) ++ y121) es79 i80 i81 p82 k0 k1
          else none
        else none
      else none)) (
    meet (
    Option.bind ((PV.cells p82)[0]?) fun c133 =>
    Option.bind (PV.asI .i64 c133) fun n134 =>
    meet (
      Option.bind (rWords24_d) fun y135 =>
      if 0 ≤ n134 ∧ n134 < (y135.length : Int) then
        meet (
          Option.bind (y135[(Int.toNat n134)]?) fun e136 =>
          Option.bind (e136[0]?) fun c137 =>
          Option.bind (PV.asS c137) fun s138 =>
          meet (
            if (s138).size + ((ByteArray.mk #[32])).size ≤ 140737488355328 then
              Option.bind ((PV.cells p82)[1]?) fun c139 =>
              Option.bind (PV.asI .i64 c139) fun n140 =>
              Option.bind (sRDigits n140) fun y141 =>
              if ((s138 ++ (ByteArray.mk #[32]))).size + (y141).size ≤ 140737488355328 then
                rPrint24_q9 n t78 ((s138 ++ (ByteArray.mk #[32])) ++ y141) es79 i80 i81 p82 k0 k1
              else none
            else none) (
            Option.bind ((PV.cells p82)[1]?) fun c148 =>
            Option.bind (PV.asI .i64 c148) fun n149 =>
            Option.bind (sRDigits n149) fun y150 =>
            if (s138).size + ((ByteArray.mk #[32])).size ≤ 140737488355328 then
              if ((s138 ++ (ByteArray.mk #[32]))).size + (y150).size ≤ 140737488355328 then
                rPrint24_q9 n t78 ((s138 ++ (ByteArray.mk #[32])) ++ y150) es79 i80 i81 p82 k0 k1
              else none
            else none)) (
          Option.bind ((PV.cells p82)[1]?) fun c157 =>
          Option.bind (PV.asI .i64 c157) fun n158 =>
          Option.bind (sRDigits n158) fun y159 =>
          Option.bind (y135[(Int.toNat n134)]?) fun e160 =>
          Option.bind (e160[0]?) fun c161 =>
          Option.bind (PV.asS c161) fun s162 =>
          if (s162).size + ((ByteArray.mk #[32])).size ≤ 140737488355328 then
            if ((s162 ++ (ByteArray.mk #[32]))).size + (y159).size ≤ 140737488355328 then
              rPrint24_q9 n t78 ((s162 ++ (ByteArray.mk #[32])) ++ y159) es79 i80 i81 p82 k0 k1
            else none
          else none)
      else none) (
      Option.bind ((PV.cells p82)[1]?) fun c169 =>
      Option.bind (PV.asI .i64 c169) fun n170 =>
      Option.bind (rWords24_d) fun y171 =>
      if 0 ≤ n134 ∧ n134 < (y171.length : Int) then
        Option.bind (sRDigits n170) fun y172 =>
        Option.bind (y171[(Int.toNat n134)]?) fun e173 =>
        Option.bind (e173[0]?) fun c174 =>
        Option.bind (PV.asS c174) fun s175 =>
        if (s175).size + ((ByteArray.mk #[32])).size ≤ 140737488355328 then
          if ((s175 ++ (ByteArray.mk #[32]))).size + (y172).size ≤ 140737488355328 then
            rPrint24_q9 n t78 ((s175 ++ (ByteArray.mk #[32])) ++ y172) es79 i80 i81 p82 k0 k1
          else none
        else none
      else none)) (
    Option.bind ((PV.cells p82)[1]?) fun c182 =>
    Option.bind (PV.asI .i64 c182) fun n183 =>
    meet (
      Option.bind (rWords24_d) fun y184 =>
      Option.bind (sRDigits n183) fun y185 =>
      Option.bind ((PV.cells p82)[0]?) fun c186 =>
      Option.bind (PV.asI .i64 c186) fun n187 =>
      if 0 ≤ n187 ∧ n187 < (y184.length : Int) then
        Option.bind (y184[(Int.toNat n187)]?) fun e188 =>
        Option.bind (e188[0]?) fun c189 =>
        Option.bind (PV.asS c189) fun s190 =>
        if (s190).size + ((ByteArray.mk #[32])).size ≤ 140737488355328 then
          if ((s190 ++ (ByteArray.mk #[32]))).size + (y185).size ≤ 140737488355328 then
            rPrint24_q9 n t78 ((s190 ++ (ByteArray.mk #[32])) ++ y185) es79 i80 i81 p82 k0 k1
          else none
        else none
      else none) (
      Option.bind ((PV.cells p82)[0]?) fun c197 =>
      Option.bind (PV.asI .i64 c197) fun n198 =>
      Option.bind (rWords24_d) fun y199 =>
      if 0 ≤ n198 ∧ n198 < (y199.length : Int) then
        Option.bind (sRDigits n183) fun y200 =>
        Option.bind (y199[(Int.toNat n198)]?) fun e201 =>
        Option.bind (e201[0]?) fun c202 =>
        Option.bind (PV.asS c202) fun s203 =>
        if (s203).size + ((ByteArray.mk #[32])).size ≤ 140737488355328 then
          if ((s203 ++ (ByteArray.mk #[32]))).size + (y200).size ≤ 140737488355328 then
            rPrint24_q9 n t78 ((s203 ++ (ByteArray.mk #[32])) ++ y200) es79 i80 i81 p82 k0 k1
          else none
        else none
      else none)))
def rPrint24_l3 {R : Type} : Nat → ByteArray → List (List PV) → Int → Int → (ByteArray → Option R) → (ByteArray → Bool → Option R) → Option R
  | 0, _, _, _, _, _, _ => none
  | n + 1, t5, es6, i7, i8, k0, k1 =>
    cond (decide (i8 < i7)) (
      Option.bind (idx es6 i8) fun e9 =>
      if e9.length = 3 then
        Option.bind (subAgg e9 0 3) fun p10 =>
        if (PV.isAgg p10 3) = true then
          Option.bind ((PV.cells p10)[0]?) fun c11 =>
          Option.bind (PV.asI .i64 c11) fun n12 =>
          cond (decide (n12 < (1 : Int))) (
            rPrint24_q7 n t5 es6 i7 i8 true p10 k1
              (fun (t15 : ByteArray) (es16 : List (List PV)) (i17 : Int) (i18 : Int) (p19 : PV) =>
                rPrint24_q8 n t15 es16 i17 i18 p19 k1
                  (fun (t22 : ByteArray) (es23 : List (List PV)) (i24 : Int) (i25 : Int) =>
                    rPrint24_l3 n t22 es23 i24 (IntKind.i64.wrap (i25 + (1 : Int))) k0 k1))) (
            Option.bind ((PV.cells p10)[0]?) fun c26 =>
            Option.bind (PV.asI .i64 c26) fun n27 =>
            cond (decide (n27 > (6 : Int))) (
              rPrint24_q7 n t5 es6 i7 i8 true p10 k1
                (fun (t30 : ByteArray) (es31 : List (List PV)) (i32 : Int) (i33 : Int) (p34 : PV) =>
                  rPrint24_q8 n t30 es31 i32 i33 p34 k1
                    (fun (t37 : ByteArray) (es38 : List (List PV)) (i39 : Int) (i40 : Int) =>
                      rPrint24_l3 n t37 es38 i39 (IntKind.i64.wrap (i40 + (1 : Int))) k0 k1))) (
              Option.bind ((PV.cells p10)[1]?) fun c41 =>
              Option.bind (PV.asI .i64 c41) fun n42 =>
              cond (decide (n42 < (0 : Int))) (
                rPrint24_q7 n t5 es6 i7 i8 true p10 k1
                  (fun (t45 : ByteArray) (es46 : List (List PV)) (i47 : Int) (i48 : Int) (p49 : PV) =>
                    rPrint24_q8 n t45 es46 i47 i48 p49 k1
                      (fun (t52 : ByteArray) (es53 : List (List PV)) (i54 : Int) (i55 : Int) =>
                        rPrint24_l3 n t52 es53 i54 (IntKind.i64.wrap (i55 + (1 : Int))) k0 k1))) (
                Option.bind ((PV.cells p10)[1]?) fun c56 =>
                Option.bind (PV.asI .i64 c56) fun n57 =>
                rPrint24_q7 n t5 es6 i7 i8 (decide (n57 > (9999 : Int))) p10 k1
                  (fun (t60 : ByteArray) (es61 : List (List PV)) (i62 : Int) (i63 : Int) (p64 : PV) =>
                    rPrint24_q8 n t60 es61 i62 i63 p64 k1
                      (fun (t67 : ByteArray) (es68 : List (List PV)) (i69 : Int) (i70 : Int) =>
                        rPrint24_l3 n t67 es68 i69 (IntKind.i64.wrap (i70 + (1 : Int))) k0 k1)))))
        else none
      else none) (
      k0 t5)
def rPrint24_b {R : Type} (n : Nat) (l1 : List (List PV)) (k : ByteArray → Bool → Option R) : Option R :=
  rPrint24_l3 n (ByteArray.mk #[]) l1 (l1.length : Int) 0
    (fun (t2 : ByteArray) =>
      k t2 true) k
def rPrint24_E (y : ByteArray × Bool) : PV × List PV := ((PV.tuple [(PV.str y.1), (PV.bool y.2)]), [])
def rPrint24_D : List PV → Option (ByteArray × Bool)
  | [(PV.fs l1)] => sRPrint24 l1
  | _ => none
def rPrint24_Γ : List (Nat × Cal) := [(46, .ctr rWords24_C), (28, .ctr rDigits_C)]
def rPrint24_C : Ctr := ⟨[none], ByteArray × Bool, rPrint24_D, rPrint24_E, true, .d⟩
def rPrint24_cfg : List (Nat × LC) := [(3, ⟨[4, 9, 10, 11], [], [], []⟩),
  (2000003, ⟨[2, 3], [], [], []⟩),
  (4000007, ⟨[4, 6, 9, 10, 11, 32], [], [], []⟩),
  (1003000, ⟨[4], [], [], []⟩),
  (6000007, ⟨[2, 3], [], [], []⟩),
  (5000007, ⟨[4, 6, 9, 10, 11], [], [], []⟩),
  (13, ⟨[4, 7, 8, 9, 10, 11], [], [], []⟩),
  (4000010, ⟨[4, 6, 7, 9, 10, 11, 50], [], [], []⟩),
  (4000009, ⟨[4, 6, 7, 9, 10, 11], [], [], []⟩),
  (4000008, ⟨[4, 6, 9, 10, 11], [], [], []⟩),
  (5000010, ⟨[4, 7, 9, 10, 11], [], [], []⟩),
  (6000010, ⟨[2, 3], [], [], []⟩),
  (6000009, ⟨[2, 3], [], [], []⟩),
  (4000013, ⟨[4, 7, 9, 10, 11], [], [], []⟩),
  (2000013, ⟨[2, 3], [], [], []⟩),
  (1013002, ⟨[4, 7, 9, 10, 11], [], [], []⟩),
  (6000008, ⟨[2, 3], [], [], []⟩),
  (6000013, ⟨[2, 3], [], [], []⟩),
  (5000013, ⟨[4, 9, 10, 11], [], [], []⟩),
  (5000009, ⟨[4, 9, 10, 11], [], [], []⟩),
  (5000008, ⟨[4, 9, 10, 11], [], [], []⟩)]
def rPrint24_pat : Nat → Option SP
  | 13 => some ⟨sparse .undef [(4, (.val .str)), (7, (.val .str)), (8, (.val (.int .i64))), (9, (.val .fs)), (10, (.val (.int .i64))), (11, (.val (.int .i64)))] 0 75, [], []⟩
  | 3 => some ⟨sparse .undef [(4, (.val .str)), (9, (.val .fs)), (10, (.val (.int .i64))), (11, (.val (.int .i64)))] 0 75, [], []⟩
  | _ => none
def rPrint24_patj : Nat → Option SP
  | 10 => some ⟨sparse .undef [(4, (.val .str)), (6, (.ref 0 0)), (7, (.val .str)), (9, (.val .fs)), (10, (.val (.int .i64))), (11, (.val (.int .i64))), (50, (.val .bool))] 0 75, [(.pbox .any 3)], []⟩
  | 13 => some ⟨sparse .undef [(4, (.val .str)), (7, (.val .str)), (9, (.val .fs)), (10, (.val (.int .i64))), (11, (.val (.int .i64)))] 0 75, [], []⟩
  | 7 => some ⟨sparse .undef [(4, (.val .str)), (6, (.ref 0 0)), (9, (.val .fs)), (10, (.val (.int .i64))), (11, (.val (.int .i64))), (32, (.val .bool))] 0 75, [(.pbox .any 3)], []⟩
  | 9 => some ⟨sparse .undef [(4, (.val .str)), (6, (.ref 0 0)), (7, (.val .str)), (9, (.val .fs)), (10, (.val (.int .i64))), (11, (.val (.int .i64)))] 0 75, [(.pbox .any 3)], []⟩
  | 8 => some ⟨sparse .undef [(4, (.val .str)), (6, (.ref 0 0)), (9, (.val .fs)), (10, (.val (.int .i64))), (11, (.val (.int .i64)))] 0 75, [(.pbox .any 3)], []⟩
  | _ => none
def rPrint24_L13 (n : Nat) (ls : List Leaf) (R : Type) (k : Ex → St → Option R) : Option R :=
  match ls with
  | [.str t71, .str s72, .int k73, .rows es74, .int i75, .int i76] => rPrint24_l13 n t71 s72 k73 es74 i75 i76 (fun y1275 y1276 => k .ret ⟨sparse .undef [(2, (TV.val (PV.str y1275))), (3, (TV.val (PV.bool y1276)))] 0 75, [], []⟩)
      (fun y1277 y1278 y1279 y1280 y1281 => k (.exit 2) ⟨sparse .undef [(4, (TV.val (PV.str y1277))), (7, (TV.val (PV.str y1278))), (9, (TV.val (PV.fs y1279))), (10, (TV.val (PV.int .i64 y1280))), (11, (TV.val (PV.int .i64 y1281)))] 0 75, [], []⟩)
  | _ => none
def rPrint24_J10 (n : Nat) (ls : List Leaf) (R : Type) (k : Ex → St → Option R) : Option R :=
  match ls with
  | [.str t264, .str s265, .rows es266, .int i267, .int i268, .bool b269, .pv p270] => rPrint24_q10 n t264 s265 es266 i267 i268 b269 p270 (fun y2282 y2283 y2284 y2285 y2286 => k .normal ⟨sparse .undef [(4, (TV.val (PV.str y2282))), (7, (TV.val (PV.str y2283))), (9, (TV.val (PV.fs y2284))), (10, (TV.val (PV.int .i64 y2285))), (11, (TV.val (PV.int .i64 y2286)))] 0 75, [], []⟩)
      (fun y2287 y2288 => k .ret ⟨sparse .undef [(2, (TV.val (PV.str y2287))), (3, (TV.val (PV.bool y2288)))] 0 75, [], []⟩)
  | _ => none
def rPrint24_J13 (n : Nat) (ls : List Leaf) (R : Type) (k : Ex → St → Option R) : Option R :=
  match ls with
  | [.str t252, .str s253, .rows es254, .int i255, .int i256] => rPrint24_q13 n t252 s253 es254 i255 i256 (fun y3289 y3290 => k .ret ⟨sparse .undef [(2, (TV.val (PV.str y3289))), (3, (TV.val (PV.bool y3290)))] 0 75, [], []⟩)
      (fun y3291 y3292 y3293 y3294 => k .normal ⟨sparse .undef [(4, (TV.val (PV.str y3291))), (9, (TV.val (PV.fs y3292))), (10, (TV.val (PV.int .i64 y3293))), (11, (TV.val (PV.int .i64 y3294)))] 0 75, [], []⟩)
  | _ => none
def rPrint24_J7 (n : Nat) (ls : List Leaf) (R : Type) (k : Ex → St → Option R) : Option R :=
  match ls with
  | [.str t210, .rows es211, .int i212, .int i213, .bool b214, .pv p215] => rPrint24_q7 n t210 es211 i212 i213 b214 p215 (fun y4295 y4296 => k .ret ⟨sparse .undef [(2, (TV.val (PV.str y4295))), (3, (TV.val (PV.bool y4296)))] 0 75, [], []⟩)
      (fun y4297 y4298 y4299 y4300 y4301 => k .normal ⟨sparse .undef [(4, (TV.val (PV.str y4297))), (6, (TV.ref 0 0)), (9, (TV.val (PV.fs y4298))), (10, (TV.val (PV.int .i64 y4299))), (11, (TV.val (PV.int .i64 y4300)))] 0 75, [(Ob.pbox y4301 3)], []⟩)
  | _ => none
def rPrint24_J9 (n : Nat) (ls : List Leaf) (R : Type) (k : Ex → St → Option R) : Option R :=
  match ls with
  | [.str t216, .str s217, .rows es218, .int i219, .int i220, .pv p221] => rPrint24_q9 n t216 s217 es218 i219 i220 p221 (fun y5302 y5303 => k .ret ⟨sparse .undef [(2, (TV.val (PV.str y5302))), (3, (TV.val (PV.bool y5303)))] 0 75, [], []⟩)
      (fun y5304 y5305 y5306 y5307 => k .normal ⟨sparse .undef [(4, (TV.val (PV.str y5304))), (9, (TV.val (PV.fs y5305))), (10, (TV.val (PV.int .i64 y5306))), (11, (TV.val (PV.int .i64 y5307)))] 0 75, [], []⟩)
  | _ => none
def rPrint24_J8 (n : Nat) (ls : List Leaf) (R : Type) (k : Ex → St → Option R) : Option R :=
  match ls with
  | [.str t78, .rows es79, .int i80, .int i81, .pv p82] => rPrint24_q8 n t78 es79 i80 i81 p82 (fun y6308 y6309 => k .ret ⟨sparse .undef [(2, (TV.val (PV.str y6308))), (3, (TV.val (PV.bool y6309)))] 0 75, [], []⟩)
      (fun y6310 y6311 y6312 y6313 => k .normal ⟨sparse .undef [(4, (TV.val (PV.str y6310))), (9, (TV.val (PV.fs y6311))), (10, (TV.val (PV.int .i64 y6312))), (11, (TV.val (PV.int .i64 y6313)))] 0 75, [], []⟩)
  | _ => none
def rPrint24_L3 (n : Nat) (ls : List Leaf) (R : Type) (k : Ex → St → Option R) : Option R :=
  match ls with
  | [.str t5, .rows es6, .int i7, .int i8] => rPrint24_l3 n t5 es6 i7 i8 (fun y7314 => k (.exit 0) ⟨sparse .undef [(4, (TV.val (PV.str y7314)))] 0 75, [], []⟩)
      (fun y7315 y7316 => k .ret ⟨sparse .undef [(2, (TV.val (PV.str y7315))), (3, (TV.val (PV.bool y7316)))] 0 75, [], []⟩)
  | _ => none
def rPrint24_L (n key : Nat) (ls : List Leaf) (R : Type) (k : Ex → St → Option R) : Option R :=
  match key with
  | 13 => rPrint24_L13 n ls R k
  | 3 => rPrint24_L3 n ls R k
  | _ => none
def rPrint24_J (n key : Nat) (ls : List Leaf) (R : Type) (k : Ex → St → Option R) : Option R :=
  match key with
  | 10 => rPrint24_J10 n ls R k
  | 13 => rPrint24_J13 n ls R k
  | 7 => rPrint24_J7 n ls R k
  | 9 => rPrint24_J9 n ls R k
  | 8 => rPrint24_J8 n ls R k
  | _ => none
def rPrint24_on : Code → Bool := onKeys [8, 7, 9, 13, 10]
def rPrint24_Λ : Nat → Loops := patL (normBy rPrint24_cfg) rPrint24_pat rPrint24_L (normJ rPrint24_cfg) rPrint24_on rPrint24_patj rPrint24_J
theorem rPrint24_step3 (n : Nat) (t5 : ByteArray) (es6 : List (List PV)) (i7 : Int) (i8 : Int)  (R : Type) (k : Ex → St → Option R) :
    roundK T G0 (ctrOf rPrint24_Γ) (normBy rPrint24_cfg) (rPrint24_Λ n) (codeAt [1, 1, 0, 1, 0, 0] (bodyOf Tryd.f24)) (buildSt ⟨sparse .undef [(4, (.val .str)), (9, (.val .fs)), (10, (.val (.int .i64))), (11, (.val (.int .i64)))] 0 75, [], []⟩ [.str t5, .rows es6, .int i7, .int i8]) R k = rPrint24_L3 (n + 1) [.str t5, .rows es6, .int i7, .int i8] R k := by kernel_rfl
theorem rPrint24_step13 (n : Nat) (t71 : ByteArray) (s72 : ByteArray) (k73 : Int) (es74 : List (List PV)) (i75 : Int) (i76 : Int)  (R : Type) (k : Ex → St → Option R) :
    roundK T G0 (ctrOf rPrint24_Γ) (normBy rPrint24_cfg) (rPrint24_Λ n) (codeAt [1, 1, 0, 1, 0, 0, 1, 1, 0, 0, 1, 1, 1, 1, 0, 1, 0, 0] (bodyOf Tryd.f24)) (buildSt ⟨sparse .undef [(4, (.val .str)), (7, (.val .str)), (8, (.val (.int .i64))), (9, (.val .fs)), (10, (.val (.int .i64))), (11, (.val (.int .i64)))] 0 75, [], []⟩ [.str t71, .str s72, .int k73, .rows es74, .int i75, .int i76]) R k = rPrint24_L13 (n + 1) [.str t71, .str s72, .int k73, .rows es74, .int i75, .int i76] R k := by kernel_rfl
theorem rPrint24_stepq8 (n : Nat) (t78 : ByteArray) (es79 : List (List PV)) (i80 : Int) (i81 : Int) (p82 : PV)  (R : Type) (k : Ex → St → Option R) :
    joinK T G0 (ctrOf rPrint24_Γ) (normJ rPrint24_cfg) (rPrint24_Λ n) (codeAt [1, 1, 0, 1, 0, 0, 1, 1, 0, 0, 1, 1] (bodyOf Tryd.f24)) (buildSt ⟨sparse .undef [(4, (.val .str)), (6, (.ref 0 0)), (9, (.val .fs)), (10, (.val (.int .i64))), (11, (.val (.int .i64)))] 0 75, [(.pbox .any 3)], []⟩ [.str t78, .rows es79, .int i80, .int i81, .pv p82]) R k = rPrint24_J8 n [.str t78, .rows es79, .int i80, .int i81, .pv p82] R k := by kernel_rfl
theorem rPrint24_stepq7 (n : Nat) (t210 : ByteArray) (es211 : List (List PV)) (i212 : Int) (i213 : Int) (b214 : Bool) (p215 : PV)  (R : Type) (k : Ex → St → Option R) :
    joinK T G0 (ctrOf rPrint24_Γ) (normJ rPrint24_cfg) (rPrint24_Λ n) (codeAt [1, 1, 0, 1, 0, 0, 1, 1, 0, 0, 1, 0, 1] (bodyOf Tryd.f24)) (buildSt ⟨sparse .undef [(4, (.val .str)), (6, (.ref 0 0)), (9, (.val .fs)), (10, (.val (.int .i64))), (11, (.val (.int .i64))), (32, (.val .bool))] 0 75, [(.pbox .any 3)], []⟩ [.str t210, .rows es211, .int i212, .int i213, .bool b214, .pv p215]) R k = rPrint24_J7 n [.str t210, .rows es211, .int i212, .int i213, .bool b214, .pv p215] R k := by kernel_rfl
theorem rPrint24_stepq9 (n : Nat) (t216 : ByteArray) (s217 : ByteArray) (es218 : List (List PV)) (i219 : Int) (i220 : Int) (p221 : PV)  (R : Type) (k : Ex → St → Option R) :
    joinK T G0 (ctrOf rPrint24_Γ) (normJ rPrint24_cfg) (rPrint24_Λ n) (codeAt [1, 1, 0, 1, 0, 0, 1, 1, 0, 0, 1, 1, 1] (bodyOf Tryd.f24)) (buildSt ⟨sparse .undef [(4, (.val .str)), (6, (.ref 0 0)), (7, (.val .str)), (9, (.val .fs)), (10, (.val (.int .i64))), (11, (.val (.int .i64)))] 0 75, [(.pbox .any 3)], []⟩ [.str t216, .str s217, .rows es218, .int i219, .int i220, .pv p221]) R k = rPrint24_J9 n [.str t216, .str s217, .rows es218, .int i219, .int i220, .pv p221] R k := by kernel_rfl
theorem rPrint24_stepq13 (n : Nat) (t252 : ByteArray) (s253 : ByteArray) (es254 : List (List PV)) (i255 : Int) (i256 : Int)  (R : Type) (k : Ex → St → Option R) :
    joinK T G0 (ctrOf rPrint24_Γ) (normJ rPrint24_cfg) (rPrint24_Λ n) (codeAt [1, 1, 0, 1, 0, 0, 1, 1, 0, 0, 1, 1, 1, 1] (bodyOf Tryd.f24)) (buildSt ⟨sparse .undef [(4, (.val .str)), (7, (.val .str)), (9, (.val .fs)), (10, (.val (.int .i64))), (11, (.val (.int .i64)))] 0 75, [], []⟩ [.str t252, .str s253, .rows es254, .int i255, .int i256]) R k = rPrint24_J13 n [.str t252, .str s253, .rows es254, .int i255, .int i256] R k := by kernel_rfl
theorem rPrint24_stepq10 (n : Nat) (t264 : ByteArray) (s265 : ByteArray) (es266 : List (List PV)) (i267 : Int) (i268 : Int) (b269 : Bool) (p270 : PV)  (R : Type) (k : Ex → St → Option R) :
    joinK T G0 (ctrOf rPrint24_Γ) (normJ rPrint24_cfg) (rPrint24_Λ n) (codeAt [1, 1, 0, 1, 0, 0, 1, 1, 0, 0, 1, 1, 1, 0, 1] (bodyOf Tryd.f24)) (buildSt ⟨sparse .undef [(4, (.val .str)), (6, (.ref 0 0)), (7, (.val .str)), (9, (.val .fs)), (10, (.val (.int .i64))), (11, (.val (.int .i64))), (50, (.val .bool))] 0 75, [(.pbox .any 3)], []⟩ [.str t264, .str s265, .rows es266, .int i267, .int i268, .bool b269, .pv p270]) R k = rPrint24_J10 n [.str t264, .str s265, .rows es266, .int i267, .int i268, .bool b269, .pv p270] R k := by kernel_rfl
theorem rPrint24_eq (n : Nat) (l1 : List (List PV)) :
    funK T G0 (ctrOf rPrint24_Γ) (rPrint24_Λ n) .d true [none] (funOf Tryd.f24) [(PV.fs l1)] = rPrint24_b n  l1 (fun a0 a1 => some (rPrint24_E (a0, a1))) := by kernel_rfl
theorem rPrint24_inv {ps : List PV} {y : ByteArray × Bool} (h : rPrint24_D ps = some y) : ∃ (l1 : List (List PV)), ps = [(PV.fs l1)] := by
  unfold rPrint24_D at h
  split at h
  · exact ⟨_, rfl⟩
  · cases h
theorem rPrint24_loops : loopsOf (bodyOf Tryd.f24) = [codeAt [1, 1, 0, 1, 0, 0] (bodyOf Tryd.f24), codeAt [1, 1, 0, 1, 0, 0, 1, 1, 0, 0, 1, 1, 1, 1, 0, 1, 0, 0] (bodyOf Tryd.f24)] := by kernel_rfl
theorem rPrint24_joins : (joinsOf (bodyOf Tryd.f24)).filter rPrint24_on = [codeAt [1, 1, 0, 1, 0, 0, 1, 1, 0, 0, 1, 1] (bodyOf Tryd.f24), codeAt [1, 1, 0, 1, 0, 0, 1, 1, 0, 0, 1, 0, 1] (bodyOf Tryd.f24), codeAt [1, 1, 0, 1, 0, 0, 1, 1, 0, 0, 1, 1, 1] (bodyOf Tryd.f24), codeAt [1, 1, 0, 1, 0, 0, 1, 1, 0, 0, 1, 1, 1, 1] (bodyOf Tryd.f24), codeAt [1, 1, 0, 1, 0, 0, 1, 1, 0, 0, 1, 1, 1, 0, 1] (bodyOf Tryd.f24)] := by kernel_rfl
theorem rPrint24_holds (hΓ : HoldsAll Tryd.prog G0 rPrint24_Γ) (hok : ∀ (l1 : List (List PV)) (y : ByteArray × Bool), sRPrint24 l1 = some y → ∃ n, ∀ (R : Type) (k : ByteArray → Bool → Option R), rPrint24_b n  l1 k = k y.1 y.2) : Holds Tryd.prog G0 24 rPrint24_C := by
  refine fun_pat mixed tOk (ctrOf_ok hΓ) Tryd.func24 rfl rfl rfl rfl (F := funOf Tryd.f24) (normBy_ok rPrint24_cfg) (pat := rPrint24_pat) (L := rPrint24_L) (normJ_ok rPrint24_cfg) (on := rPrint24_on) (patj := rPrint24_patj) (J := rPrint24_J) (fun c hc ls R k => ?_) (fun c hc p hp m ls R k r h => ?_) (fun c hc p hp m ls R k r h => ?_) (fun ps x h => ?_)
  · rw [show (funOf Tryd.f24).code = bodyOf Tryd.f24 from rfl, rPrint24_loops] at hc
    simp only [List.mem_cons, List.not_mem_nil, or_false] at hc
    rcases hc with rfl | rfl
    · show rPrint24_L3 0 ls R k = none
      unfold rPrint24_L3
      split
      · rfl
      · rfl
    · show rPrint24_L13 0 ls R k = none
      unfold rPrint24_L13
      split
      · rfl
      · rfl
  · rw [show (funOf Tryd.f24).code = bodyOf Tryd.f24 from rfl, rPrint24_loops] at hc
    simp only [List.mem_cons, List.not_mem_nil, or_false] at hc
    rcases hc with rfl | rfl
    · have hp' : p = ⟨sparse .undef [(4, (.val .str)), (9, (.val .fs)), (10, (.val (.int .i64))), (11, (.val (.int .i64)))] 0 75, [], []⟩ := (Option.some.inj (hp : some _ = some p)).symm
      subst hp'
      change rPrint24_L3 (m + 1) ls R k = some r at h
      have h' := h
      unfold rPrint24_L3 at h'
      split at h'
      · exact (rPrint24_step3 m _ _ _ _ R k).trans h
      · cases h'
    · have hp' : p = ⟨sparse .undef [(4, (.val .str)), (7, (.val .str)), (8, (.val (.int .i64))), (9, (.val .fs)), (10, (.val (.int .i64))), (11, (.val (.int .i64)))] 0 75, [], []⟩ := (Option.some.inj (hp : some _ = some p)).symm
      subst hp'
      change rPrint24_L13 (m + 1) ls R k = some r at h
      have h' := h
      unfold rPrint24_L13 at h'
      split at h'
      · exact (rPrint24_step13 m _ _ _ _ _ _ R k).trans h
      · cases h'
  · rw [show (funOf Tryd.f24).code = bodyOf Tryd.f24 from rfl, rPrint24_joins] at hc
    simp only [List.mem_cons, List.not_mem_nil, or_false] at hc
    rcases hc with rfl | rfl | rfl | rfl | rfl
    · have hp' : p = ⟨sparse .undef [(4, (.val .str)), (6, (.ref 0 0)), (9, (.val .fs)), (10, (.val (.int .i64))), (11, (.val (.int .i64)))] 0 75, [(.pbox .any 3)], []⟩ := (Option.some.inj (hp : some _ = some p)).symm
      subst hp'
      change rPrint24_J8 m ls R k = some r at h
      have h' := h
      unfold rPrint24_J8 at h'
      split at h'
      · exact (rPrint24_stepq8 m _ _ _ _ _ R k).trans h
      · cases h'
    · have hp' : p = ⟨sparse .undef [(4, (.val .str)), (6, (.ref 0 0)), (9, (.val .fs)), (10, (.val (.int .i64))), (11, (.val (.int .i64))), (32, (.val .bool))] 0 75, [(.pbox .any 3)], []⟩ := (Option.some.inj (hp : some _ = some p)).symm
      subst hp'
      change rPrint24_J7 m ls R k = some r at h
      have h' := h
      unfold rPrint24_J7 at h'
      split at h'
      · exact (rPrint24_stepq7 m _ _ _ _ _ _ R k).trans h
      · cases h'
    · have hp' : p = ⟨sparse .undef [(4, (.val .str)), (6, (.ref 0 0)), (7, (.val .str)), (9, (.val .fs)), (10, (.val (.int .i64))), (11, (.val (.int .i64)))] 0 75, [(.pbox .any 3)], []⟩ := (Option.some.inj (hp : some _ = some p)).symm
      subst hp'
      change rPrint24_J9 m ls R k = some r at h
      have h' := h
      unfold rPrint24_J9 at h'
      split at h'
      · exact (rPrint24_stepq9 m _ _ _ _ _ _ R k).trans h
      · cases h'
    · have hp' : p = ⟨sparse .undef [(4, (.val .str)), (7, (.val .str)), (9, (.val .fs)), (10, (.val (.int .i64))), (11, (.val (.int .i64)))] 0 75, [], []⟩ := (Option.some.inj (hp : some _ = some p)).symm
      subst hp'
      change rPrint24_J13 m ls R k = some r at h
      have h' := h
      unfold rPrint24_J13 at h'
      split at h'
      · exact (rPrint24_stepq13 m _ _ _ _ _ R k).trans h
      · cases h'
    · have hp' : p = ⟨sparse .undef [(4, (.val .str)), (6, (.ref 0 0)), (7, (.val .str)), (9, (.val .fs)), (10, (.val (.int .i64))), (11, (.val (.int .i64))), (50, (.val .bool))] 0 75, [(.pbox .any 3)], []⟩ := (Option.some.inj (hp : some _ = some p)).symm
      subst hp'
      change rPrint24_J10 m ls R k = some r at h
      have h' := h
      unfold rPrint24_J10 at h'
      split at h'
      · exact (rPrint24_stepq10 m _ _ _ _ _ _ _ R k).trans h
      · cases h'
  · obtain ⟨y, hy, hx⟩ := bind_inv h
    cases hx
    obtain ⟨l1, rfl⟩ := rPrint24_inv hy
    obtain ⟨n, hn⟩ := hok l1 y hy
    exact ⟨n, (rPrint24_eq n l1).trans (hn _ _)⟩
def rParse24_l18 {R : Type} : Nat → ByteArray → ByteArray → Int → ByteArray → Int → Int → Int → List (List PV) → List (List PV) → (ByteArray → ByteArray → Int → ByteArray → Int → Int → Int → List (List PV) → List (List PV) → Option R) → Option R
  | 0, _, _, _, _, _, _, _, _, _, _ => none
  | n + 1, t65, line66, kind67, rest68, j69, i70, i71, es72, es73, k0 =>
    cond (decide (j69 < ((rest68).size : Int))) (
      Option.bind (idx (rest68).data.toList j69) fun u74 =>
      cond ((u74.toNat : Int) != (32 : Int)) (
        rParse24_l18 n t65 line66 kind67 rest68 (IntKind.i64.wrap (j69 + (1 : Int))) i70 i71 es72 es73 k0) (
        k0 t65 line66 kind67 rest68 j69 i70 i71 es72 es73)) (
      k0 t65 line66 kind67 rest68 j69 i70 i71 es72 es73)
def rParse24_q26 {R : Type} (n : Nat) (t164 : ByteArray) (line165 : ByteArray) (kind166 : Int) (text167 : ByteArray) (n168 : Int) (i169 : Int) (i170 : Int) (b171 : Bool) (es172 : List (List PV)) (es173 : List (List PV)) (k0 : Bool → Option R) (k1 : ByteArray → ByteArray → Int → ByteArray → Int → Int → Int → List (List PV) → List (List PV) → Option R) : Option R :=
  cond b171 (
    k0 false) (
    k1 t164 line165 kind166 text167 n168 i169 i170 es172 es173)
def rParse24_q27 {R : Type} (n : Nat) (t155 : ByteArray) (line156 : ByteArray) (kind157 : Int) (text158 : ByteArray) (n159 : Int) (i160 : Int) (i161 : Int) (es162 : List (List PV)) (es163 : List (List PV)) (k0 : ByteArray → ByteArray → Bool → Int → Int → List (List PV) → List (List PV) → Option R) : Option R :=
  if (es162.length + ([[(PV.int .i64 kind157), (PV.int .i64 n159), (PV.str text158)]] : List (List PV)).length) * 32 ≤ maxBytes then
    k0 t155 line156 true i160 i161 (es162 ++ [[(PV.int .i64 kind157), (PV.int .i64 n159), (PV.str text158)]]) es163
  else none
def rParse24_q18 {R : Type} (n : Nat) (t136 : ByteArray) (line137 : ByteArray) (kind138 : Int) (rest139 : ByteArray) (text140 : ByteArray) (i141 : Int) (i142 : Int) (b143 : Bool) (es144 : List (List PV)) (es145 : List (List PV)) (k0 : ByteArray → ByteArray → Int → ByteArray → ByteArray → Int → Int → List (List PV) → List (List PV) → Option R) (k1 : Bool → Option R) : Option R :=
  cond b143 (
    rParse24_l18 n t136 line137 kind138 rest139 0 i141 i142 es144 es145
      (fun (t146 : ByteArray) (line147 : ByteArray) (kind148 : Int) (rest149 : ByteArray) (j150 : Int) (i151 : Int) (i152 : Int) (es153 : List (List PV)) (es154 : List (List PV)) =>
        cond (j150 == ((rest149).size : Int)) (
          k1 false) (
          if (0 : Int) ≤ (0 : Int) ∧ (0 : Int) ≤ j150 ∧ j150 ≤ ((rest149).size : Int) then
            if (0 : Int) ≤ (IntKind.i64.wrap (j150 + (1 : Int))) ∧ (IntKind.i64.wrap (j150 + (1 : Int))) ≤ ((rest149).size : Int) ∧ ((rest149).size : Int) ≤ ((rest149).size : Int) then
              k0 t146 line147 kind148 (ByteArray.extract rest149 0 (Int.toNat j150)) (ByteArray.extract rest149 (Int.toNat (IntKind.i64.wrap (j150 + (1 : Int)))) (Int.toNat ((rest149).size : Int))) i151 i152 es153 es154
            else none
          else none))) (
    k0 t136 line137 kind138 rest139 text140 i141 i142 es144 es145)
def rParse24_q24 {R : Type} (n : Nat) (t75 : ByteArray) (line76 : ByteArray) (kind77 : Int) (rest78 : ByteArray) (text79 : ByteArray) (i80 : Int) (i81 : Int) (es82 : List (List PV)) (es83 : List (List PV)) (k0 : Bool → Option R) (k1 : ByteArray → ByteArray → Bool → Int → Int → List (List PV) → List (List PV) → Option R) : Option R :=
  Option.bind (sRInt rest78) fun y84 =>
  cond (!y84.2) (
    rParse24_q26 n t75 line76 kind77 text79 y84.1 i80 i81 true es82 es83 k0
      (fun (t86 : ByteArray) (line87 : ByteArray) (kind88 : Int) (text89 : ByteArray) (n90 : Int) (i91 : Int) (i92 : Int) (es93 : List (List PV)) (es94 : List (List PV)) =>
        rParse24_q27 n t86 line87 kind88 text89 n90 i91 i92 es93 es94 k1)) (
    cond (decide (y84.1 < (0 : Int))) (
      rParse24_q26 n t75 line76 kind77 text79 y84.1 i80 i81 true es82 es83 k0
        (fun (t103 : ByteArray) (line104 : ByteArray) (kind105 : Int) (text106 : ByteArray) (n107 : Int) (i108 : Int) (i109 : Int) (es110 : List (List PV)) (es111 : List (List PV)) =>
          rParse24_q27 n t103 line104 kind105 text106 n107 i108 i109 es110 es111 k1)) (
      rParse24_q26 n t75 line76 kind77 text79 y84.1 i80 i81 (decide (y84.1 > (9999 : Int))) es82 es83 k0
        (fun (t120 : ByteArray) (line121 : ByteArray) (kind122 : Int) (text123 : ByteArray) (n124 : Int) (i125 : Int) (i126 : Int) (es127 : List (List PV)) (es128 : List (List PV)) =>
          rParse24_q27 n t120 line121 kind122 text123 n124 i125 i126 es127 es128 k1)))
def rParse24_l12 {R : Type} : Nat → ByteArray → ByteArray → Bool → Int → Int → List (List PV) → List (List PV) → (ByteArray → Bool → List (List PV) → Option R) → (Bool → Option R) → Option R
  | 0, _, _, _, _, _, _, _, _, _ => none
  | n + 1, t18, line19, found20, i21, i22, es23, es24, k0, k1 =>
    cond (decide (i22 < i21)) (
      if 0 ≤ i22 ∧ i22 < (es24.length : Int) then
        Option.bind (es24[(Int.toNat i22)]?) fun e25 =>
        Option.bind (e25[0]?) fun c26 =>
        Option.bind (PV.asS c26) fun s27 =>
        cond (i22 == (0 : Int)) (
          rParse24_l12 n t18 line19 found20 i21 (IntKind.i64.wrap (i22 + (1 : Int))) es23 es24 k0 k1) (
          cond (decide (((line19).size : Int) ≤ ((s27).size : Int))) (
            rParse24_l12 n t18 line19 found20 i21 (IntKind.i64.wrap (i22 + (1 : Int))) es23 es24 k0 k1) (
            if (0 : Int) ≤ (0 : Int) ∧ (0 : Int) ≤ ((s27).size : Int) ∧ ((s27).size : Int) ≤ ((line19).size : Int) then
              cond (!(ByteArray.toList (ByteArray.extract line19 0 (Int.toNat ((s27).size : Int))) == ByteArray.toList s27)) (
                rParse24_l12 n t18 line19 found20 i21 (IntKind.i64.wrap (i22 + (1 : Int))) es23 es24 k0 k1) (
                Option.bind (idx (line19).data.toList ((s27).size : Int)) fun u28 =>
                cond ((u28.toNat : Int) != (32 : Int)) (
                  rParse24_l12 n t18 line19 found20 i21 (IntKind.i64.wrap (i22 + (1 : Int))) es23 es24 k0 k1) (
                  if (0 : Int) ≤ (IntKind.i64.wrap (((s27).size : Int) + (1 : Int))) ∧ (IntKind.i64.wrap (((s27).size : Int) + (1 : Int))) ≤ ((line19).size : Int) ∧ ((line19).size : Int) ≤ ((line19).size : Int) then
                    cond (i22 == (3 : Int)) (
                      rParse24_q18 n t18 line19 i22 (ByteArray.extract line19 (Int.toNat (IntKind.i64.wrap (((s27).size : Int) + (1 : Int)))) (Int.toNat ((line19).size : Int))) (ByteArray.mk #[]) i21 i22 true es23 es24
                        (fun (t29 : ByteArray) (line30 : ByteArray) (kind31 : Int) (rest32 : ByteArray) (text33 : ByteArray) (i34 : Int) (i35 : Int) (es36 : List (List PV)) (es37 : List (List PV)) =>
                          rParse24_q24 n t29 line30 kind31 rest32 text33 i34 i35 es36 es37 k1
                            (fun (t39 : ByteArray) (line40 : ByteArray) (found41 : Bool) (i42 : Int) (i43 : Int) (es44 : List (List PV)) (es45 : List (List PV)) =>
                              rParse24_l12 n t39 line40 found41 i42 (IntKind.i64.wrap (i43 + (1 : Int))) es44 es45 k0 k1)) k1) (
                      rParse24_q18 n t18 line19 i22 (ByteArray.extract line19 (Int.toNat (IntKind.i64.wrap (((s27).size : Int) + (1 : Int)))) (Int.toNat ((line19).size : Int))) (ByteArray.mk #[]) i21 i22 (i22 == (4 : Int)) es23 es24
                        (fun (t47 : ByteArray) (line48 : ByteArray) (kind49 : Int) (rest50 : ByteArray) (text51 : ByteArray) (i52 : Int) (i53 : Int) (es54 : List (List PV)) (es55 : List (List PV)) =>
                          rParse24_q24 n t47 line48 kind49 rest50 text51 i52 i53 es54 es55 k1
                            (fun (t57 : ByteArray) (line58 : ByteArray) (found59 : Bool) (i60 : Int) (i61 : Int) (es62 : List (List PV)) (es63 : List (List PV)) =>
                              rParse24_l12 n t57 line58 found59 i60 (IntKind.i64.wrap (i61 + (1 : Int))) es62 es63 k0 k1)) k1)
                  else none))
            else none))
      else none) (
      k0 t18 found20 es23)
def rParse24_l4 {R : Type} : Nat → ByteArray → Int → List (List PV) → (ByteArray → Int → List (List PV) → Option R) → Option R
  | 0, _, _, _, _ => none
  | n + 1, t14, k15, es16, k0 =>
    cond (decide (k15 < ((t14).size : Int))) (
      Option.bind (idx (t14).data.toList k15) fun u17 =>
      cond ((u17.toNat : Int) != (10 : Int)) (
        rParse24_l4 n t14 (IntKind.i64.wrap (k15 + (1 : Int))) es16 k0) (
        k0 t14 k15 es16)) (
      k0 t14 k15 es16)
def rParse24_l2 {R : Type} : Nat → ByteArray → List (List PV) → (List (List PV) → Option R) → (Bool → Option R) → Option R
  | 0, _, _, _, _ => none
  | n + 1, t4, es5, k0, k1 =>
    cond (decide (((t4).size : Int) > (0 : Int))) (
      rParse24_l4 n t4 0 es5
        (fun (t6 : ByteArray) (k7 : Int) (es8 : List (List PV)) =>
          cond (k7 == ((t6).size : Int)) (
            k1 false) (
            if (0 : Int) ≤ (0 : Int) ∧ (0 : Int) ≤ k7 ∧ k7 ≤ ((t6).size : Int) then
              if (0 : Int) ≤ (IntKind.i64.wrap (k7 + (1 : Int))) ∧ (IntKind.i64.wrap (k7 + (1 : Int))) ≤ ((t6).size : Int) ∧ ((t6).size : Int) ≤ ((t6).size : Int) then
                Option.bind (rWords24_d) fun y9 =>
                rParse24_l12 n (ByteArray.extract t6 (Int.toNat (IntKind.i64.wrap (k7 + (1 : Int)))) (Int.toNat ((t6).size : Int))) (ByteArray.extract t6 0 (Int.toNat k7)) false (y9.length : Int) 0 es8 y9
                  (fun (t10 : ByteArray) (found11 : Bool) (es12 : List (List PV)) =>
                    cond (!found11) (
                      k1 false) (
                      rParse24_l2 n t10 es12 k0 k1)) k1
              else none
            else none))) (
      k0 es5)
def rParse24_b {R : Type} (n : Nat) (t1 : ByteArray) (k : List (List PV) → Bool → Option R) : Option R :=
  rParse24_l2 n t1 []
    (fun (es2 : List (List PV)) =>
      k es2 true)
    (fun (b3 : Bool) =>
      k [] b3)
def rParse24_E (y : (List (List PV)) × Bool) : PV × List PV := ((PV.tuple [(PV.os y.1 3), (PV.bool y.2)]), [])
def rParse24_D : List PV → Option ((List (List PV)) × Bool)
  | [(PV.str t1)] => sRParse24 t1
  | _ => none
def rParse24_Γ : List (Nat × Cal) := [(46, .ctr rWords24_C), (29, .ctr rInt_C)]
def rParse24_C : Ctr := ⟨[none], (List (List PV)) × Bool, rParse24_D, rParse24_E, true, (.t [.s, .d])⟩
def rParse24_cfg : List (Nat × LC) := [(2, ⟨[0, 4], [4], [], []⟩),
  (4, ⟨[0, 4, 5], [], [], []⟩),
  (1002000, ⟨[4], [], [], []⟩),
  (1004002, ⟨[0, 4, 5], [], [], []⟩),
  (2000002, ⟨[2, 3], [], [], []⟩),
  (12, ⟨[0, 4, 6, 7, 41, 42, 43], [4], [], []⟩),
  (18, ⟨[0, 4, 6, 8, 10, 12, 41, 42, 43], [], [], []⟩),
  (4000018, ⟨[0, 4, 6, 8, 10, 11, 41, 42, 43, 82], [], [], []⟩),
  (1012004, ⟨[0, 4, 7], [], [], []⟩),
  (5000018, ⟨[0, 4, 6, 8, 10, 11, 41, 42, 43], [], [], []⟩),
  (2000012, ⟨[2, 3], [], [], []⟩),
  (4000026, ⟨[0, 4, 6, 8, 11, 13, 41, 42, 43, 120], [], [], []⟩),
  (4000024, ⟨[0, 4, 6, 8, 10, 11, 41, 42, 43], [], [], []⟩),
  (1018006, ⟨[0, 4, 6, 8, 10, 12, 41, 42, 43], [], [], []⟩),
  (6000018, ⟨[2, 3], [], [], []⟩),
  (6000026, ⟨[2, 3], [], [], []⟩),
  (5000026, ⟨[0, 4, 6, 8, 11, 13, 41, 42, 43], [], [], []⟩),
  (6000024, ⟨[2, 3], [], [], []⟩),
  (5000024, ⟨[0, 4, 6, 7, 41, 42, 43], [], [], []⟩),
  (4000027, ⟨[0, 4, 6, 8, 11, 13, 41, 42, 43], [], [], []⟩),
  (5000027, ⟨[0, 4, 6, 7, 41, 42, 43], [], [], []⟩)]
def rParse24_pat : Nat → Option SP
  | 18 => some ⟨sparse .undef [(0, (.val .str)), (4, (.ow 0)), (6, (.val .str)), (8, (.val (.int .i64))), (10, (.val .str)), (12, (.val (.int .i64))), (41, (.ow 1)), (42, (.val (.int .i64))), (43, (.val (.int .i64)))] 0 132, [(.row 3), (.row 1)], []⟩
  | 12 => some ⟨sparse .undef [(0, (.val .str)), (4, (.ow 0)), (6, (.val .str)), (7, (.val .bool)), (41, (.ow 1)), (42, (.val (.int .i64))), (43, (.val (.int .i64)))] 0 132, [(.row 3), (.row 1)], []⟩
  | 4 => some ⟨sparse .undef [(0, (.val .str)), (4, (.ow 0)), (5, (.val (.int .i64)))] 0 132, [(.row 3)], []⟩
  | 2 => some ⟨sparse .undef [(0, (.val .str)), (4, (.ow 0))] 0 132, [(.row 3)], []⟩
  | _ => none
def rParse24_patj : Nat → Option SP
  | 26 => some ⟨sparse .undef [(0, (.val .str)), (4, (.ow 0)), (6, (.val .str)), (8, (.val (.int .i64))), (11, (.val .str)), (13, (.val (.int .i64))), (41, (.ow 1)), (42, (.val (.int .i64))), (43, (.val (.int .i64))), (120, (.val .bool))] 0 132, [(.row 3), (.row 1)], []⟩
  | 27 => some ⟨sparse .undef [(0, (.val .str)), (4, (.ow 0)), (6, (.val .str)), (8, (.val (.int .i64))), (11, (.val .str)), (13, (.val (.int .i64))), (41, (.ow 1)), (42, (.val (.int .i64))), (43, (.val (.int .i64)))] 0 132, [(.row 3), (.row 1)], []⟩
  | 18 => some ⟨sparse .undef [(0, (.val .str)), (4, (.ow 0)), (6, (.val .str)), (8, (.val (.int .i64))), (10, (.val .str)), (11, (.val .str)), (41, (.ow 1)), (42, (.val (.int .i64))), (43, (.val (.int .i64))), (82, (.val .bool))] 0 132, [(.row 3), (.row 1)], []⟩
  | 24 => some ⟨sparse .undef [(0, (.val .str)), (4, (.ow 0)), (6, (.val .str)), (8, (.val (.int .i64))), (10, (.val .str)), (11, (.val .str)), (41, (.ow 1)), (42, (.val (.int .i64))), (43, (.val (.int .i64)))] 0 132, [(.row 3), (.row 1)], []⟩
  | _ => none
def rParse24_L18 (n : Nat) (ls : List Leaf) (R : Type) (k : Ex → St → Option R) : Option R :=
  match ls with
  | [.str t65, .str line66, .int kind67, .str rest68, .int j69, .int i70, .int i71, .rows es72, .rows es73] => rParse24_l18 n t65 line66 kind67 rest68 j69 i70 i71 es72 es73 (fun y1174 y1175 y1176 y1177 y1178 y1179 y1180 y1181 y1182 => k (.exit 6) ⟨sparse .undef [(0, (TV.val (PV.str y1174))), (4, (TV.ow 0)), (6, (TV.val (PV.str y1175))), (8, (TV.val (PV.int .i64 y1176))), (10, (TV.val (PV.str y1177))), (12, (TV.val (PV.int .i64 y1178))), (41, (TV.ow 1)), (42, (TV.val (PV.int .i64 y1179))), (43, (TV.val (PV.int .i64 y1180)))] 0 132, [(Ob.row y1181 3), (Ob.row y1182 1)], []⟩)
  | _ => none
def rParse24_J26 (n : Nat) (ls : List Leaf) (R : Type) (k : Ex → St → Option R) : Option R :=
  match ls with
  | [.str t164, .str line165, .int kind166, .str text167, .int n168, .int i169, .int i170, .bool b171, .rows es172, .rows es173] => rParse24_q26 n t164 line165 kind166 text167 n168 i169 i170 b171 es172 es173 (fun y2183 => k .ret ⟨sparse .undef [(2, (TV.nil 3)), (3, (TV.val (PV.bool y2183)))] 0 132, [], []⟩)
      (fun y2184 y2185 y2186 y2187 y2188 y2189 y2190 y2191 y2192 => k .normal ⟨sparse .undef [(0, (TV.val (PV.str y2184))), (4, (TV.ow 0)), (6, (TV.val (PV.str y2185))), (8, (TV.val (PV.int .i64 y2186))), (11, (TV.val (PV.str y2187))), (13, (TV.val (PV.int .i64 y2188))), (41, (TV.ow 1)), (42, (TV.val (PV.int .i64 y2189))), (43, (TV.val (PV.int .i64 y2190)))] 0 132, [(Ob.row y2191 3), (Ob.row y2192 1)], []⟩)
  | _ => none
def rParse24_J27 (n : Nat) (ls : List Leaf) (R : Type) (k : Ex → St → Option R) : Option R :=
  match ls with
  | [.str t155, .str line156, .int kind157, .str text158, .int n159, .int i160, .int i161, .rows es162, .rows es163] => rParse24_q27 n t155 line156 kind157 text158 n159 i160 i161 es162 es163 (fun y3193 y3194 y3195 y3196 y3197 y3198 y3199 => k .normal ⟨sparse .undef [(0, (TV.val (PV.str y3193))), (4, (TV.ow 0)), (6, (TV.val (PV.str y3194))), (7, (TV.val (PV.bool y3195))), (41, (TV.ow 1)), (42, (TV.val (PV.int .i64 y3196))), (43, (TV.val (PV.int .i64 y3197)))] 0 132, [(Ob.row y3198 3), (Ob.row y3199 1)], []⟩)
  | _ => none
def rParse24_J18 (n : Nat) (ls : List Leaf) (R : Type) (k : Ex → St → Option R) : Option R :=
  match ls with
  | [.str t136, .str line137, .int kind138, .str rest139, .str text140, .int i141, .int i142, .bool b143, .rows es144, .rows es145] => rParse24_q18 n t136 line137 kind138 rest139 text140 i141 i142 b143 es144 es145 (fun y4200 y4201 y4202 y4203 y4204 y4205 y4206 y4207 y4208 => k .normal ⟨sparse .undef [(0, (TV.val (PV.str y4200))), (4, (TV.ow 0)), (6, (TV.val (PV.str y4201))), (8, (TV.val (PV.int .i64 y4202))), (10, (TV.val (PV.str y4203))), (11, (TV.val (PV.str y4204))), (41, (TV.ow 1)), (42, (TV.val (PV.int .i64 y4205))), (43, (TV.val (PV.int .i64 y4206)))] 0 132, [(Ob.row y4207 3), (Ob.row y4208 1)], []⟩)
      (fun y4209 => k .ret ⟨sparse .undef [(2, (TV.nil 3)), (3, (TV.val (PV.bool y4209)))] 0 132, [], []⟩)
  | _ => none
def rParse24_J24 (n : Nat) (ls : List Leaf) (R : Type) (k : Ex → St → Option R) : Option R :=
  match ls with
  | [.str t75, .str line76, .int kind77, .str rest78, .str text79, .int i80, .int i81, .rows es82, .rows es83] => rParse24_q24 n t75 line76 kind77 rest78 text79 i80 i81 es82 es83 (fun y5210 => k .ret ⟨sparse .undef [(2, (TV.nil 3)), (3, (TV.val (PV.bool y5210)))] 0 132, [], []⟩)
      (fun y5211 y5212 y5213 y5214 y5215 y5216 y5217 => k .normal ⟨sparse .undef [(0, (TV.val (PV.str y5211))), (4, (TV.ow 0)), (6, (TV.val (PV.str y5212))), (7, (TV.val (PV.bool y5213))), (41, (TV.ow 1)), (42, (TV.val (PV.int .i64 y5214))), (43, (TV.val (PV.int .i64 y5215)))] 0 132, [(Ob.row y5216 3), (Ob.row y5217 1)], []⟩)
  | _ => none
def rParse24_L12 (n : Nat) (ls : List Leaf) (R : Type) (k : Ex → St → Option R) : Option R :=
  match ls with
  | [.str t18, .str line19, .bool found20, .int i21, .int i22, .rows es23, .rows es24] => rParse24_l12 n t18 line19 found20 i21 i22 es23 es24 (fun y6218 y6219 y6220 => k (.exit 4) ⟨sparse .undef [(0, (TV.val (PV.str y6218))), (4, (TV.ow 0)), (7, (TV.val (PV.bool y6219)))] 0 132, [(Ob.row y6220 3)], []⟩)
      (fun y6221 => k .ret ⟨sparse .undef [(2, (TV.nil 3)), (3, (TV.val (PV.bool y6221)))] 0 132, [], []⟩)
  | _ => none
def rParse24_L4 (n : Nat) (ls : List Leaf) (R : Type) (k : Ex → St → Option R) : Option R :=
  match ls with
  | [.str t14, .int k15, .rows es16] => rParse24_l4 n t14 k15 es16 (fun y7222 y7223 y7224 => k (.exit 2) ⟨sparse .undef [(0, (TV.val (PV.str y7222))), (4, (TV.ow 0)), (5, (TV.val (PV.int .i64 y7223)))] 0 132, [(Ob.row y7224 3)], []⟩)
  | _ => none
def rParse24_L2 (n : Nat) (ls : List Leaf) (R : Type) (k : Ex → St → Option R) : Option R :=
  match ls with
  | [.str t4, .rows es5] => rParse24_l2 n t4 es5 (fun y8225 => k (.exit 0) ⟨sparse .undef [(4, (TV.ow 0))] 0 132, [(Ob.row y8225 3)], []⟩)
      (fun y8226 => k .ret ⟨sparse .undef [(2, (TV.nil 3)), (3, (TV.val (PV.bool y8226)))] 0 132, [], []⟩)
  | _ => none
def rParse24_L (n key : Nat) (ls : List Leaf) (R : Type) (k : Ex → St → Option R) : Option R :=
  match key with
  | 18 => rParse24_L18 n ls R k
  | 12 => rParse24_L12 n ls R k
  | 4 => rParse24_L4 n ls R k
  | 2 => rParse24_L2 n ls R k
  | _ => none
def rParse24_J (n key : Nat) (ls : List Leaf) (R : Type) (k : Ex → St → Option R) : Option R :=
  match key with
  | 26 => rParse24_J26 n ls R k
  | 27 => rParse24_J27 n ls R k
  | 18 => rParse24_J18 n ls R k
  | 24 => rParse24_J24 n ls R k
  | _ => none
def rParse24_on : Code → Bool := onKeys [24, 18, 27, 26]
def rParse24_Λ : Nat → Loops := patL (normBy rParse24_cfg) rParse24_pat rParse24_L (normJ rParse24_cfg) rParse24_on rParse24_patj rParse24_J
theorem rParse24_step2 (n : Nat) (t4 : ByteArray) (es5 : List (List PV))  (R : Type) (k : Ex → St → Option R) :
    roundK T G0 (ctrOf rParse24_Γ) (normBy rParse24_cfg) (rParse24_Λ n) (codeAt [1, 1, 0, 0, 0] (bodyOf Tryd.f25)) (buildSt ⟨sparse .undef [(0, (.val .str)), (4, (.ow 0))] 0 132, [(.row 3)], []⟩ [.str t4, .rows es5]) R k = rParse24_L2 (n + 1) [.str t4, .rows es5] R k := by kernel_rfl
theorem rParse24_step4 (n : Nat) (t14 : ByteArray) (k15 : Int) (es16 : List (List PV))  (R : Type) (k : Ex → St → Option R) :
    roundK T G0 (ctrOf rParse24_Γ) (normBy rParse24_cfg) (rParse24_Λ n) (codeAt [1, 1, 0, 0, 0, 1, 0, 1, 0, 0, 0] (bodyOf Tryd.f25)) (buildSt ⟨sparse .undef [(0, (.val .str)), (4, (.ow 0)), (5, (.val (.int .i64)))] 0 132, [(.row 3)], []⟩ [.str t14, .int k15, .rows es16]) R k = rParse24_L4 (n + 1) [.str t14, .int k15, .rows es16] R k := by kernel_rfl
theorem rParse24_step12 (n : Nat) (t18 : ByteArray) (line19 : ByteArray) (found20 : Bool) (i21 : Int) (i22 : Int) (es23 : List (List PV)) (es24 : List (List PV))  (R : Type) (k : Ex → St → Option R) :
    roundK T G0 (ctrOf rParse24_Γ) (normBy rParse24_cfg) (rParse24_Λ n) (codeAt [1, 1, 0, 0, 0, 1, 0, 1, 1, 1, 1, 1, 1, 0, 1, 0, 0] (bodyOf Tryd.f25)) (buildSt ⟨sparse .undef [(0, (.val .str)), (4, (.ow 0)), (6, (.val .str)), (7, (.val .bool)), (41, (.ow 1)), (42, (.val (.int .i64))), (43, (.val (.int .i64)))] 0 132, [(.row 3), (.row 1)], []⟩ [.str t18, .str line19, .bool found20, .int i21, .int i22, .rows es23, .rows es24]) R k = rParse24_L12 (n + 1) [.str t18, .str line19, .bool found20, .int i21, .int i22, .rows es23, .rows es24] R k := by kernel_rfl
theorem rParse24_step18 (n : Nat) (t65 : ByteArray) (line66 : ByteArray) (kind67 : Int) (rest68 : ByteArray) (j69 : Int) (i70 : Int) (i71 : Int) (es72 : List (List PV)) (es73 : List (List PV))  (R : Type) (k : Ex → St → Option R) :
    roundK T G0 (ctrOf rParse24_Γ) (normBy rParse24_cfg) (rParse24_Λ n) (codeAt [1, 1, 0, 0, 0, 1, 0, 1, 1, 1, 1, 1, 1, 0, 1, 0, 0, 1, 1, 0, 0, 1, 1, 1, 0, 1, 0, 1, 0, 0, 0] (bodyOf Tryd.f25)) (buildSt ⟨sparse .undef [(0, (.val .str)), (4, (.ow 0)), (6, (.val .str)), (8, (.val (.int .i64))), (10, (.val .str)), (12, (.val (.int .i64))), (41, (.ow 1)), (42, (.val (.int .i64))), (43, (.val (.int .i64)))] 0 132, [(.row 3), (.row 1)], []⟩ [.str t65, .str line66, .int kind67, .str rest68, .int j69, .int i70, .int i71, .rows es72, .rows es73]) R k = rParse24_L18 (n + 1) [.str t65, .str line66, .int kind67, .str rest68, .int j69, .int i70, .int i71, .rows es72, .rows es73] R k := by kernel_rfl
theorem rParse24_stepq24 (n : Nat) (t75 : ByteArray) (line76 : ByteArray) (kind77 : Int) (rest78 : ByteArray) (text79 : ByteArray) (i80 : Int) (i81 : Int) (es82 : List (List PV)) (es83 : List (List PV))  (R : Type) (k : Ex → St → Option R) :
    joinK T G0 (ctrOf rParse24_Γ) (normJ rParse24_cfg) (rParse24_Λ n) (codeAt [1, 1, 0, 0, 0, 1, 0, 1, 1, 1, 1, 1, 1, 0, 1, 0, 0, 1, 1, 0, 0, 1, 1, 1, 1] (bodyOf Tryd.f25)) (buildSt ⟨sparse .undef [(0, (.val .str)), (4, (.ow 0)), (6, (.val .str)), (8, (.val (.int .i64))), (10, (.val .str)), (11, (.val .str)), (41, (.ow 1)), (42, (.val (.int .i64))), (43, (.val (.int .i64)))] 0 132, [(.row 3), (.row 1)], []⟩ [.str t75, .str line76, .int kind77, .str rest78, .str text79, .int i80, .int i81, .rows es82, .rows es83]) R k = rParse24_J24 n [.str t75, .str line76, .int kind77, .str rest78, .str text79, .int i80, .int i81, .rows es82, .rows es83] R k := by kernel_rfl
theorem rParse24_stepq18 (n : Nat) (t136 : ByteArray) (line137 : ByteArray) (kind138 : Int) (rest139 : ByteArray) (text140 : ByteArray) (i141 : Int) (i142 : Int) (b143 : Bool) (es144 : List (List PV)) (es145 : List (List PV))  (R : Type) (k : Ex → St → Option R) :
    joinK T G0 (ctrOf rParse24_Γ) (normJ rParse24_cfg) (rParse24_Λ n) (codeAt [1, 1, 0, 0, 0, 1, 0, 1, 1, 1, 1, 1, 1, 0, 1, 0, 0, 1, 1, 0, 0, 1, 1, 1, 0, 1] (bodyOf Tryd.f25)) (buildSt ⟨sparse .undef [(0, (.val .str)), (4, (.ow 0)), (6, (.val .str)), (8, (.val (.int .i64))), (10, (.val .str)), (11, (.val .str)), (41, (.ow 1)), (42, (.val (.int .i64))), (43, (.val (.int .i64))), (82, (.val .bool))] 0 132, [(.row 3), (.row 1)], []⟩ [.str t136, .str line137, .int kind138, .str rest139, .str text140, .int i141, .int i142, .bool b143, .rows es144, .rows es145]) R k = rParse24_J18 n [.str t136, .str line137, .int kind138, .str rest139, .str text140, .int i141, .int i142, .bool b143, .rows es144, .rows es145] R k := by kernel_rfl
theorem rParse24_stepq27 (n : Nat) (t155 : ByteArray) (line156 : ByteArray) (kind157 : Int) (text158 : ByteArray) (n159 : Int) (i160 : Int) (i161 : Int) (es162 : List (List PV)) (es163 : List (List PV))  (R : Type) (k : Ex → St → Option R) :
    joinK T G0 (ctrOf rParse24_Γ) (normJ rParse24_cfg) (rParse24_Λ n) (codeAt [1, 1, 0, 0, 0, 1, 0, 1, 1, 1, 1, 1, 1, 0, 1, 0, 0, 1, 1, 0, 0, 1, 1, 1, 1, 1, 1] (bodyOf Tryd.f25)) (buildSt ⟨sparse .undef [(0, (.val .str)), (4, (.ow 0)), (6, (.val .str)), (8, (.val (.int .i64))), (11, (.val .str)), (13, (.val (.int .i64))), (41, (.ow 1)), (42, (.val (.int .i64))), (43, (.val (.int .i64)))] 0 132, [(.row 3), (.row 1)], []⟩ [.str t155, .str line156, .int kind157, .str text158, .int n159, .int i160, .int i161, .rows es162, .rows es163]) R k = rParse24_J27 n [.str t155, .str line156, .int kind157, .str text158, .int n159, .int i160, .int i161, .rows es162, .rows es163] R k := by kernel_rfl
theorem rParse24_stepq26 (n : Nat) (t164 : ByteArray) (line165 : ByteArray) (kind166 : Int) (text167 : ByteArray) (n168 : Int) (i169 : Int) (i170 : Int) (b171 : Bool) (es172 : List (List PV)) (es173 : List (List PV))  (R : Type) (k : Ex → St → Option R) :
    joinK T G0 (ctrOf rParse24_Γ) (normJ rParse24_cfg) (rParse24_Λ n) (codeAt [1, 1, 0, 0, 0, 1, 0, 1, 1, 1, 1, 1, 1, 0, 1, 0, 0, 1, 1, 0, 0, 1, 1, 1, 1, 1, 0, 1] (bodyOf Tryd.f25)) (buildSt ⟨sparse .undef [(0, (.val .str)), (4, (.ow 0)), (6, (.val .str)), (8, (.val (.int .i64))), (11, (.val .str)), (13, (.val (.int .i64))), (41, (.ow 1)), (42, (.val (.int .i64))), (43, (.val (.int .i64))), (120, (.val .bool))] 0 132, [(.row 3), (.row 1)], []⟩ [.str t164, .str line165, .int kind166, .str text167, .int n168, .int i169, .int i170, .bool b171, .rows es172, .rows es173]) R k = rParse24_J26 n [.str t164, .str line165, .int kind166, .str text167, .int n168, .int i169, .int i170, .bool b171, .rows es172, .rows es173] R k := by kernel_rfl
theorem rParse24_eq (n : Nat) (t1 : ByteArray) :
    funK T G0 (ctrOf rParse24_Γ) (rParse24_Λ n) (.t [.s, .d]) true [none] (funOf Tryd.f25) [(PV.str t1)] = rParse24_b n  t1 (fun a0 a1 => if (noMem (rParse24_E (a0, a1)).1 && noMemL (rParse24_E (a0, a1)).2) = true then some (rParse24_E (a0, a1)) else none) := by kernel_rfl
theorem rParse24_inv {ps : List PV} {y : (List (List PV)) × Bool} (h : rParse24_D ps = some y) : ∃ (t1 : ByteArray), ps = [(PV.str t1)] := by
  unfold rParse24_D at h
  split at h
  · exact ⟨_, rfl⟩
  · cases h
theorem rParse24_loops : loopsOf (bodyOf Tryd.f25) = [codeAt [1, 1, 0, 0, 0] (bodyOf Tryd.f25), codeAt [1, 1, 0, 0, 0, 1, 0, 1, 0, 0, 0] (bodyOf Tryd.f25), codeAt [1, 1, 0, 0, 0, 1, 0, 1, 1, 1, 1, 1, 1, 0, 1, 0, 0] (bodyOf Tryd.f25), codeAt [1, 1, 0, 0, 0, 1, 0, 1, 1, 1, 1, 1, 1, 0, 1, 0, 0, 1, 1, 0, 0, 1, 1, 1, 0, 1, 0, 1, 0, 0, 0] (bodyOf Tryd.f25)] := by kernel_rfl
theorem rParse24_joins : (joinsOf (bodyOf Tryd.f25)).filter rParse24_on = [codeAt [1, 1, 0, 0, 0, 1, 0, 1, 1, 1, 1, 1, 1, 0, 1, 0, 0, 1, 1, 0, 0, 1, 1, 1, 1] (bodyOf Tryd.f25), codeAt [1, 1, 0, 0, 0, 1, 0, 1, 1, 1, 1, 1, 1, 0, 1, 0, 0, 1, 1, 0, 0, 1, 1, 1, 0, 1] (bodyOf Tryd.f25), codeAt [1, 1, 0, 0, 0, 1, 0, 1, 1, 1, 1, 1, 1, 0, 1, 0, 0, 1, 1, 0, 0, 1, 1, 1, 1, 1, 1] (bodyOf Tryd.f25), codeAt [1, 1, 0, 0, 0, 1, 0, 1, 1, 1, 1, 1, 1, 0, 1, 0, 0, 1, 1, 0, 0, 1, 1, 1, 1, 1, 0, 1] (bodyOf Tryd.f25)] := by kernel_rfl
theorem rParse24_holds (hΓ : HoldsAll Tryd.prog G0 rParse24_Γ) (hok : ∀ (t1 : ByteArray) (y : (List (List PV)) × Bool), sRParse24 t1 = some y → ∃ n, ∀ (R : Type) (k : List (List PV) → Bool → Option R), rParse24_b n  t1 k = k y.1 y.2) (hno : ∀ (t1 : ByteArray) (y : (List (List PV)) × Bool), sRParse24 t1 = some y → (noMem (rParse24_E y).1 && noMemL (rParse24_E y).2) = true) : Holds Tryd.prog G0 25 rParse24_C := by
  refine fun_pat mixed tOk (ctrOf_ok hΓ) Tryd.func25 rfl rfl rfl rfl (F := funOf Tryd.f25) (normBy_ok rParse24_cfg) (pat := rParse24_pat) (L := rParse24_L) (normJ_ok rParse24_cfg) (on := rParse24_on) (patj := rParse24_patj) (J := rParse24_J) (fun c hc ls R k => ?_) (fun c hc p hp m ls R k r h => ?_) (fun c hc p hp m ls R k r h => ?_) (fun ps x h => ?_)
  · rw [show (funOf Tryd.f25).code = bodyOf Tryd.f25 from rfl, rParse24_loops] at hc
    simp only [List.mem_cons, List.not_mem_nil, or_false] at hc
    rcases hc with rfl | rfl | rfl | rfl
    · show rParse24_L2 0 ls R k = none
      unfold rParse24_L2
      split
      · rfl
      · rfl
    · show rParse24_L4 0 ls R k = none
      unfold rParse24_L4
      split
      · rfl
      · rfl
    · show rParse24_L12 0 ls R k = none
      unfold rParse24_L12
      split
      · rfl
      · rfl
    · show rParse24_L18 0 ls R k = none
      unfold rParse24_L18
      split
      · rfl
      · rfl
  · rw [show (funOf Tryd.f25).code = bodyOf Tryd.f25 from rfl, rParse24_loops] at hc
    simp only [List.mem_cons, List.not_mem_nil, or_false] at hc
    rcases hc with rfl | rfl | rfl | rfl
    · have hp' : p = ⟨sparse .undef [(0, (.val .str)), (4, (.ow 0))] 0 132, [(.row 3)], []⟩ := (Option.some.inj (hp : some _ = some p)).symm
      subst hp'
      change rParse24_L2 (m + 1) ls R k = some r at h
      have h' := h
      unfold rParse24_L2 at h'
      split at h'
      · exact (rParse24_step2 m _ _ R k).trans h
      · cases h'
    · have hp' : p = ⟨sparse .undef [(0, (.val .str)), (4, (.ow 0)), (5, (.val (.int .i64)))] 0 132, [(.row 3)], []⟩ := (Option.some.inj (hp : some _ = some p)).symm
      subst hp'
      change rParse24_L4 (m + 1) ls R k = some r at h
      have h' := h
      unfold rParse24_L4 at h'
      split at h'
      · exact (rParse24_step4 m _ _ _ R k).trans h
      · cases h'
    · have hp' : p = ⟨sparse .undef [(0, (.val .str)), (4, (.ow 0)), (6, (.val .str)), (7, (.val .bool)), (41, (.ow 1)), (42, (.val (.int .i64))), (43, (.val (.int .i64)))] 0 132, [(.row 3), (.row 1)], []⟩ := (Option.some.inj (hp : some _ = some p)).symm
      subst hp'
      change rParse24_L12 (m + 1) ls R k = some r at h
      have h' := h
      unfold rParse24_L12 at h'
      split at h'
      · exact (rParse24_step12 m _ _ _ _ _ _ _ R k).trans h
      · cases h'
    · have hp' : p = ⟨sparse .undef [(0, (.val .str)), (4, (.ow 0)), (6, (.val .str)), (8, (.val (.int .i64))), (10, (.val .str)), (12, (.val (.int .i64))), (41, (.ow 1)), (42, (.val (.int .i64))), (43, (.val (.int .i64)))] 0 132, [(.row 3), (.row 1)], []⟩ := (Option.some.inj (hp : some _ = some p)).symm
      subst hp'
      change rParse24_L18 (m + 1) ls R k = some r at h
      have h' := h
      unfold rParse24_L18 at h'
      split at h'
      · exact (rParse24_step18 m _ _ _ _ _ _ _ _ _ R k).trans h
      · cases h'
  · rw [show (funOf Tryd.f25).code = bodyOf Tryd.f25 from rfl, rParse24_joins] at hc
    simp only [List.mem_cons, List.not_mem_nil, or_false] at hc
    rcases hc with rfl | rfl | rfl | rfl
    · have hp' : p = ⟨sparse .undef [(0, (.val .str)), (4, (.ow 0)), (6, (.val .str)), (8, (.val (.int .i64))), (10, (.val .str)), (11, (.val .str)), (41, (.ow 1)), (42, (.val (.int .i64))), (43, (.val (.int .i64)))] 0 132, [(.row 3), (.row 1)], []⟩ := (Option.some.inj (hp : some _ = some p)).symm
      subst hp'
      change rParse24_J24 m ls R k = some r at h
      have h' := h
      unfold rParse24_J24 at h'
      split at h'
      · exact (rParse24_stepq24 m _ _ _ _ _ _ _ _ _ R k).trans h
      · cases h'
    · have hp' : p = ⟨sparse .undef [(0, (.val .str)), (4, (.ow 0)), (6, (.val .str)), (8, (.val (.int .i64))), (10, (.val .str)), (11, (.val .str)), (41, (.ow 1)), (42, (.val (.int .i64))), (43, (.val (.int .i64))), (82, (.val .bool))] 0 132, [(.row 3), (.row 1)], []⟩ := (Option.some.inj (hp : some _ = some p)).symm
      subst hp'
      change rParse24_J18 m ls R k = some r at h
      have h' := h
      unfold rParse24_J18 at h'
      split at h'
      · exact (rParse24_stepq18 m _ _ _ _ _ _ _ _ _ _ R k).trans h
      · cases h'
    · have hp' : p = ⟨sparse .undef [(0, (.val .str)), (4, (.ow 0)), (6, (.val .str)), (8, (.val (.int .i64))), (11, (.val .str)), (13, (.val (.int .i64))), (41, (.ow 1)), (42, (.val (.int .i64))), (43, (.val (.int .i64)))] 0 132, [(.row 3), (.row 1)], []⟩ := (Option.some.inj (hp : some _ = some p)).symm
      subst hp'
      change rParse24_J27 m ls R k = some r at h
      have h' := h
      unfold rParse24_J27 at h'
      split at h'
      · exact (rParse24_stepq27 m _ _ _ _ _ _ _ _ _ R k).trans h
      · cases h'
    · have hp' : p = ⟨sparse .undef [(0, (.val .str)), (4, (.ow 0)), (6, (.val .str)), (8, (.val (.int .i64))), (11, (.val .str)), (13, (.val (.int .i64))), (41, (.ow 1)), (42, (.val (.int .i64))), (43, (.val (.int .i64))), (120, (.val .bool))] 0 132, [(.row 3), (.row 1)], []⟩ := (Option.some.inj (hp : some _ = some p)).symm
      subst hp'
      change rParse24_J26 m ls R k = some r at h
      have h' := h
      unfold rParse24_J26 at h'
      split at h'
      · exact (rParse24_stepq26 m _ _ _ _ _ _ _ _ _ _ R k).trans h
      · cases h'
  · obtain ⟨y, hy, hx⟩ := bind_inv h
    cases hx
    obtain ⟨t1, rfl⟩ := rParse24_inv hy
    obtain ⟨n, hn⟩ := hok t1 y hy
    exact ⟨n, (rParse24_eq n t1).trans ((hn _ _).trans (if_pos (hno t1 y hy)))⟩
def scriptTells_l19 {R : Type} : Nat → Int → Int → List (List PV) → (Bool → Option R) → (Unit → Option R) → Option R
  | 0, _, _, _, _, _ => none
  | n + 1, i20, i21, es22, k0, k1 =>
    cond (decide (i21 < i20)) (
      if 0 ≤ i21 ∧ i21 < (es22.length : Int) then
        Option.bind (es22[(Int.toNat i21)]?) fun e23 =>
        Option.bind (e23[0]?) fun c24 =>
        Option.bind (PV.asS c24) fun s25 =>
        Option.bind (sScParse s25) fun y26 =>
        Option.bind (sRParse24 s25) fun y27 =>
        cond ((y26.2 == (0 : Int)) != y27.2) (
          k0 false) (
          cond (!y27.2) (
            cond (y26.2 != (2 : Int)) (
              k0 false) (
              Option.bind (sSameA y26.1 y27.1) fun y28 =>
              cond (!y28) (
                k0 false) (
                scriptTells_l19 n i20 (IntKind.i64.wrap (i21 + (1 : Int))) es22 k0 k1))) (
            Option.bind (sSameA y26.1 y27.1) fun y29 =>
            cond (!y29) (
              k0 false) (
              scriptTells_l19 n i20 (IntKind.i64.wrap (i21 + (1 : Int))) es22 k0 k1)))
      else none) (
      k1 ())
def scriptTells_q19 {R : Type} (n : Nat) (s60 : ByteArray) (at61 : Int) (u62 : ByteArray) (k0 : Bool → Option R) : Option R :=
  if (u62).size + (s60).size ≤ 140737488355328 then
    Option.bind (within_d at61 (IntKind.i64.wrap (((u62).size : Int) + (1 : Int)))) fun y63 =>
    if (0 : Int) ≤ (0 : Int) ∧ (0 : Int) ≤ y63 ∧ y63 ≤ ((u62).size : Int) then
      if (u62).size + ((ByteArray.mk #[112, 105, 99, 107, 32, 48, 49, 10])).size ≤ 140737488355328 then
        if (u62).size + ((ByteArray.mk #[115, 97, 121, 32, 49, 10])).size ≤ 140737488355328 then
          if (u62).size + ((ByteArray.mk #[115, 97, 121, 32, 49, 32, 10])).size ≤ 140737488355328 then
            if (u62).size + ((ByteArray.mk #[114, 117, 110, 32, 49, 48, 48, 48, 48, 10])).size ≤ 140737488355328 then
              scriptTells_l19 n 7 0 [[(PV.str u62)], [(PV.str (u62 ++ s60))], [(PV.str (ByteArray.extract u62 0 (Int.toNat y63)))], [(PV.str (u62 ++ (ByteArray.mk #[112, 105, 99, 107, 32, 48, 49, 10])))], [(PV.str (u62 ++ (ByteArray.mk #[115, 97, 121, 32, 49, 10])))], [(PV.str (u62 ++ (ByteArray.mk #[115, 97, 121, 32, 49, 32, 10])))], [(PV.str (u62 ++ (ByteArray.mk #[114, 117, 110, 32, 49, 48, 48, 48, 48, 10])))]] k0
                (fun (_ : Unit) =>
                  Option.bind (wakes24_d) fun y65 =>
                  k0 y65)
            else none
          else none
        else none
      else none
    else none
  else none
def scriptTells_q17 {R : Type} (n : Nat) (s54 : ByteArray) (at55 : Int) (raw56 : Bool) (u57 : ByteArray) (k0 : Bool → Option R) : Option R :=
  cond raw56 (
    scriptTells_q19 n s54 at55 s54 k0) (
    scriptTells_q19 n s54 at55 u57 k0)
def scriptTells_q6 {R : Type} (n : Nat) (s38 : ByteArray) (how39 : Int) (x40 : Int) (at41 : Int) (raw42 : Bool) (k43 : Int) (b44 : Bool) (es45 : List (List PV)) (k0 : ByteArray → Int → Bool → List (List PV) → Option R) : Option R :=
  cond b44 (
    Option.bind (within_d x40 k43) fun y46 =>
    if 0 ≤ y46 ∧ y46 < (es45.length : Int) then
      Option.bind (within_d (IntKind.i64.wrap (Int.tdiv how39 (3 : Int))) 3) fun y47 =>
      cond (y47 == (0 : Int)) (
        Option.bind (es45[(Int.toNat y46)]?) fun e48 =>
        Option.bind (e48[0]?) fun c49 =>
        k0 s38 at41 raw42 (List.set es45 (Int.toNat y46) (List.set e48 0 (PV.int .i64 x40)))) (
        cond (y47 == (1 : Int)) (
          Option.bind (es45[(Int.toNat y46)]?) fun e50 =>
          Option.bind (e50[1]?) fun c51 =>
          k0 s38 at41 raw42 (List.set es45 (Int.toNat y46) (List.set e50 1 (PV.int .i64 x40)))) (
          Option.bind (es45[(Int.toNat y46)]?) fun e52 =>
          Option.bind (e52[2]?) fun c53 =>
          k0 s38 at41 raw42 (List.set es45 (Int.toNat y46) (List.set e52 2 (PV.str s38)))))
    else none) (
    k0 s38 at41 raw42 es45)
def scriptTells_q13 {R : Type} (n : Nat) (s30 : ByteArray) (at31 : Int) (raw32 : Bool) (es33 : List (List PV)) (k0 : Bool → Option R) : Option R :=
  Option.bind (sScPrint es33) fun y34 =>
  Option.bind (sRPrint24 es33) fun y35 =>
  cond ((y34.2 == (0 : Int)) != y35.2) (
    k0 false) (
    cond (!y35.2) (
      cond (y34.2 != (1 : Int)) (
        k0 false) (
        cond (!(ByteArray.toList y34.1 == ByteArray.toList y35.1)) (
          k0 false) (
          scriptTells_q17 n s30 at31 raw32 y35.1 k0))) (
      cond (!(ByteArray.toList y34.1 == ByteArray.toList y35.1)) (
        k0 false) (
        scriptTells_q17 n s30 at31 raw32 y35.1 k0)))
def scriptTells_b {R : Type} (n : Nat) (l1 : List (List PV)) (m2 : List (List PV)) (s3 : ByteArray) (how4 : Int) (x5 : Int) (at6 : Int) (raw7 : Bool) (k : Bool → Option R) : Option R :=
  Option.bind (sPInst l1) fun y8 =>
  Option.bind (sActs24 y8.1 y8.2.1 y8.2.2.1 y8.2.2.2 m2 s3) fun y9 =>
  cond (decide ((y9.length : Int) > (0 : Int))) (
    scriptTells_q6 n s3 how4 x5 at6 raw7 (y9.length : Int) ((Int.tmod how4 (3 : Int)) == (0 : Int)) y9
      (fun (s10 : ByteArray) (at11 : Int) (raw12 : Bool) (es13 : List (List PV)) =>
        scriptTells_q13 n s10 at11 raw12 es13 k)) (
    scriptTells_q6 n s3 how4 x5 at6 raw7 (y9.length : Int) false y9
      (fun (s15 : ByteArray) (at16 : Int) (raw17 : Bool) (es18 : List (List PV)) =>
        scriptTells_q13 n s15 at16 raw17 es18 k))
def scriptTells_E (y : Bool) : PV × List PV := ((PV.bool y), [])
def scriptTells_D : List PV → Option (Bool)
  | [(PV.fs l1), (PV.fs m2), (PV.str s3), (PV.int .i64 how4), (PV.int .i64 x5), (PV.int .i64 at6), (PV.bool raw7)] => sScriptTells l1 m2 s3 how4 x5 at6 raw7
  | _ => none
def scriptTells_Γ : List (Nat × Cal) := [(22, .ctr pInst_C), (23, .ctr acts24_C), (18, .ctr scParse_C), (25, .ctr rParse24_C), (20, .ctr sameA_C), (19, .ctr scPrint_C), (24, .ctr rPrint24_C), (16, .ctr within_C), (21, .ctr wakes24_C)]
def scriptTells_C : Ctr := ⟨[none, none, none, none, none, none, none], Bool, scriptTells_D, scriptTells_E, true, .d⟩
def scriptTells_cfg : List (Nat × LC) := [(19, ⟨[116, 117, 118], [], [], []⟩),
  (4000019, ⟨[2, 5, 21], [], [], []⟩),
  (4000017, ⟨[2, 5, 6, 21], [], [], []⟩),
  (4000013, ⟨[2, 5, 6, 16], [], [], []⟩),
  (4000006, ⟨[2, 3, 4, 5, 6, 16, 17, 43], [], [], []⟩),
  (5000006, ⟨[2, 5, 6, 16], [], [], []⟩),
  (6000013, ⟨[14], [], [], []⟩),
  (2000019, ⟨[14], [], [], []⟩),
  (1019001, ⟨[], [], [], []⟩),
  (6000019, ⟨[14], [], [], []⟩),
  (6000017, ⟨[14], [], [], []⟩)]
def scriptTells_pat : Nat → Option SP
  | 19 => some ⟨sparse .undef [(116, (.ow 0)), (117, (.val (.int .i64))), (118, (.val (.int .i64)))] 0 152, [(.row 1)], []⟩
  | _ => none
def scriptTells_patj : Nat → Option SP
  | 19 => some ⟨sparse .undef [(2, (.val .str)), (5, (.val (.int .i64))), (21, (.val .str))] 0 152, [], []⟩
  | 17 => some ⟨sparse .undef [(2, (.val .str)), (5, (.val (.int .i64))), (6, (.val .bool)), (21, (.val .str))] 0 152, [], []⟩
  | 6 => some ⟨sparse .undef [(2, (.val .str)), (3, (.val (.int .i64))), (4, (.val (.int .i64))), (5, (.val (.int .i64))), (6, (.val .bool)), (16, (.ow 0)), (17, (.val (.int .i64))), (43, (.val .bool))] 0 152, [(.row 3)], []⟩
  | 13 => some ⟨sparse .undef [(2, (.val .str)), (5, (.val (.int .i64))), (6, (.val .bool)), (16, (.ow 0))] 0 152, [(.row 3)], []⟩
  | _ => none
def scriptTells_L19 (n : Nat) (ls : List Leaf) (R : Type) (k : Ex → St → Option R) : Option R :=
  match ls with
  | [.int i20, .int i21, .rows es22] => scriptTells_l19 n i20 i21 es22 (fun y1066 => k .ret ⟨sparse .undef [(14, (TV.val (PV.bool y1066)))] 0 152, [], []⟩)
      (fun _ => k (.exit 1) ⟨sparse .undef [] 0 152, [], []⟩)
  | _ => none
def scriptTells_J19 (n : Nat) (ls : List Leaf) (R : Type) (k : Ex → St → Option R) : Option R :=
  match ls with
  | [.str s60, .int at61, .str u62] => scriptTells_q19 n s60 at61 u62 (fun y2067 => k .ret ⟨sparse .undef [(14, (TV.val (PV.bool y2067)))] 0 152, [], []⟩)
  | _ => none
def scriptTells_J17 (n : Nat) (ls : List Leaf) (R : Type) (k : Ex → St → Option R) : Option R :=
  match ls with
  | [.str s54, .int at55, .bool raw56, .str u57] => scriptTells_q17 n s54 at55 raw56 u57 (fun y3068 => k .ret ⟨sparse .undef [(14, (TV.val (PV.bool y3068)))] 0 152, [], []⟩)
  | _ => none
def scriptTells_J6 (n : Nat) (ls : List Leaf) (R : Type) (k : Ex → St → Option R) : Option R :=
  match ls with
  | [.str s38, .int how39, .int x40, .int at41, .bool raw42, .int k43, .bool b44, .rows es45] => scriptTells_q6 n s38 how39 x40 at41 raw42 k43 b44 es45 (fun y4069 y4070 y4071 y4072 => k .normal ⟨sparse .undef [(2, (TV.val (PV.str y4069))), (5, (TV.val (PV.int .i64 y4070))), (6, (TV.val (PV.bool y4071))), (16, (TV.ow 0))] 0 152, [(Ob.row y4072 3)], []⟩)
  | _ => none
def scriptTells_J13 (n : Nat) (ls : List Leaf) (R : Type) (k : Ex → St → Option R) : Option R :=
  match ls with
  | [.str s30, .int at31, .bool raw32, .rows es33] => scriptTells_q13 n s30 at31 raw32 es33 (fun y5073 => k .ret ⟨sparse .undef [(14, (TV.val (PV.bool y5073)))] 0 152, [], []⟩)
  | _ => none
def scriptTells_L (n key : Nat) (ls : List Leaf) (R : Type) (k : Ex → St → Option R) : Option R :=
  match key with
  | 19 => scriptTells_L19 n ls R k
  | _ => none
def scriptTells_J (n key : Nat) (ls : List Leaf) (R : Type) (k : Ex → St → Option R) : Option R :=
  match key with
  | 19 => scriptTells_J19 n ls R k
  | 17 => scriptTells_J17 n ls R k
  | 6 => scriptTells_J6 n ls R k
  | 13 => scriptTells_J13 n ls R k
  | _ => none
def scriptTells_on : Code → Bool := onKeys [13, 6, 17, 19]
def scriptTells_Λ : Nat → Loops := patL (normBy scriptTells_cfg) scriptTells_pat scriptTells_L (normJ scriptTells_cfg) scriptTells_on scriptTells_patj scriptTells_J
theorem scriptTells_step19 (n : Nat) (i20 : Int) (i21 : Int) (es22 : List (List PV))  (R : Type) (k : Ex → St → Option R) :
    roundK T G0 (ctrOf scriptTells_Γ) (normBy scriptTells_cfg) (scriptTells_Λ n) (codeAt [1, 1, 1, 1, 1, 1, 1, 1, 0, 1, 0, 0] (bodyOf Tryd.f6)) (buildSt ⟨sparse .undef [(116, (.ow 0)), (117, (.val (.int .i64))), (118, (.val (.int .i64)))] 0 152, [(.row 1)], []⟩ [.int i20, .int i21, .rows es22]) R k = scriptTells_L19 (n + 1) [.int i20, .int i21, .rows es22] R k := by kernel_rfl
theorem scriptTells_stepq13 (n : Nat) (s30 : ByteArray) (at31 : Int) (raw32 : Bool) (es33 : List (List PV))  (R : Type) (k : Ex → St → Option R) :
    joinK T G0 (ctrOf scriptTells_Γ) (normJ scriptTells_cfg) (scriptTells_Λ n) (codeAt [1, 1, 1, 1] (bodyOf Tryd.f6)) (buildSt ⟨sparse .undef [(2, (.val .str)), (5, (.val (.int .i64))), (6, (.val .bool)), (16, (.ow 0))] 0 152, [(.row 3)], []⟩ [.str s30, .int at31, .bool raw32, .rows es33]) R k = scriptTells_J13 n [.str s30, .int at31, .bool raw32, .rows es33] R k := by kernel_rfl
theorem scriptTells_stepq6 (n : Nat) (s38 : ByteArray) (how39 : Int) (x40 : Int) (at41 : Int) (raw42 : Bool) (k43 : Int) (b44 : Bool) (es45 : List (List PV))  (R : Type) (k : Ex → St → Option R) :
    joinK T G0 (ctrOf scriptTells_Γ) (normJ scriptTells_cfg) (scriptTells_Λ n) (codeAt [1, 1, 1, 0, 1, 1] (bodyOf Tryd.f6)) (buildSt ⟨sparse .undef [(2, (.val .str)), (3, (.val (.int .i64))), (4, (.val (.int .i64))), (5, (.val (.int .i64))), (6, (.val .bool)), (16, (.ow 0)), (17, (.val (.int .i64))), (43, (.val .bool))] 0 152, [(.row 3)], []⟩ [.str s38, .int how39, .int x40, .int at41, .bool raw42, .int k43, .bool b44, .rows es45]) R k = scriptTells_J6 n [.str s38, .int how39, .int x40, .int at41, .bool raw42, .int k43, .bool b44, .rows es45] R k := by kernel_rfl
theorem scriptTells_stepq17 (n : Nat) (s54 : ByteArray) (at55 : Int) (raw56 : Bool) (u57 : ByteArray)  (R : Type) (k : Ex → St → Option R) :
    joinK T G0 (ctrOf scriptTells_Γ) (normJ scriptTells_cfg) (scriptTells_Λ n) (codeAt [1, 1, 1, 1, 1, 1, 1] (bodyOf Tryd.f6)) (buildSt ⟨sparse .undef [(2, (.val .str)), (5, (.val (.int .i64))), (6, (.val .bool)), (21, (.val .str))] 0 152, [], []⟩ [.str s54, .int at55, .bool raw56, .str u57]) R k = scriptTells_J17 n [.str s54, .int at55, .bool raw56, .str u57] R k := by kernel_rfl
theorem scriptTells_stepq19 (n : Nat) (s60 : ByteArray) (at61 : Int) (u62 : ByteArray)  (R : Type) (k : Ex → St → Option R) :
    joinK T G0 (ctrOf scriptTells_Γ) (normJ scriptTells_cfg) (scriptTells_Λ n) (codeAt [1, 1, 1, 1, 1, 1, 1, 1] (bodyOf Tryd.f6)) (buildSt ⟨sparse .undef [(2, (.val .str)), (5, (.val (.int .i64))), (21, (.val .str))] 0 152, [], []⟩ [.str s60, .int at61, .str u62]) R k = scriptTells_J19 n [.str s60, .int at61, .str u62] R k := by kernel_rfl
theorem scriptTells_eq (n : Nat) (l1 : List (List PV)) (m2 : List (List PV)) (s3 : ByteArray) (how4 : Int) (x5 : Int) (at6 : Int) (raw7 : Bool) :
    funK T G0 (ctrOf scriptTells_Γ) (scriptTells_Λ n) .d true [none, none, none, none, none, none, none] (funOf Tryd.f6) [(PV.fs l1), (PV.fs m2), (PV.str s3), (PV.int .i64 how4), (PV.int .i64 x5), (PV.int .i64 at6), (PV.bool raw7)] = scriptTells_b n  l1 m2 s3 how4 x5 at6 raw7 (fun a0 => some (scriptTells_E a0)) := by kernel_rfl
theorem scriptTells_inv {ps : List PV} {y : Bool} (h : scriptTells_D ps = some y) : ∃ (l1 : List (List PV)) (m2 : List (List PV)) (s3 : ByteArray) (how4 : Int) (x5 : Int) (at6 : Int) (raw7 : Bool), ps = [(PV.fs l1), (PV.fs m2), (PV.str s3), (PV.int .i64 how4), (PV.int .i64 x5), (PV.int .i64 at6), (PV.bool raw7)] := by
  unfold scriptTells_D at h
  split at h
  · exact ⟨_, _, _, _, _, _, _, rfl⟩
  · cases h
theorem scriptTells_loops : loopsOf (bodyOf Tryd.f6) = [codeAt [1, 1, 1, 1, 1, 1, 1, 1, 0, 1, 0, 0] (bodyOf Tryd.f6)] := by kernel_rfl
theorem scriptTells_joins : (joinsOf (bodyOf Tryd.f6)).filter scriptTells_on = [codeAt [1, 1, 1, 1] (bodyOf Tryd.f6), codeAt [1, 1, 1, 0, 1, 1] (bodyOf Tryd.f6), codeAt [1, 1, 1, 1, 1, 1, 1] (bodyOf Tryd.f6), codeAt [1, 1, 1, 1, 1, 1, 1, 1] (bodyOf Tryd.f6)] := by kernel_rfl
theorem scriptTells_holds (hΓ : HoldsAll Tryd.prog G0 scriptTells_Γ) (hok : ∀ (l1 : List (List PV)) (m2 : List (List PV)) (s3 : ByteArray) (how4 : Int) (x5 : Int) (at6 : Int) (raw7 : Bool) (y : Bool), sScriptTells l1 m2 s3 how4 x5 at6 raw7 = some y → ∃ n, ∀ (R : Type) (k : Bool → Option R), scriptTells_b n  l1 m2 s3 how4 x5 at6 raw7 k = k y) : Holds Tryd.prog G0 6 scriptTells_C := by
  refine fun_pat mixed tOk (ctrOf_ok hΓ) Tryd.func6 rfl rfl rfl rfl (F := funOf Tryd.f6) (normBy_ok scriptTells_cfg) (pat := scriptTells_pat) (L := scriptTells_L) (normJ_ok scriptTells_cfg) (on := scriptTells_on) (patj := scriptTells_patj) (J := scriptTells_J) (fun c hc ls R k => ?_) (fun c hc p hp m ls R k r h => ?_) (fun c hc p hp m ls R k r h => ?_) (fun ps x h => ?_)
  · rw [show (funOf Tryd.f6).code = bodyOf Tryd.f6 from rfl, scriptTells_loops] at hc
    simp only [List.mem_cons, List.not_mem_nil, or_false] at hc
    rcases hc with rfl
    · show scriptTells_L19 0 ls R k = none
      unfold scriptTells_L19
      split
      · rfl
      · rfl
  · rw [show (funOf Tryd.f6).code = bodyOf Tryd.f6 from rfl, scriptTells_loops] at hc
    simp only [List.mem_cons, List.not_mem_nil, or_false] at hc
    rcases hc with rfl
    · have hp' : p = ⟨sparse .undef [(116, (.ow 0)), (117, (.val (.int .i64))), (118, (.val (.int .i64)))] 0 152, [(.row 1)], []⟩ := (Option.some.inj (hp : some _ = some p)).symm
      subst hp'
      change scriptTells_L19 (m + 1) ls R k = some r at h
      have h' := h
      unfold scriptTells_L19 at h'
      split at h'
      · exact (scriptTells_step19 m _ _ _ R k).trans h
      · cases h'
  · rw [show (funOf Tryd.f6).code = bodyOf Tryd.f6 from rfl, scriptTells_joins] at hc
    simp only [List.mem_cons, List.not_mem_nil, or_false] at hc
    rcases hc with rfl | rfl | rfl | rfl
    · have hp' : p = ⟨sparse .undef [(2, (.val .str)), (5, (.val (.int .i64))), (6, (.val .bool)), (16, (.ow 0))] 0 152, [(.row 3)], []⟩ := (Option.some.inj (hp : some _ = some p)).symm
      subst hp'
      change scriptTells_J13 m ls R k = some r at h
      have h' := h
      unfold scriptTells_J13 at h'
      split at h'
      · exact (scriptTells_stepq13 m _ _ _ _ R k).trans h
      · cases h'
    · have hp' : p = ⟨sparse .undef [(2, (.val .str)), (3, (.val (.int .i64))), (4, (.val (.int .i64))), (5, (.val (.int .i64))), (6, (.val .bool)), (16, (.ow 0)), (17, (.val (.int .i64))), (43, (.val .bool))] 0 152, [(.row 3)], []⟩ := (Option.some.inj (hp : some _ = some p)).symm
      subst hp'
      change scriptTells_J6 m ls R k = some r at h
      have h' := h
      unfold scriptTells_J6 at h'
      split at h'
      · exact (scriptTells_stepq6 m _ _ _ _ _ _ _ _ R k).trans h
      · cases h'
    · have hp' : p = ⟨sparse .undef [(2, (.val .str)), (5, (.val (.int .i64))), (6, (.val .bool)), (21, (.val .str))] 0 152, [], []⟩ := (Option.some.inj (hp : some _ = some p)).symm
      subst hp'
      change scriptTells_J17 m ls R k = some r at h
      have h' := h
      unfold scriptTells_J17 at h'
      split at h'
      · exact (scriptTells_stepq17 m _ _ _ _ R k).trans h
      · cases h'
    · have hp' : p = ⟨sparse .undef [(2, (.val .str)), (5, (.val (.int .i64))), (21, (.val .str))] 0 152, [], []⟩ := (Option.some.inj (hp : some _ = some p)).symm
      subst hp'
      change scriptTells_J19 m ls R k = some r at h
      have h' := h
      unfold scriptTells_J19 at h'
      split at h'
      · exact (scriptTells_stepq19 m _ _ _ R k).trans h
      · cases h'
  · obtain ⟨y, hy, hx⟩ := bind_inv h
    cases hx
    obtain ⟨l1, m2, s3, how4, x5, at6, raw7, rfl⟩ := scriptTells_inv hy
    obtain ⟨n, hn⟩ := hok l1 m2 s3 how4 x5 at6 raw7 y hy
    exact ⟨n, (scriptTells_eq n l1 m2 s3 how4 x5 at6 raw7).trans (hn _ _)⟩
end
end Go.Proofs.YtkeklbicmfhemaaDoorV
namespace Go.Proofs.YtkeklbicmfhemaaDoorV
open Go
set_option maxRecDepth 20000
set_option linter.unusedSimpArgs false
theorem cutAt_none {c : UInt8} : ∀ {l : List UInt8}, (cutAt c l).2.2 = false → cutAt c l = (l, [], false)
  | [], _ => rfl
  | b :: l, h => by
    unfold cutAt at h ⊢
    split at h
    · cases h
    · rename_i hb
      rw [if_neg hb, cutAt_none (l := l) h]
theorem cutAt_split {c : UInt8} : ∀ {l : List UInt8}, (cutAt c l).2.2 = true → l = (cutAt c l).1 ++ c :: (cutAt c l).2.1
  | [], h => by cases h
  | b :: l, h => by
    unfold cutAt at h ⊢
    split at h
    · rename_i hb
      rw [if_pos hb, hb, List.nil_append]
    · rename_i hb
      rw [if_neg hb]
      exact congrArg (b :: ·) (cutAt_split (l := l) h)
theorem cutAt_in {c : UInt8} {l : List UInt8} (h : (cutAt c l).2.2 = true) : c ∈ l := by
  rw [cutAt_split h]
  simp
theorem actV_inv {l : List UInt8} (h : (actV l).2 = true) : 0 ≤ (actV l).1.2.1 ∧ (actV l).1.2.1 ≤ 9999 ∧ (textK (actV l).1.1 = false → (actV l).1.2.2 = text []) := by
  unfold actV at h ⊢
  cases hm : (if (cutAt 32 l).2.2 = true then kindFrom 0 kindWords (cutAt 32 l).1 else none) with
  | none => rw [hm] at h; cases h
  | some k =>
    rw [hm] at h
    simp only [actOf, Bool.and_eq_true, decide_eq_true_eq, beq_iff_eq] at h ⊢
    refine ⟨h.2.1, h.2.2.1, fun ht => ?_⟩
    rw [cutAt_none (h.2.2.2.trans ht)]
theorem good_iff {a : Act} : goodA a = true ↔ (1 ≤ a.1 ∧ a.1 ≤ 6 ∧ 0 ≤ a.2.1 ∧ a.2.1 ≤ 9999) ∧ (textK a.1 = false → a.2.2 = text []) ∧ (10 : UInt8) ∉ lineV a := by
  constructor
  · intro h
    obtain ⟨g1, g2⟩ := goodA_inv h
    have hv := actV_inv (l := lineV a) (by rw [g1])
    rw [g1] at hv
    have hr : 1 ≤ a.1 ∧ a.1 ≤ 6 := by
      refine Classical.byContradiction fun hn => ?_
      rw [show lineV a = [] from if_neg hn] at g1
      have : ((0, 0, text []), false) = (a, true) := g1
      exact Bool.noConfusion (congrArg Prod.snd this)
    exact ⟨⟨hr.1, hr.2, hv.1, hv.2.1⟩, hv.2.2, g2⟩
  · intro ⟨⟨h1, h2, h3, h4⟩, h5, h6⟩
    obtain ⟨g, _⟩ := line_back (s := a.2.2) (a := a) ⟨h1, h2, h3, h4, h5, Nat.le_add_right _ _, id⟩
    unfold goodA
    rw [g, decide_eq_true rfl]
    cases hc : (lineV a).contains 10 with
    | false => rfl
    | true => exact absurd (List.contains_iff_mem.1 hc) h6
def word24 : List (List PV) := sRow (([] :: kindWords).map text)
theorem rWords24_at : rWords24_d = some word24 := rfl
theorem word24_at {n : Int} (h1 : 1 ≤ n) (h2 : n ≤ 6) : word24[n.toNat]? = some [PV.str (text (kindWords.getD (n - 1).toNat []))] := by
  have h : n = 1 ∨ n = 2 ∨ n = 3 ∨ n = 4 ∨ n = 5 ∨ n = 6 := by omega
  rcases h with rfl | rfl | rfl | rfl | rfl | rfl <;> rfl
theorem ten_eq (c : UInt8) : (((c.toNat : Int) == 10) : Bool) = (c == 10) := u8_cast c 10
theorem blank_eq (c : UInt8) : (((c.toNat : Int) != 32) : Bool) = (c != 32) := congrArg (!·) (u8_cast c 32)
theorem rPrint_scan {R : Type} {w : List UInt8} (hw : w.length ≤ lim) (t : ByteArray) (es : List (List PV)) (i j : Int) (k0 : ByteArray → Bool → Option R) (k1 : ByteArray → ByteArray → List (List PV) → Int → Int → Option R) : ∀ (rest pre : List UInt8) (n : Nat), w = pre ++ rest → rest.length < n →
    rPrint24_l13 n t (text w) (pre.length : Int) es i j k0 k1 = if rest.contains 10 = true then k0 (text []) false else k1 t (text w) es i j
  | [], pre, n, e, hn => by
    obtain ⟨m, rfl⟩ : ∃ m, n = m + 1 := ⟨n - 1, by omega⟩
    simp only [List.append_nil] at e
    subst e
    unfold rPrint24_l13
    rw [text_size, decide_eq_false (by omega), cond_false]
    rfl
  | c :: rest, pre, n, e, hn => by
    obtain ⟨m, rfl⟩ : ∃ m, n = m + 1 := ⟨n - 1, by omega⟩
    have hlen : w.length = pre.length + (rest.length + 1) := by rw [e]; simp
    have hidx : idx w (pre.length : Int) = some c := by rw [e]; exact idx_bytes pre c rest
    unfold lim at hw
    unfold rPrint24_l13
    rw [text_size, decide_eq_true (by omega), cond_true, text_data, hidx, Option.bind_some, ten_eq]
    by_cases h : c = 10
    · subst h
      rw [beq_self_eq_true, cond_true, if_pos (by simp)]
      rfl
    · have h' : ((10 : UInt8) == c) = false := beq_eq_false_iff_ne.2 (Ne.symm h)
      rw [beq_eq_false_iff_ne.2 h, cond_false, wrapN (by omega) (by omega), show ((pre.length : Int) + 1) = ((pre ++ [c]).length : Int) by simp]
      rw [rPrint_scan hw t es i j k0 k1 rest (pre ++ [c]) m (by rw [e]; simp) (by simp at hn; omega), List.contains_cons, h', Bool.false_or]
theorem rPrint_q13 {R : Type} {out L : List UInt8} (ho : out.length ≤ lim) (hL : L.length ≤ lim) {n : Nat} (hn : L.length < n) (es : List (List PV)) (i j : Int) (k0 : ByteArray → Bool → Option R) (k1 : ByteArray → List (List PV) → Int → Int → Option R) :
    rPrint24_q13 n (text out) (text L) es i j k0 k1 = if L.contains 10 = true then k0 (text []) false else k1 (text (out ++ L ++ [10])) es i j := by
  unfold rPrint24_q13
  have := fun k1 => rPrint_scan (R := R) hL (text out) es i j k0 k1 L [] n rfl hn
  refine (this _).trans ?_
  unfold lim at ho hL
  have e1 : (text L).size + (ByteArray.mk #[10]).size ≤ 140737488355328 := by rw [text_size, show (ByteArray.mk #[10]).size = 1 from rfl]; omega
  have e2 : (text out).size + (text L ++ ByteArray.mk #[10]).size ≤ 140737488355328 := by
    rw [show ByteArray.mk #[10] = text [10] from rfl, text_append, text_size, text_size, List.length_append, List.length_singleton]
    omega
  rw [if_pos e1, if_pos e2, show ByteArray.mk #[10] = text [10] from rfl, text_append, text_append, List.append_assoc]
def aCells (a : Act) : List PV := [.int .i64 a.1, .int .i64 a.2.1, .str a.2.2]
theorem rPrint_tail {R : Type} {out w : List UInt8} {a : Act} (ho : out.length ≤ lim) (hw : w.length ≤ 100) (ha : a.2.2.size ≤ 2 * mega) {n : Nat} (hn : 2 * mega + 200 < n) (es : List (List PV)) (i j : Int) (k0 : ByteArray → Bool → Option R) (k1 : ByteArray → List (List PV) → Int → Int → Option R) :
    rPrint24_q9 n (text out) (text w) es i j (.agg (aCells a)) k0 k1 = if (textK a.1 = false → a.2.2 = text []) ∧ (w ++ (if textK a.1 = true then 32 :: a.2.2.data.toList else [])).contains 10 = false then k1 (text (out ++ (w ++ (if textK a.1 = true then 32 :: a.2.2.data.toList else [])) ++ [10])) es i j else k0 (text []) false := by
  have hm : mega = 1048576 := rfl
  have e10 : ∀ b : Bool, b = textK a.1 → rPrint24_q10 n (text out) (text w) es i j b (.agg (aCells a)) (fun t s es i j => rPrint24_q13 n t s es i j k0 k1) k0 = if (textK a.1 = false → a.2.2 = text []) ∧ (w ++ (if textK a.1 = true then 32 :: a.2.2.data.toList else [])).contains 10 = false then k1 (text (out ++ (w ++ (if textK a.1 = true then 32 :: a.2.2.data.toList else [])) ++ [10])) es i j else k0 (text []) false := by
    intro b hb
    subst hb
    unfold rPrint24_q10
    have hc : (PV.cells (.agg (aCells a)))[2]? = some (.str a.2.2) := rfl
    simp only [hc, Option.bind_some, PV.asS]
    cases ht : textK a.1 with
    | true =>
      have hd := size_data a.2.2
      have e1 : (ByteArray.mk #[32]).size + a.2.2.size ≤ 140737488355328 := by rw [show (ByteArray.mk #[32]).size = 1 from rfl]; omega
      have e3 : ByteArray.mk #[32] ++ a.2.2 = text (32 :: a.2.2.data.toList) := by
        conv => lhs; rw [← text_of a.2.2]
        rw [show ByteArray.mk #[32] = text [32] from rfl, text_append]
        rfl
      have hl : (w ++ 32 :: a.2.2.data.toList).length ≤ 2 * mega + 101 := by rw [List.length_append, List.length_cons]; omega
      rw [cond_true, if_pos e1, e3, if_pos (by rw [text_size, text_size, List.length_cons]; omega), text_append, rPrint_q13 ho (by unfold lim; omega) (by omega)]
      simp only [if_true]
      cases (w ++ 32 :: a.2.2.data.toList).contains 10 <;> simp
    | false =>
      rw [cond_false, mk_nil, str_eq]
      by_cases he : a.2.2 = text []
      · rw [decide_eq_true he, Bool.not_true, cond_false, rPrint_q13 ho (by unfold lim; omega) (by omega)]
        simp only [List.append_nil, he, Bool.false_eq_true, if_false]
        cases w.contains 10 <;> simp
      · rw [decide_eq_false he, Bool.not_false, cond_true, if_neg (fun e => he (e.1 rfl))]
  unfold rPrint24_q9
  have hc : (PV.cells (.agg (aCells a)))[0]? = some (.int .i64 a.1) := rfl
  have hi : PV.asI .i64 (.int .i64 a.1) = some a.1 := rfl
  simp only [hc, hi, Option.bind_some]
  cases h3 : (a.1 == 3) with
  | true => rw [cond_true]; exact e10 true (by rw [textK, h3]; rfl)
  | false => rw [cond_false]; exact e10 _ (by rw [textK, h3]; rfl)
theorem rPrint_q8 {R : Type} {out : List UInt8} {a : Act} (ho : out.length ≤ lim) (hr : 1 ≤ a.1 ∧ a.1 ≤ 6) (hi : inI a.2.1 = true) (ha : a.2.2.size ≤ 2 * mega) {n : Nat} (hn : 2 * mega + 200 < n) (es : List (List PV)) (i j : Int) (k0 : ByteArray → Bool → Option R) (k1 : ByteArray → List (List PV) → Int → Int → Option R) :
    rPrint24_q8 n (text out) es i j (.agg (aCells a)) k0 k1 = if (textK a.1 = false → a.2.2 = text []) ∧ (lineV a).contains 10 = false then k1 (text (out ++ lineV a ++ [10])) es i j else k0 (text []) false := by
  have hd := dig_length hi
  have hk : (kindWords.getD (a.1 - 1).toNat []).length ≤ 5 := (kind_at (j := (a.1 - 1).toNat) (by omega)).2
  have hline : lineV a = (kindWords.getD (a.1 - 1).toNat [] ++ 32 :: dig a.2.1) ++ (if textK a.1 = true then 32 :: a.2.2.data.toList else []) := lineV_in (a1 := a.1) (a2 := a.2.1) (a3 := a.2.2) hr
  have hw := word24_at hr.1 hr.2
  generalize hW : kindWords.getD (a.1 - 1).toNat [] = W at hk hw hline
  have hc0 : (PV.cells (.agg (aCells a)))[0]? = some (.int .i64 a.1) := rfl
  have hc1 : (PV.cells (.agg (aCells a)))[1]? = some (.int .i64 a.2.1) := rfl
  have hi0 : ∀ z : Int, PV.asI .i64 (.int .i64 z) = some z := fun _ => rfl
  have hdig : sRDigits a.2.1 = some (text (dig a.2.1)) := sItoa_in hi
  have hlen : (word24.length : Int) = 7 := rfl
  have hcond : (0 ≤ a.1 ∧ a.1 < 7) = True := eq_true (by omega)
  have e1 : ((text W).size + (ByteArray.mk #[32]).size ≤ 140737488355328) = True := eq_true (by rw [text_size, show (ByteArray.mk #[32]).size = 1 from rfl]; omega)
  have e2 : text W ++ ByteArray.mk #[32] = text (W ++ [32]) := text_append W [32]
  have e3 : ((text (W ++ [32])).size + (text (dig a.2.1)).size ≤ 140737488355328) = True := eq_true (by rw [text_size, text_size, List.length_append, List.length_singleton]; omega)
  have e4 : text (W ++ [32]) ++ text (dig a.2.1) = text (W ++ 32 :: dig a.2.1) := by rw [text_append, List.append_assoc]; rfl
  unfold rPrint24_q8
  simp only [rWords24_at, hc0, hc1, hi0, Option.bind_some, hlen, hcond, if_true, hw, List.getElem?_cons_zero, PV.asS, hdig, e1, e2, e3, e4, meet_self]
  rw [rPrint_tail ho (by rw [List.length_append, List.length_cons]; omega) ha hn, ← hline]
theorem rPrint_rounds {R : Type} {l : List Act} (hl : l.length ≤ 1000) (hk : l.all okA = true) (k0 : ByteArray → Option R) (k1 : ByteArray → Bool → Option R) : ∀ (rest pre : List Act) (out : List UInt8) (n : Nat), l = pre ++ rest → rest.length + 2 * mega + 201 < n → out.length ≤ pre.length * 2097300 →
    rPrint24_l3 n (text out) (aRow l) (l.length : Int) (pre.length : Int) k0 k1 = match printF rest out with | some o => k0 (text o) | none => k1 (text []) false
  | [], pre, out, n, hw, hn, _ => by
    obtain ⟨m, rfl⟩ : ∃ m, n = m + 1 := ⟨n - 1, by omega⟩
    simp only [List.append_nil] at hw
    subst hw
    unfold rPrint24_l3 printF
    rw [decide_eq_false (by omega), cond_false]
  | x :: rest, pre, out, n, hw, hn, ho => by
    obtain ⟨m, rfl⟩ : ∃ m, n = m + 1 := ⟨n - 1, by omega⟩
    have hlen : l.length = pre.length + (rest.length + 1) := by rw [hw]; simp
    have hx : okA x = true := List.all_eq_true.1 hk x (by rw [hw]; simp)
    have hx' := hx
    simp only [okA, Bool.and_eq_true, decide_eq_true_eq] at hx'
    have hll := lineV_length hx
    have hm : mega = 1048576 := rfl
    have hidx : idx (aRow l) (pre.length : Int) = some (aCells x) := by rw [hw]; exact idx_aRow pre x rest
    have hsub : subAgg (aCells x) 0 3 = some (.agg (aCells x)) := rfl
    have hagg : PV.isAgg (.agg (aCells x)) 3 = true := rfl
    have hl3 : (aCells x).length = 3 := rfl
    have hc0 : (PV.cells (.agg (aCells x)))[0]? = some (.int .i64 x.1) := rfl
    have hc1 : (PV.cells (.agg (aCells x)))[1]? = some (.int .i64 x.2.1) := rfl
    have hi0 : ∀ z : Int, PV.asI .i64 (.int .i64 z) = some z := fun _ => rfl
    unfold rPrint24_l3 printF
    rw [decide_eq_true (by omega), cond_true, hidx]
    simp only [Option.bind_some, hl3, if_true, hsub, hagg, hc0, hc1, hi0]
    by_cases hr : 1 ≤ x.1 ∧ x.1 ≤ 6 ∧ 0 ≤ x.2.1 ∧ x.2.1 ≤ 9999
    · rw [decide_eq_false (by omega), cond_false, decide_eq_false (by omega), cond_false, decide_eq_false (by omega), cond_false, decide_eq_false (by omega)]
      unfold rPrint24_q7
      rw [cond_false]
      refine (rPrint_q8 (a := x) (out := out) (n := m) (by unfold lim; omega) ⟨hr.1, hr.2.1⟩ hx'.2.1 hx'.2.2 (by omega) _ _ _ _ _).trans ?_
      by_cases hg : goodA x = true
      · obtain ⟨_, g2, g3⟩ := good_iff.1 hg
        have g3' : (lineV x).contains 10 = false := by
          cases hc : (lineV x).contains 10 with
          | false => rfl
          | true => exact absurd (List.contains_iff_mem.1 hc) g3
        rw [if_pos ⟨g2, g3'⟩, if_pos hg, wrapN (by omega) (by omega), show ((pre.length : Int) + 1) = ((pre ++ [x]).length : Int) by simp]
        exact rPrint_rounds hl hk k0 k1 rest (pre ++ [x]) _ m (by rw [hw]; simp) (by simp at hn; omega) (by simp; omega)
      · rw [if_neg hg, if_neg fun e => hg (good_iff.2 ⟨hr, e.1, fun e' => by rw [List.contains_iff_mem.2 e'] at e; cases e.2⟩)]
    · rw [if_neg fun e => hr (good_iff.1 e).1]
      unfold rPrint24_q7
      by_cases h1 : x.1 < 1
      · rw [decide_eq_true h1, cond_true, cond_true]; rfl
      · by_cases h2 : x.1 > 6
        · rw [decide_eq_false h1, cond_false, decide_eq_true h2, cond_true, cond_true]; rfl
        · by_cases h3 : x.2.1 < 0
          · rw [decide_eq_false h1, cond_false, decide_eq_false h2, cond_false, decide_eq_true h3, cond_true, cond_true]; rfl
          · rw [decide_eq_false h1, cond_false, decide_eq_false h2, cond_false, decide_eq_false h3, cond_false, decide_eq_true (by omega), cond_true]; rfl
theorem rPrint24_ok : ∀ (l1 : List (List PV)) (y : ByteArray × Bool), sRPrint24 l1 = some y → ∃ n, ∀ (R : Type) (k : ByteArray → Bool → Option R), rPrint24_b n l1 k = k y.1 y.2 := by
  intro es y h
  simp only [sRPrint24, Option.bind_eq_some_iff] at h
  obtain ⟨l, h1, h2⟩ := h
  split at h2
  case isFalse => cases h2
  rename_i hh
  cases h2
  rw [unA_inv h1]
  refine ⟨l.length + 2 * mega + 202, fun R k => ?_⟩
  unfold rPrint24_b
  rw [aRow_length]
  have := fun k0 => rPrint_rounds (R := R) hh.1 hh.2 k0 k l [] [] (l.length + 2 * mega + 202) rfl (by omega) (by simp)
  refine (this _).trans ?_
  cases printF l [] <;> rfl
end Go.Proofs.YtkeklbicmfhemaaDoorV
namespace Go.Proofs.YtkeklbicmfhemaaDoorV
open Go
set_option maxRecDepth 20000
set_option linter.unusedSimpArgs false
theorem cutAt_cons {c b : UInt8} (h : b ≠ c) (l : List UInt8) : (cutAt c (b :: l)).1 = b :: (cutAt c l).1 := by rw [cutAt, if_neg h]
theorem cutAt_same (c : UInt8) (l : List UInt8) : (cutAt c (c :: l)).1 = [] := by rw [cutAt, if_pos rfl]
theorem rParse_end {R : Type} {w : List UInt8} (hw : w.length ≤ lim) (es : List (List PV)) (k0 : ByteArray → Int → List (List PV) → Option R) : ∀ (rest pre : List UInt8) (n : Nat), w = pre ++ rest → rest.length < n →
    rParse24_l4 n (text w) (pre.length : Int) es k0 = k0 (text w) ((pre ++ (cutAt 10 rest).1).length : Int) es
  | [], pre, n, e, hn => by
    obtain ⟨m, rfl⟩ : ∃ m, n = m + 1 := ⟨n - 1, by omega⟩
    simp only [List.append_nil] at e
    subst e
    unfold rParse24_l4
    rw [text_size, decide_eq_false (by omega), cond_false, cutAt, List.append_nil]
  | c :: rest, pre, n, e, hn => by
    obtain ⟨m, rfl⟩ : ∃ m, n = m + 1 := ⟨n - 1, by omega⟩
    have hlen : w.length = pre.length + (rest.length + 1) := by rw [e]; simp
    have hidx : idx w (pre.length : Int) = some c := by rw [e]; exact idx_bytes pre c rest
    unfold lim at hw
    unfold rParse24_l4
    rw [text_size, decide_eq_true (by omega), cond_true, text_data, hidx, Option.bind_some, show (((c.toNat : Int) != 10) : Bool) = (c != 10) from congrArg (!·) (ten_eq c)]
    by_cases h : c = 10
    · subst h
      rw [show ((10 : UInt8) != 10) = false from rfl, cond_false, cutAt_same, List.append_nil]
    · rw [bne_iff_ne.2 h, cond_true, wrapN (by omega) (by omega), show ((pre.length : Int) + 1) = ((pre ++ [c]).length : Int) by simp]
      rw [rParse_end hw es k0 rest (pre ++ [c]) m (by rw [e]; simp) (by simp at hn; omega), cutAt_cons h, List.append_assoc]
      rfl
theorem rParse_blank {R : Type} {w : List UInt8} (hw : w.length ≤ lim) (t line : ByteArray) (kind i j : Int) (es es' : List (List PV)) (k0 : ByteArray → ByteArray → Int → ByteArray → Int → Int → Int → List (List PV) → List (List PV) → Option R) : ∀ (rest pre : List UInt8) (n : Nat), w = pre ++ rest → rest.length < n →
    rParse24_l18 n t line kind (text w) (pre.length : Int) i j es es' k0 = k0 t line kind (text w) ((pre ++ (cutAt 32 rest).1).length : Int) i j es es'
  | [], pre, n, e, hn => by
    obtain ⟨m, rfl⟩ : ∃ m, n = m + 1 := ⟨n - 1, by omega⟩
    simp only [List.append_nil] at e
    subst e
    unfold rParse24_l18
    rw [text_size, decide_eq_false (by omega), cond_false, cutAt, List.append_nil]
  | c :: rest, pre, n, e, hn => by
    obtain ⟨m, rfl⟩ : ∃ m, n = m + 1 := ⟨n - 1, by omega⟩
    have hlen : w.length = pre.length + (rest.length + 1) := by rw [e]; simp
    have hidx : idx w (pre.length : Int) = some c := by rw [e]; exact idx_bytes pre c rest
    unfold lim at hw
    unfold rParse24_l18
    rw [text_size, decide_eq_true (by omega), cond_true, text_data, hidx, Option.bind_some, blank_eq]
    by_cases h : c = 32
    · subst h
      rw [show ((32 : UInt8) != 32) = false from rfl, cond_false, cutAt_same, List.append_nil]
    · rw [bne_iff_ne.2 h, cond_true, wrapN (by omega) (by omega), show ((pre.length : Int) + 1) = ((pre ++ [c]).length : Int) by simp]
      rw [rParse_blank hw t line kind i j es es' k0 rest (pre ++ [c]) m (by rw [e]; simp) (by simp at hn; omega), cutAt_cons h, List.append_assoc]
      rfl
theorem part_at (a : List UInt8) (c : UInt8) (r : List UInt8) : (text (a ++ c :: r)).extract 0 a.length = text a ∧ (text (a ++ c :: r)).extract (a.length + 1) (a ++ c :: r).length = text r := by
  rw [text_extract, text_extract]
  constructor
  · rw [List.take_left, List.drop_zero]
  · rw [List.take_length, show a ++ c :: r = (a ++ [c]) ++ r by simp, show a.length + 1 = (a ++ [c]).length by simp, List.drop_left]
theorem rParse_q24 {R : Type} {r : List UInt8} (hr : r.length ≤ lim) {acc : List Act} (ha : acc.length ≤ lim) (n : Nat) (t line tx : ByteArray) (kind i j : Int) (es' : List (List PV)) (k0 : Bool → Option R) (k1 : ByteArray → ByteArray → Bool → Int → Int → List (List PV) → List (List PV) → Option R) :
    rParse24_q24 n t line kind (text r) tx i j (aRow acc) es' k0 k1 = if (intV r).2 = true ∧ 0 ≤ (intV r).1 ∧ (intV r).1 ≤ 9999 then k1 t line true i j (aRow (acc ++ [(kind, (intV r).1, tx)])) es' else k0 false := by
  have h1 : sRInt (text r) = some (intV r) := by
    unfold sRInt
    rw [text_size, if_pos hr, text_data]
  have hrow : aRow acc ++ [[PV.int .i64 kind, PV.int .i64 (intV r).1, PV.str tx]] = aRow (acc ++ [(kind, (intV r).1, tx)]) := by rw [aRow_append]; rfl
  have hlen : ((aRow acc).length + ([[PV.int .i64 kind, PV.int .i64 (intV r).1, PV.str tx]] : List (List PV)).length) * 32 ≤ maxBytes := by
    rw [aRow_length]
    unfold maxBytes
    unfold lim at ha
    simp
    omega
  unfold rParse24_q24
  rw [h1, Option.bind_some]
  unfold rParse24_q26 rParse24_q27
  cases hv : (intV r).2 with
  | false => rw [Bool.not_false, cond_true, cond_true, if_neg (by simp)]
  | true =>
    rw [Bool.not_true, cond_false]
    by_cases h2 : (intV r).1 < 0
    · rw [decide_eq_true h2, cond_true, cond_true, if_neg (by omega)]
    · rw [decide_eq_false h2, cond_false]
      by_cases h3 : (intV r).1 > 9999
      · rw [decide_eq_true h3, cond_true, if_neg (by omega)]
      · rw [decide_eq_false h3, cond_false]
        refine (if_pos hlen).trans ?_
        rw [hrow, if_pos ⟨rfl, by omega, by omega⟩]
theorem rParse_q18 {R : Type} {r : List UInt8} (hr : r.length ≤ lim) {acc : List Act} (ha : acc.length ≤ lim) {n : Nat} (hn : r.length < n) (t line : ByteArray) {j : Nat} {b : Bool} (hb : b = textK ((j : Int) + 1)) (i i' : Int) (es' : List (List PV)) (K : ByteArray → ByteArray → Bool → Int → Int → List (List PV) → List (List PV) → Option R) (k1 : Bool → Option R) :
    rParse24_q18 n t line ((j : Int) + 1) (text r) (text []) i i' b (aRow acc) es' (fun t l k rest tx i i' es es' => rParse24_q24 n t l k rest tx i i' es es' k1 K) k1 = if (actOf j r).2 = true then K t line true i i' (aRow (acc ++ [(actOf j r).1])) es' else k1 false := by
  subst hb
  unfold rParse24_q18
  have hcl := cutAt_length 32 r
  have hlim : lim = 4294967280 := rfl
  cases ht : textK ((j : Int) + 1) with
  | true =>
    rw [cond_true]
    have := fun k0 => rParse_blank (R := R) hr t line ((j : Int) + 1) i i' (aRow acc) es' k0 r [] n rfl hn
    refine (this _).trans ?_
    rw [List.nil_append]
    cases hc : (cutAt 32 r).2.2 with
    | false =>
      have hcn := cutAt_none hc
      rw [hcn, text_size, beq_self_eq_true, cond_true, if_neg]
      simp [actOf, hcn, ht]
    | true =>
      have hsp := cutAt_split hc
      have hsh := cutAt_short hc
      have hlt : (cutAt 32 r).1.length < r.length := by
        have := congrArg List.length hsp
        rw [List.length_append, List.length_cons] at this
        omega
      have hp := part_at (cutAt 32 r).1 32 (cutAt 32 r).2.1
      rw [← hsp] at hp
      have e1 : (((cutAt 32 r).1.length : Int) == ((text r).size : Int)) = false := by rw [text_size]; exact beq_eq_false_iff_ne.2 (by omega)
      have e2 : IntKind.i64.wrap (((cutAt 32 r).1.length : Int) + 1) = (((cutAt 32 r).1.length + 1 : Nat) : Int) := by rw [wrapN (by omega) (by omega)]; rfl
      rw [e1, cond_false, if_pos ⟨Int.le_refl 0, by omega, by rw [text_size]; omega⟩, e2, if_pos ⟨by omega, by rw [text_size]; omega, Int.le_refl _⟩, Int.toNat_natCast, Int.toNat_natCast, Int.toNat_natCast, text_size, hp.1, hp.2]
      refine (rParse_q24 (r := (cutAt 32 r).1) (by omega) ha _ _ _ _ _ _ _ _ _ _).trans ?_
      simp only [actOf, ht, hc, beq_self_eq_true, Bool.and_true, Bool.and_eq_true, decide_eq_true_eq]
  | false =>
    rw [cond_false]
    refine (rParse_q24 hr ha _ _ _ _ _ _ _ _ _ _).trans ?_
    cases hc : (cutAt 32 r).2.2 with
    | false =>
      have hcn := cutAt_none hc
      simp only [actOf, ht, hcn, beq_self_eq_true, Bool.and_true, Bool.and_eq_true, decide_eq_true_eq]
    | true =>
      have hbad := intV_bad (cutAt_in hc) (by decide) (by decide)
      rw [hbad, if_neg (by simp), if_neg (by simp [actOf, ht, hc])]
theorem kind_no_blank : ∀ j : Fin 6, (kindWords.getD j.val []).contains 32 = false := by decide
theorem kind_unlike : ∀ i j : Fin 6, kindWords.getD i.val [] = kindWords.getD j.val [] → i = j := by decide
theorem rParse_step {R : Type} {line : List UInt8} (hl : line.length ≤ lim) (t : ByteArray) (found : Bool) {acc : List Act} (ha : acc.length ≤ lim) {j : Nat} (hj : j < 6) {n : Nat} (hn : line.length < n) (k0 : ByteArray → Bool → List (List PV) → Option R) (k1 : Bool → Option R) :
    rParse24_l12 (n + 1) t (text line) found 7 ((j + 1 : Nat) : Int) (aRow acc) word24 k0 k1 =
      if (cutAt 32 line).2.2 = true ∧ (cutAt 32 line).1 = kindWords.getD j [] then
        if (actOf j (cutAt 32 line).2.1).2 = true then rParse24_l12 n t (text line) true 7 ((j + 2 : Nat) : Int) (aRow (acc ++ [(actOf j (cutAt 32 line).2.1).1])) word24 k0 k1 else k1 false
      else rParse24_l12 n t (text line) found 7 ((j + 2 : Nat) : Int) (aRow acc) word24 k0 k1 := by
  have hlim : lim = 4294967280 := rfl
  have hw : word24[(((j + 1 : Nat) : Int)).toNat]? = some [PV.str (text (kindWords.getD j []))] := by
    have := word24_at (n := ((j + 1 : Nat) : Int)) (by omega) (by omega)
    rw [this]
    rw [show ((((j + 1 : Nat) : Int) - 1).toNat) = j by omega]
  have h5 : (kindWords.getD j []).length ≤ 5 := (kind_at hj).2
  have hnb : (32 : UInt8) ∉ kindWords.getD j [] := fun e => by
    have := kind_no_blank ⟨j, hj⟩
    rw [List.contains_iff_mem.2 e] at this
    cases this
  generalize kindWords.getD j [] = W at hw h5 hnb
  have hstep : IntKind.i64.wrap (((j + 1 : Nat) : Int) + 1) = ((j + 2 : Nat) : Int) := by rw [wrapN (by omega) (by omega)]; omega
  have hlen : (word24.length : Int) = 7 := rfl
  by_cases hm : ∃ r, line = W ++ 32 :: r
  · obtain ⟨r, rfl⟩ := hm
    have hcut := cutAt_hit r hnb
    rw [hcut, if_pos ⟨rfl, rfl⟩]
    conv => lhs; unfold rParse24_l12
    rw [decide_eq_true (by omega), cond_true, if_pos ⟨by omega, by rw [hlen]; omega⟩, hw, Option.bind_some, List.getElem?_cons_zero, Option.bind_some]
    simp only [PV.asS, Option.bind_some, hstep]
    rw [beq_eq_false_iff_ne.2 (show ((j + 1 : Nat) : Int) ≠ 0 by omega), cond_false, text_size, text_size]
    have hlr : (W ++ 32 :: r).length = W.length + (r.length + 1) := by simp
    have hp := part_at W 32 r
    rw [decide_eq_false (by omega), cond_false, if_pos ⟨Int.le_refl 0, by omega, by omega⟩, Int.toNat_natCast, hp.1, beq_self_eq_true, Bool.not_true, cond_false, text_data, idx_bytes, Option.bind_some]
    rw [show ((((32 : UInt8).toNat : Int) != 32) : Bool) = false from rfl, cond_false]
    have e2 : IntKind.i64.wrap ((W.length : Int) + 1) = ((W.length + 1 : Nat) : Int) := by rw [wrapN (by omega) (by omega)]; rfl
    rw [e2, if_pos ⟨by omega, by omega, Int.le_refl _⟩, Int.toNat_natCast, Int.toNat_natCast, hp.2, mk_nil]
    have q := fun (b : Bool) (hb : b = textK ((j : Int) + 1)) => rParse_q18 (R := R) (r := r) (by omega) ha (n := n) (by omega) t (text (W ++ 32 :: r)) (j := j) hb 7 ((j + 1 : Nat) : Int) word24 (fun t line found i i' es es' => rParse24_l12 n t line found i (IntKind.i64.wrap (i' + 1)) es es' k0 k1) k1
    simp only [hstep] at q
    cases h3 : (((j + 1 : Nat) : Int) == 3) with
    | true => rw [cond_true]; exact q true (by rw [textK, show ((j : Int) + 1) = ((j + 1 : Nat) : Int) from rfl, h3]; rfl)
    | false => rw [cond_false]; exact q _ (by rw [textK, show ((j : Int) + 1) = ((j + 1 : Nat) : Int) from rfl, h3]; rfl)
  · rw [if_neg fun e => hm ⟨(cutAt 32 line).2.1, by have := cutAt_split e.1; rw [e.2] at this; exact this⟩]
    conv => lhs; unfold rParse24_l12
    rw [decide_eq_true (by omega), cond_true, if_pos ⟨by omega, by rw [hlen]; omega⟩, hw, Option.bind_some, List.getElem?_cons_zero, Option.bind_some]
    simp only [PV.asS, Option.bind_some, hstep]
    rw [beq_eq_false_iff_ne.2 (show ((j + 1 : Nat) : Int) ≠ 0 by omega), cond_false, text_size, text_size]
    by_cases h1 : (line.length : Int) ≤ (W.length : Int)
    · rw [decide_eq_true h1, cond_true]
    · rw [decide_eq_false h1, cond_false, if_pos ⟨Int.le_refl 0, by omega, by omega⟩, Int.toNat_natCast, text_extract, List.drop_zero, text_toList, text_toList, beq_list]
      by_cases h2 : line.take W.length = W
      · rw [decide_eq_true h2, Bool.not_true, cond_false, text_data]
        cases hd : line.drop W.length with
        | nil =>
          have := congrArg List.length hd
          rw [List.length_drop, List.length_nil] at this
          omega
        | cons c r =>
          have hl2 : line = W ++ c :: r := by rw [← hd, ← h2, List.length_take, Nat.min_eq_left (by omega), List.take_append_drop]
          have hc : c ≠ 32 := fun e => hm ⟨r, e ▸ hl2⟩
          have hidx : idx line (W.length : Int) = some c := by rw [hl2]; exact idx_bytes W c r
          rw [hidx, Option.bind_some, blank_eq, bne_iff_ne.2 hc, cond_true]
      · rw [decide_eq_false h2, Bool.not_false, cond_true]
theorem rParse_rest {R : Type} {line : List UInt8} (hl : line.length ≤ lim) (t : ByteArray) (found : Bool) {acc : List Act} (ha : acc.length ≤ lim) (k0 : ByteArray → Bool → List (List PV) → Option R) (k1 : Bool → Option R) : ∀ (f j n : Nat), j + f = 6 → line.length + f < n → (∀ i, j ≤ i → i < 6 → ¬ ((cutAt 32 line).2.2 = true ∧ (cutAt 32 line).1 = kindWords.getD i [])) →
    rParse24_l12 n t (text line) found 7 ((j + 1 : Nat) : Int) (aRow acc) word24 k0 k1 = k0 t found (aRow acc)
  | 0, j, n, hj, hn, _ => by
    obtain ⟨m, rfl⟩ : ∃ m, n = m + 1 := ⟨n - 1, by omega⟩
    unfold rParse24_l12
    rw [decide_eq_false (by omega), cond_false]
  | f + 1, j, n, hj, hn, hno => by
    obtain ⟨m, rfl⟩ : ∃ m, n = m + 1 := ⟨n - 1, by omega⟩
    rw [rParse_step hl t found ha (by omega) (by omega), if_neg (hno j (Nat.le_refl _) (by omega))]
    exact rParse_rest hl t found ha k0 k1 f (j + 1) m (by omega) (by omega) (fun i h1 h2 => hno i (by omega) h2)
theorem rParse_find {R : Type} {line : List UInt8} (hl : line.length ≤ lim) (t : ByteArray) {acc : List Act} (ha : acc.length < lim) (k0 : ByteArray → Bool → List (List PV) → Option R) (k1 : Bool → Option R) : ∀ (f j n : Nat), j + f = 6 → line.length + f < n →
    rParse24_l12 n t (text line) false 7 ((j + 1 : Nat) : Int) (aRow acc) word24 k0 k1 = match (if (cutAt 32 line).2.2 = true then kindFrom j (kindWords.drop j) (cutAt 32 line).1 else none) with
      | none => k0 t false (aRow acc)
      | some k => if (actOf k (cutAt 32 line).2.1).2 = true then k0 t true (aRow (acc ++ [(actOf k (cutAt 32 line).2.1).1])) else k1 false
  | 0, j, n, hj, hn => by
    obtain rfl : j = 6 := by omega
    rw [rParse_rest hl t false (by omega) k0 k1 0 6 n rfl hn (fun i h1 h2 => by omega)]
    cases (cutAt 32 line).2.2 <;> rfl
  | f + 1, j, n, hj, hn => by
    obtain ⟨m, rfl⟩ : ∃ m, n = m + 1 := ⟨n - 1, by omega⟩
    have hdrop : kindWords.drop j = kindWords.getD j [] :: kindWords.drop (j + 1) := by
      have h6 : j < kindWords.length := by show j < 6; omega
      rw [List.drop_eq_getElem_cons h6, List.getD_eq_getElem?_getD, List.getElem?_eq_getElem h6]
      rfl
    rw [rParse_step hl t false (by omega) (by omega) (by omega)]
    cases hc : (cutAt 32 line).2.2 with
    | false =>
      have ih := rParse_find hl t ha k0 k1 f (j + 1) m (by omega) (by omega)
      rw [hc] at ih
      rw [if_neg (by simp)]
      exact ih
    | true =>
      have ih := rParse_find hl t ha k0 k1 f (j + 1) m (by omega) (by omega)
      rw [hc, if_pos rfl] at ih
      rw [if_pos rfl, hdrop, kindFrom]
      by_cases he : (cutAt 32 line).1 = kindWords.getD j []
      · rw [if_pos ⟨rfl, he⟩, if_pos he.symm]
        show (if _ then _ else _) = (if _ then _ else _)
        by_cases hk : (actOf j (cutAt 32 line).2.1).2 = true
        · rw [if_pos hk, if_pos hk]
          refine rParse_rest hl t true (by rw [List.length_append, List.length_singleton]; omega) k0 k1 f (j + 1) m (by omega) (by omega) (fun i h1 h2 e => ?_)
          have := kind_unlike ⟨j, by omega⟩ ⟨i, h2⟩ (he.symm.trans e.2)
          have := congrArg Fin.val this
          simp only at this
          omega
        · rw [if_neg hk, if_neg hk]
      · rw [if_neg (fun e => he e.2), if_neg (fun e => he e.symm)]
        exact ih
theorem rParse_line {R : Type} {line : List UInt8} (hl : line.length ≤ lim) (t : ByteArray) {acc : List Act} (ha : acc.length < lim) {n : Nat} (hn : line.length + 8 < n) (k0 : ByteArray → Bool → List (List PV) → Option R) (k1 : Bool → Option R) (hk : ∀ t es, k0 t false es = k1 false) :
    rParse24_l12 n t (text line) false 7 0 (aRow acc) word24 k0 k1 = if (actV line).2 = true then k0 t true (aRow (acc ++ [(actV line).1])) else k1 false := by
  obtain ⟨m, rfl⟩ : ∃ m, n = m + 1 := ⟨n - 1, by omega⟩
  have hlen : (word24.length : Int) = 7 := rfl
  have hw : word24[(0 : Int).toNat]? = some [PV.str (text [])] := rfl
  have hz : IntKind.i64.wrap ((0 : Int) + 1) = ((0 + 1 : Nat) : Int) := by rw [wrapN (by omega) (by omega)]; rfl
  have h := rParse_find hl t ha k0 k1 6 0 m rfl (by omega)
  conv => lhs; unfold rParse24_l12
  rw [decide_eq_true (by omega), cond_true, if_pos ⟨by omega, by rw [hlen]; omega⟩, hw, Option.bind_some, List.getElem?_cons_zero, Option.bind_some]
  simp only [PV.asS, Option.bind_some]
  rw [show ((0 : Int) == 0) = true from rfl, cond_true, hz, h, List.drop_zero]
  unfold actV
  cases (if (cutAt 32 line).2.2 = true then kindFrom 0 kindWords (cutAt 32 line).1 else none) with
  | none => exact (hk _ _).trans (if_neg (by simp)).symm
  | some k => rfl
theorem rParse_rounds {R : Type} (k0 : List (List PV) → Option R) (k1 : Bool → Option R) : ∀ (n : Nat) (l : List UInt8) (acc : List Act) (N : Nat), l.length < n → n + 20 ≤ N → acc.length + l.length < lim → 
    rParse24_l2 N (text l) (aRow acc) k0 k1 = match parseF n l acc with | some a => k0 (aRow a) | none => k1 false
  | 0, l, acc, N, hn, _, _ => by omega
  | n + 1, l, acc, N, hn, hN, hb => by
    obtain ⟨M, rfl⟩ : ∃ M, N = M + 1 := ⟨N - 1, by omega⟩
    have hlim : lim = 4294967280 := rfl
    conv => lhs; unfold rParse24_l2
    unfold parseF
    by_cases h0 : l = []
    · subst h0
      rw [text_size, decide_eq_false (by simp), cond_false, if_pos rfl]
    · have hpos := List.length_pos_iff.2 h0
      rw [text_size, decide_eq_true (by omega), cond_true, if_neg h0]
      have hs := fun k0 => rParse_end (R := R) (w := l) (by omega) (aRow acc) k0 l [] M rfl (by omega)
      refine (hs _).trans ?_
      rw [List.nil_append]
      have hcl := cutAt_length 10 l
      cases hc : (cutAt 10 l).2.2 with
      | false =>
        have hcn := cutAt_none hc
        rw [hcn, text_size, beq_self_eq_true, cond_true, if_neg (by simp)]
      | true =>
        have hsp := cutAt_split hc
        have hlt : (cutAt 10 l).1.length + (cutAt 10 l).2.1.length + 1 = l.length := by
          have := congrArg List.length hsp
          rw [List.length_append, List.length_cons] at this
          omega
        have hp := part_at (cutAt 10 l).1 10 (cutAt 10 l).2.1
        rw [← hsp] at hp
        have e1 : (((cutAt 10 l).1.length : Int) == ((text l).size : Int)) = false := by rw [text_size]; exact beq_eq_false_iff_ne.2 (by omega)
        have e2 : IntKind.i64.wrap (((cutAt 10 l).1.length : Int) + 1) = (((cutAt 10 l).1.length + 1 : Nat) : Int) := by rw [wrapN (by omega) (by omega)]; rfl
        rw [e1, cond_false, if_pos ⟨Int.le_refl 0, by omega, by rw [text_size]; omega⟩, e2, if_pos ⟨by omega, by rw [text_size]; omega, Int.le_refl _⟩, rWords24_at, Option.bind_some, Int.toNat_natCast, Int.toNat_natCast, Int.toNat_natCast, text_size, hp.1, hp.2, show (word24.length : Int) = 7 from rfl]
        rw [rParse_line (by omega) _ (by omega) (by omega) _ _ (fun t es => by rw [Bool.not_false, cond_true])]
        cases hv : (actV (cutAt 10 l).1).2 with
        | false => rw [if_neg (by simp), if_neg (by simp)]
        | true =>
          rw [if_pos rfl, if_pos ⟨rfl, rfl⟩, Bool.not_true, cond_false]
          exact rParse_rounds k0 k1 n _ _ M (by omega) (by omega) (by rw [List.length_append, List.length_singleton]; omega)
theorem rParse24_ok : ∀ (t1 : ByteArray) (y : List (List PV) × Bool), sRParse24 t1 = some y → ∃ n, ∀ (R : Type) (k : List (List PV) → Bool → Option R), rParse24_b n t1 k = k y.1 y.2 := by
  intro t y h
  unfold sRParse24 at h
  split at h
  case isFalse => cases h
  rename_i hs
  cases h
  rw [← text_of t]
  rw [← size_data t] at hs
  generalize t.data.toList = l at hs
  by_cases hlast : l.length < lim
  · refine ⟨l.length + 21, fun R k => ?_⟩
    unfold rParse24_b
    have := fun k0 k1 => rParse_rounds (R := R) k0 k1 (l.length + 1) l [] (l.length + 21) (by omega) (by omega) (by simp; omega)
    refine (this _ _).trans ?_
    rw [text_data]
    unfold parseV
    cases parseF (l.length + 1) l [] <;> rfl
  · exact absurd hs hlast
theorem rParse24_no : ∀ (t1 : ByteArray) (y : List (List PV) × Bool), sRParse24 t1 = some y → (noMem (rParse24_E y).1 && noMemL (rParse24_E y).2) = true := by
  intro s y h
  unfold sRParse24 at h
  split at h
  case isFalse => cases h
  cases h
  split <;> simp [rParse24_E, noMem, noMemL, noMem_aRow, noMemEs]
end Go.Proofs.YtkeklbicmfhemaaDoorV
namespace Go.Proofs.YtkeklbicmfhemaaDoorV
open Go
set_option maxRecDepth 20000
set_option linter.unusedSimpArgs false
theorem parseF_length : ∀ (n : Nat) (l : List UInt8) (acc a : List Act), parseF n l acc = some a → a.length ≤ acc.length + l.length
  | 0, _, _, _, h => by cases h
  | n + 1, l, acc, a, h => by
    unfold parseF at h
    split at h
    · cases h
      omega
    · split at h
      · rename_i hc
        have h1 := cutAt_short hc.1
        have h2 := parseF_length n _ _ _ h
        rw [List.length_append, List.length_singleton] at h2
        omega
      · cases h
theorem tells_rounds {R : Type} {L : List (List UInt8)} (hl : L.length ≤ 100) (hs : ∀ l ∈ L, l.length < lim) (k0 : Bool → Option R) (k1 : Unit → Option R) : ∀ (rest pre : List (List UInt8)) (n : Nat), L = pre ++ rest → rest.length < n →
    scriptTells_l19 n (L.length : Int) (pre.length : Int) (sRow (L.map text)) k0 k1 = k1 ()
  | [], pre, n, e, hn => by
    obtain ⟨m, rfl⟩ : ∃ m, n = m + 1 := ⟨n - 1, by omega⟩
    simp only [List.append_nil] at e
    subst e
    unfold scriptTells_l19
    rw [decide_eq_false (by omega), cond_false]
  | w :: rest, pre, n, e, hn => by
    obtain ⟨m, rfl⟩ : ∃ m, n = m + 1 := ⟨n - 1, by omega⟩
    have hlen : L.length = pre.length + (rest.length + 1) := by rw [e]; simp
    have hw : w.length < lim := hs w (by rw [e]; simp)
    have hlim : lim = 4294967280 := rfl
    have hget : (sRow (L.map text))[((pre.length : Int)).toNat]? = some [PV.str (text w)] := by
      rw [Int.toNat_natCast, sRow, List.map_map, List.getElem?_map, e, get_at]
      rfl
    have h1 : sScParse (text w) = some (parseR w) := sScParse_text (by omega)
    have h2 : sRParse24 (text w) = some (match parseV w with | some a => (aRow a, true) | none => ([], false)) := by
      unfold sRParse24
      rw [text_size, if_pos hw, text_data]
      rfl
    have hstep : IntKind.i64.wrap ((pre.length : Int) + 1) = ((pre ++ [w]).length : Int) := by rw [wrapN (by omega) (by omega)]; simp
    have ih := tells_rounds hl hs k0 k1 rest (pre ++ [w]) m (by rw [e]; simp) (by simp at hn; omega)
    unfold scriptTells_l19
    rw [decide_eq_true (by omega), cond_true, if_pos ⟨by omega, by rw [sRow_length, List.length_map]; omega⟩, hget, Option.bind_some, List.getElem?_cons_zero, Option.bind_some]
    simp only [PV.asS, Option.bind_some, h1, h2]
    rw [hstep, ih]
    unfold parseR
    cases hp : parseV w with
    | none =>
      have hss : sSameA [] [] = some true := (sSameA_of (a := []) (b := []) (by decide)).trans (congrArg some (decide_eq_true rfl))
      simp only [hss, Option.bind_some]
      rfl
    | some a =>
      have hal := parseF_length _ _ _ _ hp
      rw [List.length_nil] at hal
      have hss : sSameA (aRow a) (aRow a) = some true := (sSameA_of (by unfold big; omega)).trans (congrArg some (decide_eq_true rfl))
      simp only [hss, Option.bind_some]
      rfl
theorem tells_q19 {R : Type} {u : List UInt8} {s : ByteArray} (hu : u.length ≤ 50000000) (hs : s.size ≤ mega) (at' : Int) {n : Nat} (hn : 7 < n) (k0 : Bool → Option R) : scriptTells_q19 n s at' (text u) k0 = k0 true := by
  have hm : mega = 1048576 := rfl
  have hlim : lim = 4294967280 := rfl
  have hsd := size_data s
  obtain ⟨y, hy, ey⟩ := within_ok at' (m := u.length + 1) (by omega) (by omega)
  unfold scriptTells_q19
  rw [text_size, if_pos (by omega), wrapN (by omega) (by omega), show ((u.length : Int) + 1) = ((u.length + 1 : Nat) : Int) from rfl, ey, Option.bind_some, if_pos ⟨Int.le_refl 0, by omega, by omega⟩]
  rw [if_pos (by rw [show (ByteArray.mk #[112, 105, 99, 107, 32, 48, 49, 10]).size = 8 from rfl]; omega), if_pos (by rw [show (ByteArray.mk #[115, 97, 121, 32, 49, 10]).size = 6 from rfl]; omega), if_pos (by rw [show (ByteArray.mk #[115, 97, 121, 32, 49, 32, 10]).size = 7 from rfl]; omega), if_pos (by rw [show (ByteArray.mk #[114, 117, 110, 32, 49, 48, 48, 48, 48, 10]).size = 10 from rfl]; omega)]
  have e1 : text u ++ s = text (u ++ s.data.toList) := by
    conv => lhs; rw [← text_of s]
    exact text_append u _
  rw [e1, Int.toNat_natCast, text_extract, List.drop_zero]
  let L : List (List UInt8) := [u, u ++ s.data.toList, u.take y, u ++ [112, 105, 99, 107, 32, 48, 49, 10], u ++ [115, 97, 121, 32, 49, 10], u ++ [115, 97, 121, 32, 49, 32, 10], u ++ [114, 117, 110, 32, 49, 48, 48, 48, 48, 10]]
  have hL : ∀ l ∈ L, l.length < lim := by
    intro l hl
    have ht := List.length_take_le y u
    simp only [L, List.mem_cons, List.not_mem_nil, or_false] at hl
    rcases hl with rfl | rfl | rfl | rfl | rfl | rfl | rfl <;> simp <;> omega
  have q1 : text u ++ ByteArray.mk #[112, 105, 99, 107, 32, 48, 49, 10] = text (u ++ [112, 105, 99, 107, 32, 48, 49, 10]) := text_append u _
  have q2 : text u ++ ByteArray.mk #[115, 97, 121, 32, 49, 10] = text (u ++ [115, 97, 121, 32, 49, 10]) := text_append u _
  have q3 : text u ++ ByteArray.mk #[115, 97, 121, 32, 49, 32, 10] = text (u ++ [115, 97, 121, 32, 49, 32, 10]) := text_append u _
  have q4 : text u ++ ByteArray.mk #[114, 117, 110, 32, 49, 48, 48, 48, 48, 10] = text (u ++ [114, 117, 110, 32, 49, 48, 48, 48, 48, 10]) := text_append u _
  rw [q1, q2, q3, q4]
  have t := fun k1 => tells_rounds (R := R) (L := L) (by simp [L]) hL k0 k1 L [] n rfl (by simp [L]; omega)
  refine (t _).trans ?_
  rw [wakes24_ok]
  rfl
theorem tells_q13 {R : Type} {l : List Act} (hl : l.length ≤ 20) (hk : l.all okA = true) {s : ByteArray} (hs : s.size ≤ mega) (at' : Int) (raw : Bool) {n : Nat} (hn : 7 < n) (k0 : Bool → Option R) : scriptTells_q13 n s at' raw (aRow l) k0 = k0 true := by
  have hm : mega = 1048576 := rfl
  have hsd := size_data s
  have h1 : sScPrint (aRow l) = some (printR l) := sScPrint_of (by omega) hk
  have h2 : sRPrint24 (aRow l) = some (match printF l [] with | some o => (text o, true) | none => (text [], false)) := by
    unfold sRPrint24
    rw [unA_row, Option.bind_some, if_pos ⟨by omega, hk⟩]
    rfl
  have q17 : ∀ u : List UInt8, u.length ≤ 50000000 → scriptTells_q17 n s at' raw (text u) k0 = k0 true := by
    intro u hu
    unfold scriptTells_q17
    cases raw with
    | true =>
      rw [cond_true]
      have := tells_q19 (u := s.data.toList) (by omega) hs at' hn k0
      rw [text_of] at this
      exact this
    | false => rw [cond_false]; exact tells_q19 hu hs at' hn k0
  unfold scriptTells_q13
  rw [h1, h2, Option.bind_some, Option.bind_some]
  unfold printR
  rw [printF_lines, List.nil_append]
  by_cases hg : l.all goodA = true
  · have hlen := Nat.le_trans (lines_small hk) (Nat.mul_le_mul_right _ hl)
    rw [if_pos hg]
    simp only [beq_self_eq_true, Bool.not_true, bne_self_eq_false, cond_false]
    exact q17 _ (by omega)
  · rw [if_neg hg]
    simp only [beq_self_eq_true, Bool.not_true, Bool.not_false, bne_self_eq_false, cond_false, cond_true]
    exact q17 [] (by simp)
theorem aRow_set (l : List Act) (y : Nat) (a : Act) : List.set (aRow l) y [.int .i64 a.1, .int .i64 a.2.1, .str a.2.2] = aRow (l.set y a) := by
  unfold aRow
  rw [List.map_set]
theorem tells_q6 {l : List Act} (hl : l.length ≤ 20) (hk : l.all okA = true) {s : ByteArray} (hs : s.size ≤ mega) {x : Int} (hx : inI x = true) (how at' : Int) (raw b : Bool) (hb : b = true → 0 < l.length) : ∃ l' : List Act, l'.length ≤ 20 ∧ l'.all okA = true ∧ ∀ (n : Nat) (R : Type) (k0 : ByteArray → Int → Bool → List (List PV) → Option R), scriptTells_q6 n s how x at' raw (l.length : Int) b (aRow l) k0 = k0 s at' raw (aRow l') := by
  have hm : mega = 1048576 := rfl
  cases b with
  | false => exact ⟨l, hl, hk, fun n R k0 => by unfold scriptTells_q6; rw [cond_false]⟩
  | true =>
    obtain ⟨y, hy, ey⟩ := within_ok x (m := l.length) (hb rfl) (by omega)
    obtain ⟨z, hz, ez⟩ := within_ok (IntKind.i64.wrap (Int.tdiv how 3)) (m := 3) (by decide) (by decide)
    have ez' : within_d (IntKind.i64.wrap (Int.tdiv how 3)) 3 = some (z : Int) := ez
    have hget : (aRow l)[((y : Int)).toNat]? = some [.int .i64 l[y].1, .int .i64 l[y].2.1, .str l[y].2.2] := by
      rw [Int.toNat_natCast, aRow, List.getElem?_map, List.getElem?_eq_getElem hy]
      rfl
    have hok : okA l[y] = true := List.all_eq_true.1 hk _ (List.getElem_mem hy)
    simp only [okA, Bool.and_eq_true, decide_eq_true_eq] at hok
    have hset : ∀ a : Act, okA a = true → (l.set y a).length ≤ 20 ∧ (l.set y a).all okA = true := by
      intro a ha
      refine ⟨by rw [List.length_set]; exact hl, List.all_eq_true.2 fun q hq => ?_⟩
      rcases List.mem_or_eq_of_mem_set hq with h | h
      · exact List.all_eq_true.1 hk q h
      · rw [h]; exact ha
    have hin : 0 ≤ (y : Int) ∧ (y : Int) < ((aRow l).length : Int) := ⟨by omega, by rw [aRow_length]; omega⟩
    have hcase : z = 0 ∨ z = 1 ∨ z = 2 := by omega
    rcases hcase with rfl | rfl | rfl
    · obtain ⟨g1, g2⟩ := hset (x, l[y].2) (by simp only [okA, Bool.and_eq_true, decide_eq_true_eq]; exact ⟨hx, hok.2⟩)
      refine ⟨_, g1, g2, fun n R k0 => ?_⟩
      unfold scriptTells_q6
      rw [cond_true, ey, Option.bind_some, if_pos hin, ez', Option.bind_some, hget, ← aRow_set, Int.toNat_natCast]
      rfl
    · obtain ⟨g1, g2⟩ := hset (l[y].1, x, l[y].2.2) (by simp only [okA, Bool.and_eq_true, decide_eq_true_eq]; exact ⟨hok.1, hx, hok.2.2⟩)
      refine ⟨_, g1, g2, fun n R k0 => ?_⟩
      unfold scriptTells_q6
      rw [cond_true, ey, Option.bind_some, if_pos hin, ez', Option.bind_some, hget, ← aRow_set, Int.toNat_natCast]
      rfl
    · obtain ⟨g1, g2⟩ := hset (l[y].1, l[y].2.1, s) (by simp only [okA, Bool.and_eq_true, decide_eq_true_eq]; exact ⟨hok.1, hok.2.1, by omega⟩)
      refine ⟨_, g1, g2, fun n R k0 => ?_⟩
      unfold scriptTells_q6
      rw [cond_true, ey, Option.bind_some, if_pos hin, ez', Option.bind_some, hget, ← aRow_set, Int.toNat_natCast]
      rfl
theorem scriptTells_ok : ∀ (l1 : List (List PV)) (m2 : List (List PV)) (s3 : ByteArray) (how4 : Int) (x5 : Int) (at6 : Int) (raw7 : Bool) (y : Bool), sScriptTells l1 m2 s3 how4 x5 at6 raw7 = some y → ∃ n, ∀ (R : Type) (k : Bool → Option R), scriptTells_b n l1 m2 s3 how4 x5 at6 raw7 k = k y := by
  intro e1 e2 s how x at' raw y h
  simp only [sScriptTells, Option.bind_eq_some_iff] at h
  obtain ⟨l, h1, m, h2, h4⟩ := h
  split at h4
  case isFalse => cases h4
  rename_i hh
  cases h4
  obtain ⟨m1, m2, m3, hhow, hx, hat⟩ := hh
  have m1' : l.length ≤ 1048576 := m1
  have m2' : m.length ≤ 1048576 := m2
  rw [(unI_inv h1).1, (unI_inv h2).1]
  obtain ⟨g, hc⟩ := instOf_given l
  obtain ⟨z, z1, z2, z3⟩ := acts_some (L := m) (by unfold big; omega) s g hc
  have hzo : z.all okA = true := List.all_eq_true.2 fun q hq => actP_ok m3 (z3 q hq)
  refine ⟨10, fun R k => ?_⟩
  unfold scriptTells_b
  rw [sPInst_of (unI_inv h1).2 (by unfold big; omega), Option.bind_some]
  simp only [z1, Option.bind_some, aRow_length]
  by_cases h0 : (z.length : Int) > 0
  · obtain ⟨l', g1, g2, g3⟩ := tells_q6 z2 hzo m3 hx how at' raw (Int.tmod how 3 == 0) (fun _ => by omega)
    rw [decide_eq_true h0, cond_true, g3]
    exact tells_q13 g1 g2 m3 at' raw (by decide) k
  · obtain ⟨l', g1, g2, g3⟩ := tells_q6 z2 hzo m3 hx how at' raw false (fun e => by cases e)
    rw [decide_eq_false h0, cond_false, g3]
    exact tells_q13 g1 g2 m3 at' raw (by decide) k
end Go.Proofs.YtkeklbicmfhemaaDoorV
namespace Go.Proofs.YtkeklbicmfhemaaDoorV
open Go
set_option maxRecDepth 100000
theorem rWords24_all : Holds Tryd.prog G0 46 rWords24_C := rWords24_holds trivial
theorem rPrint24_all : Holds Tryd.prog G0 24 rPrint24_C := rPrint24_holds (by simp only [rPrint24_Γ, HoldsAll, CalOk]; exact ⟨rWords24_all, rDigits_all, trivial⟩) rPrint24_ok
theorem rParse24_all : Holds Tryd.prog G0 25 rParse24_C := rParse24_holds (by simp only [rParse24_Γ, HoldsAll, CalOk]; exact ⟨rWords24_all, rInt_all, trivial⟩) rParse24_ok rParse24_no
theorem scriptTells_all : Holds Tryd.prog G0 6 scriptTells_C := scriptTells_holds (by simp only [scriptTells_Γ, HoldsAll, CalOk]; exact ⟨pInst_all, acts24_all, scParse_all, rParse24_all, sameA_all, scPrint_all, rPrint24_all, within_all, wakes24_all, trivial⟩) scriptTells_ok
end Go.Proofs.YtkeklbicmfhemaaDoorV
namespace Go.Proofs.YtkeklbicmfhemaaDoorV
open Go Go.ChangeShapes Go.Proofs.YtkeklbicmfhemaaDoor
theorem unI_arg {zs : List Int} (h : ∀ n ∈ zs, (Lit.int .i64 n).wf = true) : unI (zs.map fun n => [.int .i64 n]) = some zs := unI_row fun n hn => wf_i64 (h n hn)
theorem inI_arg {n : Int} (h : (Lit.int .i64 n).wf = true) : inI n = true := by
  have := wf_i64 h
  simp [inI, this]
theorem bulk_pos {H : Type} (d : DataW H) : 1 ≤ Rows.uptoBulk d := by
  cases d <;> first
    | (simp [Rows.uptoBulk]; done)
    | (rename_i l; cases l <;> simp [Rows.uptoBulk])
theorem bulk_len {H : Type} : ∀ l : List (DataW H), l.length ≤ Rows.uptoBulkAll l
  | [] => by simp [Rows.uptoBulkAll]
  | d :: l => by have h1 := bulk_pos d; have h2 := bulk_len l; simp only [Rows.uptoBulkAll, List.length_cons]; omega
theorem bulk_part {H : Type} {d : DataW H} : ∀ {l : List (DataW H)}, d ∈ l → Rows.uptoBulk d ≤ Rows.uptoBulkAll l
  | x :: l, h => by
    simp only [Rows.uptoBulkAll]
    rcases List.mem_cons.1 h with rfl | h
    · omega
    · have := bulk_part h; omega
theorem bulk_ints {H : Type} {l : List (DataW H)} {k : IntKind} {zs : List Int} {d : DataW H} (hk : Rows.uptoSmall H l = true) (hd : d ∈ l) (h : zs = [] ∨ ∃ sp, d = .slice (lits k zs) sp) : zs.length ≤ 1048576 := by
  rcases h with rfl | ⟨sp, rfl⟩
  · simp
  · simp only [Rows.uptoSmall, decide_eq_true_eq] at hk
    have h1 := bulk_part hd
    have h2 := bulk_len (lits (H := H) k zs)
    simp only [Rows.uptoBulk] at h1
    simp only [lits, List.length_map] at h2 h1
    omega
theorem bulk_str {H : Type} {l : List (DataW H)} {s : ByteArray} (hk : Rows.uptoSmall H l = true) (hd : DataW.lit (Lit.string s.data.toList) ∈ l) : s.size ≤ 1048576 := by
  simp only [Rows.uptoSmall, decide_eq_true_eq] at hk
  have h1 := bulk_part hd
  have h4 : Rows.uptoBulk (DataW.lit (H := H) (Lit.string s.data.toList)) = s.data.toList.length + 1 := by simp [Rows.uptoBulk]
  have h5 : s.data.toList.length = s.size := by rw [Array.length_toList]; rfl
  omega
end Go.Proofs.YtkeklbicmfhemaaDoorV
namespace Go.Proofs.YtkeklbicmfhemaaDoor.scriptTells
open Go Go.ChangeShapes Go.WideShapes Go.ChangeAt Go.RowKit Go.Proofs.YtkeklbicmfhemaaDoorV
theorem arg {a0 : List Int} (w0 : ∀ n ∈ a0, (Lit.int .i64 n).wf = true) (l0 : a0.length ≤ maxLen) (m0 : a0.length ≤ 1048576) {a1 : List Int} (w1 : ∀ n ∈ a1, (Lit.int .i64 n).wf = true) (l1 : a1.length ≤ maxLen) (m1 : a1.length ≤ 1048576) {a2 : ByteArray} (w2 : a2.size ≤ maxLen) (m2 : a2.size ≤ 1048576) {a3 : Int} (w3 : (Lit.int .i64 a3).wf = true) {a4 : Int} (w4 : (Lit.int .i64 a4).wf = true) {a5 : Int} (w5 : (Lit.int .i64 a5).wf = true) (a6 : Bool) : scriptTells_C.F [PV.fs (a0.map fun n => [PV.int .i64 n]), PV.fs (a1.map fun n => [PV.int .i64 n]), PV.str a2, PV.int .i64 a3, PV.int .i64 a4, PV.int .i64 a5, PV.bool a6] = some (.bool true, []) := by
  have e : sScriptTells (a0.map fun n => [PV.int .i64 n]) (a1.map fun n => [PV.int .i64 n]) a2 a3 a4 a5 a6 = some true := by
    unfold sScriptTells
    rw [show unI (a0.map fun n => [PV.int .i64 n]) = some a0 from unI_arg w0, Option.bind_some]
    rw [show unI (a1.map fun n => [PV.int .i64 n]) = some a1 from unI_arg w1, Option.bind_some]
    have f3 := inI_arg w3
    have f4 := inI_arg w4
    have f5 := inI_arg w5
    exact if_pos (by repeat' apply And.intro
                     all_goals assumption)
  show Option.bind (sScriptTells (a0.map fun n => [PV.int .i64 n]) (a1.map fun n => [PV.int .i64 n]) a2 a3 a4 a5 a6) _ = _
  rw [e]
  rfl
attribute [local irreducible] Value.okWide Holds Applies Calls GOk in
theorem contract (H : Type) (enc : TypeId × Value → H) (W : World) (base : Nat) (args : Array Value) (ds gs : List (DataW H)) (before : List MemPlace)
    (hval : ∀ (j : Nat) t v, Tryd.f6.params[j]? = some t → args[j]? = some v → Value.okWide Tryd.prog W .any base t v)
    (hW : DataW.Whole enc Tryd.prog Tryd.f6.params.toList Rows.scriptTellsSpec.vars false W args.toList ds gs before) (hk : Rows.uptoSmall H (ds ++ gs) = true) (hL : laidMetH Tryd.prog Rows.scriptTellsUptoRow.laid W) (hsh : W.ShapedOpen Tryd.prog) :
    Calls Tryd.prog 6 args W fun e W' => ∃ v, e = .returned v ∧ Rows.scriptTellsSpec.post enc Tryd.prog Tryd.f6 false true false false W args v W' := by
  have hW' := hW
  obtain ⟨p, q, hA0, hV, rfl, hfz, hnd⟩ := hW
  have hA : DataW.TrodAll enc Tryd.prog W 0 (fun _ => true) true Tryd.f6.params.toList args.toList ds p := hA0
  rw [Tryd.params6] at hA hval
  obtain ⟨v0, vs0, d0, ds0, p0, q0, ha0, rfl, rfl, h0, r0⟩ := trodAll_cons hA
  obtain ⟨v1, vs1, d1, ds1, p1, q1, ha1, rfl, rfl, h1, r1⟩ := trodAll_cons r0
  obtain ⟨v2, vs2, d2, ds2, p2, q2, ha2, rfl, rfl, h2, r2⟩ := trodAll_cons r1
  obtain ⟨v3, vs3, d3, ds3, p3, q3, ha3, rfl, rfl, h3, r3⟩ := trodAll_cons r2
  obtain ⟨v4, vs4, d4, ds4, p4, q4, ha4, rfl, rfl, h4, r4⟩ := trodAll_cons r3
  obtain ⟨v5, vs5, d5, ds5, p5, q5, ha5, rfl, rfl, h5, r5⟩ := trodAll_cons r4
  obtain ⟨v6, vs6, d6, ds6, p6, q6, ha6, rfl, rfl, h6, r6⟩ := trodAll_cons r5
  obtain ⟨rfl, rfl, rfl⟩ := trodAll_nil r6
  obtain rfl : args = #[v0, v1, v2, v3, v4, v5, v6] := by cases args; simp_all
  obtain ⟨rfl, rfl⟩ := trodVars_none hV
  obtain ⟨a0, e0, w0, l0, b0⟩ := arg_ints (k := .i64) Tryd.underlying40 Tryd.underlying3 (by kernel_rfl) (hval 0 _ _ rfl rfl) h0
  have m0 := bulk_ints hk (by simp) b0
  obtain ⟨a1, e1, w1, l1, b1⟩ := arg_ints (k := .i64) Tryd.underlying40 Tryd.underlying3 (by kernel_rfl) (hval 1 _ _ rfl rfl) h1
  have m1 := bulk_ints hk (by simp) b1
  obtain ⟨a2, rfl, rfl, rfl, w2⟩ := ChangeMaps.open_string Tryd.underlying9 (hval 2 _ _ rfl rfl) h2
  have m2 := bulk_str (s := a2) hk (by simp)
  obtain ⟨a3, rfl, rfl, rfl, w3⟩ := open_int (k := .i64) Tryd.underlying3 (hval 3 _ _ rfl rfl) h3
  obtain ⟨a4, rfl, rfl, rfl, w4⟩ := open_int (k := .i64) Tryd.underlying3 (hval 4 _ _ rfl rfl) h4
  obtain ⟨a5, rfl, rfl, rfl, w5⟩ := open_int (k := .i64) Tryd.underlying3 (hval 5 _ _ rfl rfl) h5
  obtain ⟨a6, rfl, rfl, rfl⟩ := open_bool Tryd.underlying4 (hval 6 _ _ rfl rfl) h6
  exact law_calls (n := 7) (t := 4) (ps := [PV.fs (a0.map fun n => [PV.int .i64 n]), PV.fs (a1.map fun n => [PV.int .i64 n]), PV.str a2, PV.int .i64 a3, PV.int .i64 a4, PV.int .i64 a5, PV.bool a6]) scriptTells_all (by kernel_rfl) (by kernel_rfl) Tryd.func6 (by kernel_rfl) (by kernel_rfl) laidOut (by kernel_rfl) rfl (by kernel_rfl) Tryd.underlying4 rfl hW' (go_of hL hsh laid_ok) rfl
    (by simp only [relL]; exact ⟨_, _, rfl, e0, ⟨_, _, rfl, e1, ⟨_, _, rfl, (by simp only [rel]), ⟨_, _, rfl, (by simp only [rel]), ⟨_, _, rfl, (by simp only [rel]), ⟨_, _, rfl, (by simp only [rel]), ⟨_, _, rfl, (by simp only [rel]), rfl⟩⟩⟩⟩⟩⟩⟩) (arg w0 l0 m0 w1 l1 m1 w2 m2 w3 w4 w5 a6)
set_option maxRecDepth 100000 in
theorem lifted (os : Os) (started : os.Started) (H : Type) (enc : TypeId × Value → H) (F : Stop.Interp) :
    ReturnsInHanded {} Tryd.checked os 6 .any ((Rows.OpenSpec.upto Rows.scriptTellsSpec).preRow enc Tryd.prog Tryd.f6 Rows.scriptTellsUptoRow.domain false Rows.scriptTellsUptoRow.laid) (((Rows.OpenSpec.upto Rows.scriptTellsSpec).at F).post enc Tryd.prog Tryd.f6 false true false false) := by
  obtain ⟨places, hx⟩ : ∃ places, DataW.whole enc Tryd.prog ((laidWorld os).forCall (fun _ _ => 0) ⟨#[], #[.slice none 0 0, .slice none 0 0, .string ⟨#[]⟩, .int .i64 0, .int .i64 0, .int .i64 0, .bool false], []⟩).memory Tryd.f6.params.toList Rows.scriptTellsSpec.vars false (#[.slice none 0 0, .slice none 0 0, .string ⟨#[]⟩, .int .i64 0, .int .i64 0, .int .i64 0, .bool false] : Array Value).toList 8 = some ([.nil, .nil, .lit (.string []), .lit (.int .i64 0), .lit (.int .i64 0), .lit (.int .i64 0), .lit (.bool false)], [], places) := ⟨[], by kernel_rfl⟩
  refine returnsInHanded_of_row (C := Tryd.checked) (s := Rows.OpenSpec.upto Rows.scriptTellsSpec) own started (by kernel_rfl) Tryd.func6
    (witness_row_atRef (enc := enc) (C := Tryd.checked) false (laidWorld os) #[.slice none 0 0, .slice none 0 0, .string ⟨#[]⟩, .int .i64 0, .int .i64 0, .int .i64 0, .bool false] rfl (refs os _) (rests os _) (by kernel_rfl)
      (OpenSpec.preRow_of_cond 8 hx (by kernel_rfl) (fun k hk => by cases hk; kernel_rfl) (by kernel_rfl) (laid_met os _))) ?_
  intro W base args ds gs before hval hW _ hcond _ hL hsh _
  exact contract H enc W base args ds gs before hval hW (hcond _ rfl) hL hsh
theorem said : Rows.ScriptTellsUptoSaid :=
  OpenClaim.holds_of_cond 6 Tryd.f6 rfl rfl rfl rfl rfl rfl rfl ⟨rfl, rfl, rfl, rfl, rfl⟩ rfl rfl rfl rfl rfl (by kernel_rfl) Tryd.func6 (by kernel_rfl)
    (of_decide_eq_true (by kernel_rfl)) (by unfold Func.isWrapper; first | (rw [if_pos (by decide +kernel)]; kernel_rfl) | (rw [if_neg (by decide +kernel)]; exact ⟨rfl, rfl⟩))
    (fun os started H enc _ F => by rw [OpenClaim.pre_eq_preRow]; exact lifted os started H enc F)
theorem plain (f : FuncId) (fn : Func) (hf : Tryd.pinned.checked.prog.funcNamed "drayman/draymanlaw24.ScriptTells" = some f) (hfn : Tryd.pinned.checked.prog.funcs[f]? = some fn) :
    true = Tryd.pinned.checked.prog.looks [] ∧ ∀ (j : Nat) t, fn.params[j]? = some t → Tryd.pinned.checked.prog.wantsStandIn t = false := by
  obtain rfl : f = 6 := Option.some.inj ((show Tryd.prog.funcNamed "drayman/draymanlaw24.ScriptTells" = some 6 by kernel_rfl).symm.trans hf) |>.symm
  obtain rfl : fn = Tryd.f6 := (Option.some.inj (Tryd.func6.symm.trans hfn)).symm
  have h : (Tryd.f6.params.toList.all fun t => !Tryd.prog.wantsStandIn t) = true := by kernel_rfl
  refine ⟨by kernel_rfl, fun j t ht => ?_⟩
  have h1 := List.all_eq_true.1 h t (by have := Array.mem_of_getElem? ht; exact Array.mem_toList_iff.2 this)
  exact (Bool.not_eq_true' _).mp h1
theorem proved : Rows.ScriptTellsUptoCardSaid :=
  Claim7.holds_tied_plain_at .later [] _ _ _ _ said (fun _ h => by cases h) (by kernel_rfl) (fun _ h => by cases h) scriptTellsUpto_row_tie rfl ⟨rfl, rfl⟩ (by kernel_rfl) rfl plain (by kernel_rfl)
end Go.Proofs.YtkeklbicmfhemaaDoor.scriptTells
