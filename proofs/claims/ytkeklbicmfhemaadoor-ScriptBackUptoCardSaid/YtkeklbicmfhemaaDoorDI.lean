/- What the functions of the program come to, as the reading machine has it: printed by dec.py. -/
import Derived.Test.YtkeklbicmfhemaaDoorVTab
import Derived.Test.YtkeklbicmfhemaaDoorSI2
namespace Go.Proofs.YtkeklbicmfhemaaDoorV
open Go
set_option maxRecDepth 100000
set_option linter.unusedVariables false
set_option linter.unusedSimpArgs false
noncomputable section
/-! ## drayman/draymanref01.within -/
def rWithin_b {R : Type} (n1 : Int) (low2 : Int) (high3 : Int) (k : Bool → Option R) : Option R :=
  cond (decide (n1 ≥ low2)) (
    k (decide (n1 ≤ high3))) (
    k false)
def rWithin_E (y : Bool) : PV × List PV := ((PV.bool y), [])
def rWithin_d (n1 : Int) (low2 : Int) (high3 : Int) : Option (Bool) := rWithin_b n1 low2 high3 fun a0 => some a0
def rWithin_D : List PV → Option (Bool)
  | [(PV.int .i64 n1), (PV.int .i64 low2), (PV.int .i64 high3)] => rWithin_d n1 low2 high3
  | _ => none
def rWithin_Γ : List (Nat × Cal) := []
def rWithin_C : Ctr := ⟨[none, none, none], Bool, rWithin_D, rWithin_E, true, .d⟩
theorem rWithin_eq (n1 : Int) (low2 : Int) (high3 : Int) :
    funK T G0 (ctrOf rWithin_Γ) noL .d true [none, none, none] (funOf Tryd.f85) [(PV.int .i64 n1), (PV.int .i64 low2), (PV.int .i64 high3)] = rWithin_b  n1 low2 high3 (fun a0 => some (rWithin_E a0)) := by kernel_rfl
theorem rWithin_inv {ps : List PV} {y : Bool} (h : rWithin_D ps = some y) : ∃ (n1 : Int) (low2 : Int) (high3 : Int), ps = [(PV.int .i64 n1), (PV.int .i64 low2), (PV.int .i64 high3)] := by
  unfold rWithin_D at h
  split at h
  · exact ⟨_, _, _, rfl⟩
  · cases h
theorem rWithin_nat {R : Type} (n1 : Int) (low2 : Int) (high3 : Int) (k : Bool → Option R) : rWithin_b n1 low2 high3 k = Option.bind (rWithin_b n1 low2 high3 fun a0 => some a0) fun y => k y := by
  unfold rWithin_b
  first | rfl | simp only [Option.bind_assoc, bind_cond, bind_ite, Option.bind_some, Option.bind_none]
theorem rWithin_holds (hΓ : HoldsAll Tryd.prog G0 rWithin_Γ) : Holds Tryd.prog G0 85 rWithin_C := by
  refine fun_ok mixed tOk (ctrOf_ok hΓ) Tryd.func85 rfl rfl rfl rfl (F := funOf Tryd.f85) (fun ps x h => ?_)
  obtain ⟨y, hy, hx⟩ := bind_inv h
  cases hx
  obtain ⟨n1, low2, high3, rfl⟩ := rWithin_inv hy
  have hy' : rWithin_d n1 low2 high3 = some y := hy
  refine ⟨noL, noL_ok _, (rWithin_eq n1 low2 high3).trans ?_⟩
  unfold rWithin_d at hy'
  rw [rWithin_nat, hy']
  rfl

/-! ## drayman/draymanref01.CheckInst -/
def rCheckInst_l36 {R : Type} : Nat → Int → List (List PV) → Int → Int → List (List PV) → Int → Int → List (List PV) → List (List PV) → List (List PV) → List (List PV) → (Bool → Option R) → (List (List PV) → Int → Int → List (List PV) → List (List PV) → List (List PV) → List (List PV) → Option R) → Option R
  | 0, _, _, _, _, _, _, _, _, _, _, _, _, _ => none
  | n + 1, a129, es130, i131, i132, es133, i134, i135, es136, es137, es138, es139, k0, k1 =>
    cond (decide (i135 < i134)) (
      Option.bind (idx es133 i135) fun e140 =>
      if e140.length = 1 then
        Option.bind (e140[0]?) fun c141 =>
        Option.bind (PV.asI .i64 c141) fun n142 =>
        Option.bind (rWithin_d n142 0 1000) fun y143 =>
        cond (!y143) (
          k0 false) (
          cond (a129 == i135) (
            cond (n142 != (0 : Int)) (
              k0 false) (
              rCheckInst_l36 n a129 es130 i131 i132 es133 i134 (IntKind.i64.wrap (i135 + (1 : Int))) es136 es137 es138 es139 k0 k1)) (
            rCheckInst_l36 n a129 es130 i131 i132 es133 i134 (IntKind.i64.wrap (i135 + (1 : Int))) es136 es137 es138 es139 k0 k1))
      else none) (
      k1 es130 i131 i132 es136 es137 es138 es139)
def rCheckInst_l20 {R : Type} : Nat → List (List PV) → Int → Int → PV → Int → List (List PV) → List (List PV) → List (List PV) → List (List PV) → List (PV × PV) → PV → (Bool → Option R) → (List (List PV) → Int → Int → List (List PV) → List (List PV) → List (List PV) → List (List PV) → List (PV × PV) → PV → Option R) → Option R
  | 0, _, _, _, _, _, _, _, _, _, _, _, _, _ => none
  | n + 1, es93, i94, i95, p96, i97, es98, es99, es100, es101, kv102, p103, k0, k1 =>
    cond (decide (i97 < (2 : Int))) (
      Option.bind (PV.asAgg p96) fun cs104 =>
      if 0 ≤ i97 ∧ i97 < 2 then
        Option.bind (cs104[(Int.toNat i97)]?) fun c105 =>
        Option.bind (PV.asI .i64 c105) fun n106 =>
        Option.bind (rWithin_d n106 1 (es99.length : Int)) fun y107 =>
        cond (!y107) (
          k0 false) (
          Option.bind (mget T 3 (PV.int .i64 n106) kv102) fun r108 =>
          Option.bind (PV.asB (Option.getD r108 (PV.bool false))) fun b109 =>
          cond b109 (
            k0 false) (
            Option.bind (mset T 3 (PV.int .i64 n106) (PV.bool true) kv102) fun r110 =>
            rCheckInst_l20 n es93 i94 i95 p96 (IntKind.i64.wrap (i97 + (1 : Int))) es98 es99 es100 es101 r110 p103 k0 k1))
      else none) (
      k1 es93 i94 i95 es98 es99 es100 es101 kv102 p103)
def rCheckInst_l31 {R : Type} : Nat → List (List PV) → Int → Int → List (List PV) → List (List PV) → List (List PV) → List (List PV) → (Bool → Option R) → (Unit → Option R) → Option R
  | 0, _, _, _, _, _, _, _, _, _ => none
  | n + 1, es111, i112, i113, es114, es115, es116, es117, k0, k1 =>
    cond (decide (i113 < i112)) (
      Option.bind (idx es111 i113) fun e118 =>
      if e118.length = 1 then
        Option.bind (e118[0]?) fun c119 =>
        Option.bind (PV.asFs c119) fun es120 =>
        cond ((es120.length : Int) != (es117.length : Int)) (
          k0 false) (
          rCheckInst_l36 n i113 es111 i112 i113 es120 (es120.length : Int) 0 es114 es115 es116 es117 k0
            (fun (es122 : List (List PV)) (i123 : Int) (i124 : Int) (es125 : List (List PV)) (es126 : List (List PV)) (es127 : List (List PV)) (es128 : List (List PV)) =>
              rCheckInst_l31 n es122 i123 (IntKind.i64.wrap (i124 + (1 : Int))) es125 es126 es127 es128 k0 k1))
      else none) (
      k1 ())
def rCheckInst_l17 {R : Type} : Nat → List (List PV) → Int → Int → List (List PV) → List (List PV) → List (List PV) → List (List PV) → List (PV × PV) → (List (List PV) → List (List PV) → List (List PV) → List (List PV) → Option R) → (Bool → Option R) → Option R
  | 0, _, _, _, _, _, _, _, _, _, _ => none
  | n + 1, es63, i64, i65, es66, es67, es68, es69, kv70, k0, k1 =>
    cond (decide (i65 < i64)) (
      Option.bind (idx es63 i65) fun e71 =>
      if e71.length = 2 then
        Option.bind (subAgg e71 0 2) fun p72 =>
        if (PV.isAgg p72 2) = true then
          rCheckInst_l20 n es63 i64 i65 p72 0 es66 es67 es68 es69 kv70 p72 k1
            (fun (es74 : List (List PV)) (i75 : Int) (i76 : Int) (es77 : List (List PV)) (es78 : List (List PV)) (es79 : List (List PV)) (es80 : List (List PV)) (kv81 : List (PV × PV)) (p82 : PV) =>
              Option.bind ((PV.cells p82)[0]?) fun c83 =>
              Option.bind (PV.asI .i64 c83) fun n84 =>
              Option.bind (idx es78 (IntKind.i64.wrap (n84 - (1 : Int)))) fun e85 =>
              if e85.length = 4 then
                Option.bind (e85[0]?) fun c86 =>
                Option.bind (PV.asI .i64 c86) fun n87 =>
                cond (decide (n87 < (0 : Int))) (
                  k1 false) (
                  Option.bind ((PV.cells p82)[1]?) fun c88 =>
                  Option.bind (PV.asI .i64 c88) fun n89 =>
                  Option.bind (idx es78 (IntKind.i64.wrap (n89 - (1 : Int)))) fun e90 =>
                  if e90.length = 4 then
                    Option.bind (e90[0]?) fun c91 =>
                    Option.bind (PV.asI .i64 c91) fun n92 =>
                    cond (n92 != (IntKind.i64.wrap (0 - n87))) (
                      k1 false) (
                      rCheckInst_l17 n es74 i75 (IntKind.i64.wrap (i76 + (1 : Int))) es77 es78 es79 es80 kv81 k0 k1)
                  else none)
              else none)
        else none
      else none) (
      k0 es66 es67 es68 es69)
def rCheckInst_l10 {R : Type} : Nat → List (List PV) → Int → Int → List (List PV) → List (List PV) → List (List PV) → List (List PV) → (Bool → Option R) → (List (List PV) → List (List PV) → List (List PV) → List (List PV) → Option R) → Option R
  | 0, _, _, _, _, _, _, _, _, _ => none
  | n + 1, es41, i42, i43, es44, es45, es46, es47, k0, k1 =>
    cond (decide (i43 < i42)) (
      Option.bind (idx es41 i43) fun e48 =>
      if e48.length = 4 then
        Option.bind (subAgg e48 0 4) fun p49 =>
        if (PV.isAgg p49 4) = true then
          Option.bind ((PV.cells p49)[0]?) fun c50 =>
          Option.bind (PV.asI .i64 c50) fun n51 =>
          Option.bind (rWithin_d n51 (-20) 20) fun y52 =>
          cond (!y52) (
            k0 false) (
            Option.bind ((PV.cells p49)[1]?) fun c53 =>
            Option.bind (PV.asI .i64 c53) fun n54 =>
            Option.bind ((PV.cells p49)[2]?) fun c55 =>
            Option.bind (PV.asI .i64 c55) fun n56 =>
            Option.bind (rWithin_d n54 0 n56) fun y57 =>
            cond (!y57) (
              k0 false) (
              Option.bind ((PV.cells p49)[2]?) fun c58 =>
              Option.bind (PV.asI .i64 c58) fun n59 =>
              cond (decide (n59 > (1000 : Int))) (
                k0 false) (
                Option.bind ((PV.cells p49)[3]?) fun c60 =>
                Option.bind (PV.asI .i64 c60) fun n61 =>
                Option.bind (rWithin_d n61 0 1000) fun y62 =>
                cond (!y62) (
                  k0 false) (
                  rCheckInst_l10 n es41 i42 (IntKind.i64.wrap (i43 + (1 : Int))) es44 es45 es46 es47 k0 k1))))
        else none
      else none) (
      k1 es44 es45 es46 es47)
def rCheckInst_l4 {R : Type} : Nat → List (List PV) → Int → Int → List (List PV) → List (List PV) → List (List PV) → List (List PV) → (Bool → Option R) → (List (List PV) → List (List PV) → List (List PV) → List (List PV) → Option R) → Option R
  | 0, _, _, _, _, _, _, _, _, _ => none
  | n + 1, es22, i23, i24, es25, es26, es27, es28, k0, k1 =>
    cond (decide (i24 < i23)) (
      Option.bind (idx es22 i24) fun e29 =>
      if e29.length = 3 then
        Option.bind (subAgg e29 0 3) fun p30 =>
        if (PV.isAgg p30 3) = true then
          Option.bind ((PV.cells p30)[0]?) fun c31 =>
          Option.bind (PV.asI .i64 c31) fun n32 =>
          Option.bind (rWithin_d n32 0 60) fun y33 =>
          cond (!y33) (
            k0 false) (
            Option.bind ((PV.cells p30)[1]?) fun c34 =>
            Option.bind (PV.asI .i64 c34) fun n35 =>
            Option.bind ((PV.cells p30)[2]?) fun c36 =>
            Option.bind (PV.asI .i64 c36) fun n37 =>
            Option.bind (rWithin_d n35 0 n37) fun y38 =>
            cond (!y38) (
              k0 false) (
              Option.bind ((PV.cells p30)[2]?) fun c39 =>
              Option.bind (PV.asI .i64 c39) fun n40 =>
              cond (decide (n40 > (1000 : Int))) (
                k0 false) (
                rCheckInst_l4 n es22 i23 (IntKind.i64.wrap (i24 + (1 : Int))) es25 es26 es27 es28 k0 k1)))
        else none
      else none) (
      k1 es25 es26 es27 es28)
def rCheckInst_b {R : Type} (n : Nat) (i1 : List (List PV)) (i2 : List (List PV)) (i3 : List (List PV)) (i4 : List (List PV)) (k : Bool → Option R) : Option R :=
  Option.bind (rWithin_d (i1.length : Int) 1 3) fun y5 =>
  cond (!y5) (
    k false) (
    cond (decide ((i2.length : Int) > (10 : Int))) (
      k false) (
      cond ((i4.length : Int) != (IntKind.i64.wrap ((i2.length : Int) + (1 : Int)))) (
        k false) (
        rCheckInst_l4 n i1 (i1.length : Int) 0 i1 i2 i3 i4 k
          (fun (es7 : List (List PV)) (es8 : List (List PV)) (es9 : List (List PV)) (es10 : List (List PV)) =>
            rCheckInst_l10 n es8 (es8.length : Int) 0 es7 es8 es9 es10 k
              (fun (es12 : List (List PV)) (es13 : List (List PV)) (es14 : List (List PV)) (es15 : List (List PV)) =>
                rCheckInst_l17 n es14 (es14.length : Int) 0 es12 es13 es14 es15 ([] : List (PV × PV))
                  (fun (es16 : List (List PV)) (es17 : List (List PV)) (es18 : List (List PV)) (es19 : List (List PV)) =>
                    rCheckInst_l31 n es19 (es19.length : Int) 0 es16 es17 es18 es19 k
                      (fun (_ : Unit) =>
                        k true)) k)))))
def rCheckInst_E (y : Bool) : PV × List PV := ((PV.bool y), [])
def rCheckInst_D : List PV → Option (Bool)
  | [(PV.agg [(PV.fs i1), (PV.fs i2), (PV.fs i3), (PV.fs i4)])] => sCheckInst i1 i2 i3 i4
  | _ => none
def rCheckInst_Γ : List (Nat × Cal) := [(85, .ctr rWithin_C)]
def rCheckInst_C : Ctr := ⟨[none], Bool, rCheckInst_D, rCheckInst_E, true, .d⟩
def rCheckInst_cfg : List (Nat × LC) := [(4, ⟨[1, 39, 40, 41], [], [], []⟩),
  (2000004, ⟨[2], [], [], []⟩),
  (1004000, ⟨[1], [], [], []⟩),
  (10, ⟨[1, 64, 65, 66], [], [], []⟩),
  (2000010, ⟨[2], [], [], []⟩),
  (1010002, ⟨[1], [], [], []⟩),
  (17, ⟨[1, 7, 96, 97, 98], [], [], []⟩),
  (20, ⟨[1, 7, 9, 96, 97, 98, 102, 103], [], [], []⟩),
  (1017004, ⟨[1], [], [], []⟩),
  (2000020, ⟨[2], [], [], []⟩),
  (1020006, ⟨[1, 7, 9, 96, 97, 98], [], [], []⟩),
  (31, ⟨[1, 145, 146, 147], [], [], []⟩),
  (2000017, ⟨[2], [], [], []⟩),
  (2000031, ⟨[2], [], [], []⟩),
  (36, ⟨[1, 13, 145, 146, 147, 158, 159, 160], [], [], []⟩),
  (1031008, ⟨[], [], [], []⟩),
  (2000036, ⟨[2], [], [], []⟩),
  (1036010, ⟨[1, 145, 146, 147], [], [], []⟩)]
def rCheckInst_pat : Nat → Option SP
  | 36 => some ⟨sparse .undef [(1, (.ref 0 0)), (13, (.val (.int .i64))), (145, (.val .fs)), (146, (.val (.int .i64))), (147, (.val (.int .i64))), (158, (.val .fs)), (159, (.val (.int .i64))), (160, (.val (.int .i64)))] 0 179, [(.pbox (.agg [.fs, .fs, .fs, .fs]) 4)], []⟩
  | 20 => some ⟨sparse .undef [(1, (.ref 0 0)), (7, (.mp 1)), (9, (.ref 2 0)), (96, (.val .fs)), (97, (.val (.int .i64))), (98, (.val (.int .i64))), (102, (.val .any)), (103, (.val (.int .i64)))] 0 179, [(.pbox (.agg [.fs, .fs, .fs, .fs]) 4), .map, (.pbox .any 2)], []⟩
  | 31 => some ⟨sparse .undef [(1, (.ref 0 0)), (145, (.val .fs)), (146, (.val (.int .i64))), (147, (.val (.int .i64)))] 0 179, [(.pbox (.agg [.fs, .fs, .fs, .fs]) 4)], []⟩
  | 17 => some ⟨sparse .undef [(1, (.ref 0 0)), (7, (.mp 1)), (96, (.val .fs)), (97, (.val (.int .i64))), (98, (.val (.int .i64)))] 0 179, [(.pbox (.agg [.fs, .fs, .fs, .fs]) 4), .map], []⟩
  | 10 => some ⟨sparse .undef [(1, (.ref 0 0)), (64, (.val .fs)), (65, (.val (.int .i64))), (66, (.val (.int .i64)))] 0 179, [(.pbox (.agg [.fs, .fs, .fs, .fs]) 4)], []⟩
  | 4 => some ⟨sparse .undef [(1, (.ref 0 0)), (39, (.val .fs)), (40, (.val (.int .i64))), (41, (.val (.int .i64)))] 0 179, [(.pbox (.agg [.fs, .fs, .fs, .fs]) 4)], []⟩
  | _ => none
def rCheckInst_patj : Nat → Option SP
  | _ => none
def rCheckInst_L36 (n : Nat) (ls : List Leaf) (R : Type) (k : Ex → St → Option R) : Option R :=
  match ls with
  | [.int a129, .rows es130, .int i131, .int i132, .rows es133, .int i134, .int i135, .rows es136, .rows es137, .rows es138, .rows es139] => rCheckInst_l36 n a129 es130 i131 i132 es133 i134 i135 es136 es137 es138 es139 (fun y1144 => k .ret ⟨sparse .undef [(2, (TV.val (PV.bool y1144)))] 0 179, [], []⟩)
      (fun y1145 y1146 y1147 y1148 y1149 y1150 y1151 => k (.exit 10) ⟨sparse .undef [(1, (TV.ref 0 0)), (145, (TV.val (PV.fs y1145))), (146, (TV.val (PV.int .i64 y1146))), (147, (TV.val (PV.int .i64 y1147)))] 0 179, [(Ob.pbox (PV.agg [(PV.fs y1148), (PV.fs y1149), (PV.fs y1150), (PV.fs y1151)]) 4)], []⟩)
  | _ => none
def rCheckInst_L20 (n : Nat) (ls : List Leaf) (R : Type) (k : Ex → St → Option R) : Option R :=
  match ls with
  | [.rows es93, .int i94, .int i95, .pv p96, .int i97, .rows es98, .rows es99, .rows es100, .rows es101, .kvs kv102, .pv p103] => rCheckInst_l20 n es93 i94 i95 p96 i97 es98 es99 es100 es101 kv102 p103 (fun y2152 => k .ret ⟨sparse .undef [(2, (TV.val (PV.bool y2152)))] 0 179, [], []⟩)
      (fun y2153 y2154 y2155 y2156 y2157 y2158 y2159 y2160 y2161 => k (.exit 6) ⟨sparse .undef [(1, (TV.ref 0 0)), (7, (TV.mp 1)), (9, (TV.ref 2 0)), (96, (TV.val (PV.fs y2153))), (97, (TV.val (PV.int .i64 y2154))), (98, (TV.val (PV.int .i64 y2155)))] 0 179, [(Ob.pbox (PV.agg [(PV.fs y2156), (PV.fs y2157), (PV.fs y2158), (PV.fs y2159)]) 4), (Ob.map y2160), (Ob.pbox y2161 2)], []⟩)
  | _ => none
def rCheckInst_L31 (n : Nat) (ls : List Leaf) (R : Type) (k : Ex → St → Option R) : Option R :=
  match ls with
  | [.rows es111, .int i112, .int i113, .rows es114, .rows es115, .rows es116, .rows es117] => rCheckInst_l31 n es111 i112 i113 es114 es115 es116 es117 (fun y3162 => k .ret ⟨sparse .undef [(2, (TV.val (PV.bool y3162)))] 0 179, [], []⟩)
      (fun _ => k (.exit 8) ⟨sparse .undef [] 0 179, [], []⟩)
  | _ => none
def rCheckInst_L17 (n : Nat) (ls : List Leaf) (R : Type) (k : Ex → St → Option R) : Option R :=
  match ls with
  | [.rows es63, .int i64, .int i65, .rows es66, .rows es67, .rows es68, .rows es69, .kvs kv70] => rCheckInst_l17 n es63 i64 i65 es66 es67 es68 es69 kv70 (fun y4163 y4164 y4165 y4166 => k (.exit 4) ⟨sparse .undef [(1, (TV.ref 0 0))] 0 179, [(Ob.pbox (PV.agg [(PV.fs y4163), (PV.fs y4164), (PV.fs y4165), (PV.fs y4166)]) 4)], []⟩)
      (fun y4167 => k .ret ⟨sparse .undef [(2, (TV.val (PV.bool y4167)))] 0 179, [], []⟩)
  | _ => none
def rCheckInst_L10 (n : Nat) (ls : List Leaf) (R : Type) (k : Ex → St → Option R) : Option R :=
  match ls with
  | [.rows es41, .int i42, .int i43, .rows es44, .rows es45, .rows es46, .rows es47] => rCheckInst_l10 n es41 i42 i43 es44 es45 es46 es47 (fun y5168 => k .ret ⟨sparse .undef [(2, (TV.val (PV.bool y5168)))] 0 179, [], []⟩)
      (fun y5169 y5170 y5171 y5172 => k (.exit 2) ⟨sparse .undef [(1, (TV.ref 0 0))] 0 179, [(Ob.pbox (PV.agg [(PV.fs y5169), (PV.fs y5170), (PV.fs y5171), (PV.fs y5172)]) 4)], []⟩)
  | _ => none
def rCheckInst_L4 (n : Nat) (ls : List Leaf) (R : Type) (k : Ex → St → Option R) : Option R :=
  match ls with
  | [.rows es22, .int i23, .int i24, .rows es25, .rows es26, .rows es27, .rows es28] => rCheckInst_l4 n es22 i23 i24 es25 es26 es27 es28 (fun y6173 => k .ret ⟨sparse .undef [(2, (TV.val (PV.bool y6173)))] 0 179, [], []⟩)
      (fun y6174 y6175 y6176 y6177 => k (.exit 0) ⟨sparse .undef [(1, (TV.ref 0 0))] 0 179, [(Ob.pbox (PV.agg [(PV.fs y6174), (PV.fs y6175), (PV.fs y6176), (PV.fs y6177)]) 4)], []⟩)
  | _ => none
def rCheckInst_L (n key : Nat) (ls : List Leaf) (R : Type) (k : Ex → St → Option R) : Option R :=
  match key with
  | 36 => rCheckInst_L36 n ls R k
  | 20 => rCheckInst_L20 n ls R k
  | 31 => rCheckInst_L31 n ls R k
  | 17 => rCheckInst_L17 n ls R k
  | 10 => rCheckInst_L10 n ls R k
  | 4 => rCheckInst_L4 n ls R k
  | _ => none
def rCheckInst_J (n key : Nat) (ls : List Leaf) (R : Type) (k : Ex → St → Option R) : Option R :=
  match key with
  | _ => none
def rCheckInst_on : Code → Bool := fun _ => false
def rCheckInst_Λ : Nat → Loops := patL (normBy rCheckInst_cfg) rCheckInst_pat rCheckInst_L (normJ rCheckInst_cfg) rCheckInst_on rCheckInst_patj rCheckInst_J
theorem rCheckInst_step4 (n : Nat) (es22 : List (List PV)) (i23 : Int) (i24 : Int) (es25 : List (List PV)) (es26 : List (List PV)) (es27 : List (List PV)) (es28 : List (List PV))  (R : Type) (k : Ex → St → Option R) :
    roundK T G0 (ctrOf rCheckInst_Γ) (normBy rCheckInst_cfg) (rCheckInst_Λ n) (codeAt [1, 1, 0, 1, 0, 0] (bodyOf Tryd.f67)) (buildSt ⟨sparse .undef [(1, (.ref 0 0)), (39, (.val .fs)), (40, (.val (.int .i64))), (41, (.val (.int .i64)))] 0 179, [(.pbox (.agg [.fs, .fs, .fs, .fs]) 4)], []⟩ [.rows es22, .int i23, .int i24, .rows es25, .rows es26, .rows es27, .rows es28]) R k = rCheckInst_L4 (n + 1) [.rows es22, .int i23, .int i24, .rows es25, .rows es26, .rows es27, .rows es28] R k := by kernel_rfl
theorem rCheckInst_step10 (n : Nat) (es41 : List (List PV)) (i42 : Int) (i43 : Int) (es44 : List (List PV)) (es45 : List (List PV)) (es46 : List (List PV)) (es47 : List (List PV))  (R : Type) (k : Ex → St → Option R) :
    roundK T G0 (ctrOf rCheckInst_Γ) (normBy rCheckInst_cfg) (rCheckInst_Λ n) (codeAt [1, 1, 1, 0, 1, 0, 0] (bodyOf Tryd.f67)) (buildSt ⟨sparse .undef [(1, (.ref 0 0)), (64, (.val .fs)), (65, (.val (.int .i64))), (66, (.val (.int .i64)))] 0 179, [(.pbox (.agg [.fs, .fs, .fs, .fs]) 4)], []⟩ [.rows es41, .int i42, .int i43, .rows es44, .rows es45, .rows es46, .rows es47]) R k = rCheckInst_L10 (n + 1) [.rows es41, .int i42, .int i43, .rows es44, .rows es45, .rows es46, .rows es47] R k := by kernel_rfl
theorem rCheckInst_step17 (n : Nat) (es63 : List (List PV)) (i64 : Int) (i65 : Int) (es66 : List (List PV)) (es67 : List (List PV)) (es68 : List (List PV)) (es69 : List (List PV)) (kv70 : List (PV × PV))  (R : Type) (k : Ex → St → Option R) :
    roundK T G0 (ctrOf rCheckInst_Γ) (normBy rCheckInst_cfg) (rCheckInst_Λ n) (codeAt [1, 1, 1, 1, 1, 0, 1, 0, 0] (bodyOf Tryd.f67)) (buildSt ⟨sparse .undef [(1, (.ref 0 0)), (7, (.mp 1)), (96, (.val .fs)), (97, (.val (.int .i64))), (98, (.val (.int .i64)))] 0 179, [(.pbox (.agg [.fs, .fs, .fs, .fs]) 4), .map], []⟩ [.rows es63, .int i64, .int i65, .rows es66, .rows es67, .rows es68, .rows es69, .kvs kv70]) R k = rCheckInst_L17 (n + 1) [.rows es63, .int i64, .int i65, .rows es66, .rows es67, .rows es68, .rows es69, .kvs kv70] R k := by kernel_rfl
theorem rCheckInst_step20 (n : Nat) (es93 : List (List PV)) (i94 : Int) (i95 : Int) (p96 : PV) (i97 : Int) (es98 : List (List PV)) (es99 : List (List PV)) (es100 : List (List PV)) (es101 : List (List PV)) (kv102 : List (PV × PV)) (p103 : PV)  (R : Type) (k : Ex → St → Option R) :
    roundK T G0 (ctrOf rCheckInst_Γ) (normBy rCheckInst_cfg) (rCheckInst_Λ n) (codeAt [1, 1, 1, 1, 1, 0, 1, 0, 0, 1, 1, 0, 0, 1, 0, 1, 0, 0] (bodyOf Tryd.f67)) (buildSt ⟨sparse .undef [(1, (.ref 0 0)), (7, (.mp 1)), (9, (.ref 2 0)), (96, (.val .fs)), (97, (.val (.int .i64))), (98, (.val (.int .i64))), (102, (.val .any)), (103, (.val (.int .i64)))] 0 179, [(.pbox (.agg [.fs, .fs, .fs, .fs]) 4), .map, (.pbox .any 2)], []⟩ [.rows es93, .int i94, .int i95, .pv p96, .int i97, .rows es98, .rows es99, .rows es100, .rows es101, .kvs kv102, .pv p103]) R k = rCheckInst_L20 (n + 1) [.rows es93, .int i94, .int i95, .pv p96, .int i97, .rows es98, .rows es99, .rows es100, .rows es101, .kvs kv102, .pv p103] R k := by kernel_rfl
theorem rCheckInst_step31 (n : Nat) (es111 : List (List PV)) (i112 : Int) (i113 : Int) (es114 : List (List PV)) (es115 : List (List PV)) (es116 : List (List PV)) (es117 : List (List PV))  (R : Type) (k : Ex → St → Option R) :
    roundK T G0 (ctrOf rCheckInst_Γ) (normBy rCheckInst_cfg) (rCheckInst_Λ n) (codeAt [1, 1, 1, 1, 1, 1, 0, 1, 0, 0] (bodyOf Tryd.f67)) (buildSt ⟨sparse .undef [(1, (.ref 0 0)), (145, (.val .fs)), (146, (.val (.int .i64))), (147, (.val (.int .i64)))] 0 179, [(.pbox (.agg [.fs, .fs, .fs, .fs]) 4)], []⟩ [.rows es111, .int i112, .int i113, .rows es114, .rows es115, .rows es116, .rows es117]) R k = rCheckInst_L31 (n + 1) [.rows es111, .int i112, .int i113, .rows es114, .rows es115, .rows es116, .rows es117] R k := by kernel_rfl
theorem rCheckInst_step36 (n : Nat) (a129 : Int) (es130 : List (List PV)) (i131 : Int) (i132 : Int) (es133 : List (List PV)) (i134 : Int) (i135 : Int) (es136 : List (List PV)) (es137 : List (List PV)) (es138 : List (List PV)) (es139 : List (List PV))  (R : Type) (k : Ex → St → Option R) :
    roundK T G0 (ctrOf rCheckInst_Γ) (normBy rCheckInst_cfg) (rCheckInst_Λ n) (codeAt [1, 1, 1, 1, 1, 1, 0, 1, 0, 0, 1, 1, 0, 0, 1, 1, 1, 0, 0] (bodyOf Tryd.f67)) (buildSt ⟨sparse .undef [(1, (.ref 0 0)), (13, (.val (.int .i64))), (145, (.val .fs)), (146, (.val (.int .i64))), (147, (.val (.int .i64))), (158, (.val .fs)), (159, (.val (.int .i64))), (160, (.val (.int .i64)))] 0 179, [(.pbox (.agg [.fs, .fs, .fs, .fs]) 4)], []⟩ [.int a129, .rows es130, .int i131, .int i132, .rows es133, .int i134, .int i135, .rows es136, .rows es137, .rows es138, .rows es139]) R k = rCheckInst_L36 (n + 1) [.int a129, .rows es130, .int i131, .int i132, .rows es133, .int i134, .int i135, .rows es136, .rows es137, .rows es138, .rows es139] R k := by kernel_rfl
theorem rCheckInst_eq (n : Nat) (i1 : List (List PV)) (i2 : List (List PV)) (i3 : List (List PV)) (i4 : List (List PV)) :
    funK T G0 (ctrOf rCheckInst_Γ) (rCheckInst_Λ n) .d true [none] (funOf Tryd.f67) [(PV.agg [(PV.fs i1), (PV.fs i2), (PV.fs i3), (PV.fs i4)])] = rCheckInst_b n  i1 i2 i3 i4 (fun a0 => some (rCheckInst_E a0)) := by kernel_rfl
theorem rCheckInst_inv {ps : List PV} {y : Bool} (h : rCheckInst_D ps = some y) : ∃ (i1 : List (List PV)) (i2 : List (List PV)) (i3 : List (List PV)) (i4 : List (List PV)), ps = [(PV.agg [(PV.fs i1), (PV.fs i2), (PV.fs i3), (PV.fs i4)])] := by
  unfold rCheckInst_D at h
  split at h
  · exact ⟨_, _, _, _, rfl⟩
  · cases h
theorem rCheckInst_loops : loopsOf (bodyOf Tryd.f67) = [codeAt [1, 1, 0, 1, 0, 0] (bodyOf Tryd.f67), codeAt [1, 1, 1, 0, 1, 0, 0] (bodyOf Tryd.f67), codeAt [1, 1, 1, 1, 1, 0, 1, 0, 0] (bodyOf Tryd.f67), codeAt [1, 1, 1, 1, 1, 0, 1, 0, 0, 1, 1, 0, 0, 1, 0, 1, 0, 0] (bodyOf Tryd.f67), codeAt [1, 1, 1, 1, 1, 1, 0, 1, 0, 0] (bodyOf Tryd.f67), codeAt [1, 1, 1, 1, 1, 1, 0, 1, 0, 0, 1, 1, 0, 0, 1, 1, 1, 0, 0] (bodyOf Tryd.f67)] := by kernel_rfl
theorem rCheckInst_holds (hΓ : HoldsAll Tryd.prog G0 rCheckInst_Γ) (hok : ∀ (i1 : List (List PV)) (i2 : List (List PV)) (i3 : List (List PV)) (i4 : List (List PV)) (y : Bool), sCheckInst i1 i2 i3 i4 = some y → ∃ n, ∀ (R : Type) (k : Bool → Option R), rCheckInst_b n  i1 i2 i3 i4 k = k y) : Holds Tryd.prog G0 67 rCheckInst_C := by
  refine fun_pat mixed tOk (ctrOf_ok hΓ) Tryd.func67 rfl rfl rfl rfl (F := funOf Tryd.f67) (normBy_ok rCheckInst_cfg) (pat := rCheckInst_pat) (L := rCheckInst_L) (normJ_ok rCheckInst_cfg) (on := rCheckInst_on) (patj := rCheckInst_patj) (J := rCheckInst_J) (fun c hc ls R k => ?_) (fun c hc p hp m ls R k r h => ?_) (fun c hc p hp m ls R k r h => ?_) (fun ps x h => ?_)
  · rw [show (funOf Tryd.f67).code = bodyOf Tryd.f67 from rfl, rCheckInst_loops] at hc
    simp only [List.mem_cons, List.not_mem_nil, or_false] at hc
    rcases hc with rfl | rfl | rfl | rfl | rfl | rfl
    · show rCheckInst_L4 0 ls R k = none
      unfold rCheckInst_L4
      split
      · rfl
      · rfl
    · show rCheckInst_L10 0 ls R k = none
      unfold rCheckInst_L10
      split
      · rfl
      · rfl
    · show rCheckInst_L17 0 ls R k = none
      unfold rCheckInst_L17
      split
      · rfl
      · rfl
    · show rCheckInst_L20 0 ls R k = none
      unfold rCheckInst_L20
      split
      · rfl
      · rfl
    · show rCheckInst_L31 0 ls R k = none
      unfold rCheckInst_L31
      split
      · rfl
      · rfl
    · show rCheckInst_L36 0 ls R k = none
      unfold rCheckInst_L36
      split
      · rfl
      · rfl
  · rw [show (funOf Tryd.f67).code = bodyOf Tryd.f67 from rfl, rCheckInst_loops] at hc
    simp only [List.mem_cons, List.not_mem_nil, or_false] at hc
    rcases hc with rfl | rfl | rfl | rfl | rfl | rfl
    · have hp' : p = ⟨sparse .undef [(1, (.ref 0 0)), (39, (.val .fs)), (40, (.val (.int .i64))), (41, (.val (.int .i64)))] 0 179, [(.pbox (.agg [.fs, .fs, .fs, .fs]) 4)], []⟩ := (Option.some.inj (hp : some _ = some p)).symm
      subst hp'
      change rCheckInst_L4 (m + 1) ls R k = some r at h
      have h' := h
      unfold rCheckInst_L4 at h'
      split at h'
      · exact (rCheckInst_step4 m _ _ _ _ _ _ _ R k).trans h
      · cases h'
    · have hp' : p = ⟨sparse .undef [(1, (.ref 0 0)), (64, (.val .fs)), (65, (.val (.int .i64))), (66, (.val (.int .i64)))] 0 179, [(.pbox (.agg [.fs, .fs, .fs, .fs]) 4)], []⟩ := (Option.some.inj (hp : some _ = some p)).symm
      subst hp'
      change rCheckInst_L10 (m + 1) ls R k = some r at h
      have h' := h
      unfold rCheckInst_L10 at h'
      split at h'
      · exact (rCheckInst_step10 m _ _ _ _ _ _ _ R k).trans h
      · cases h'
    · have hp' : p = ⟨sparse .undef [(1, (.ref 0 0)), (7, (.mp 1)), (96, (.val .fs)), (97, (.val (.int .i64))), (98, (.val (.int .i64)))] 0 179, [(.pbox (.agg [.fs, .fs, .fs, .fs]) 4), .map], []⟩ := (Option.some.inj (hp : some _ = some p)).symm
      subst hp'
      change rCheckInst_L17 (m + 1) ls R k = some r at h
      have h' := h
      unfold rCheckInst_L17 at h'
      split at h'
      · exact (rCheckInst_step17 m _ _ _ _ _ _ _ _ R k).trans h
      · cases h'
    · have hp' : p = ⟨sparse .undef [(1, (.ref 0 0)), (7, (.mp 1)), (9, (.ref 2 0)), (96, (.val .fs)), (97, (.val (.int .i64))), (98, (.val (.int .i64))), (102, (.val .any)), (103, (.val (.int .i64)))] 0 179, [(.pbox (.agg [.fs, .fs, .fs, .fs]) 4), .map, (.pbox .any 2)], []⟩ := (Option.some.inj (hp : some _ = some p)).symm
      subst hp'
      change rCheckInst_L20 (m + 1) ls R k = some r at h
      have h' := h
      unfold rCheckInst_L20 at h'
      split at h'
      · exact (rCheckInst_step20 m _ _ _ _ _ _ _ _ _ _ _ R k).trans h
      · cases h'
    · have hp' : p = ⟨sparse .undef [(1, (.ref 0 0)), (145, (.val .fs)), (146, (.val (.int .i64))), (147, (.val (.int .i64)))] 0 179, [(.pbox (.agg [.fs, .fs, .fs, .fs]) 4)], []⟩ := (Option.some.inj (hp : some _ = some p)).symm
      subst hp'
      change rCheckInst_L31 (m + 1) ls R k = some r at h
      have h' := h
      unfold rCheckInst_L31 at h'
      split at h'
      · exact (rCheckInst_step31 m _ _ _ _ _ _ _ R k).trans h
      · cases h'
    · have hp' : p = ⟨sparse .undef [(1, (.ref 0 0)), (13, (.val (.int .i64))), (145, (.val .fs)), (146, (.val (.int .i64))), (147, (.val (.int .i64))), (158, (.val .fs)), (159, (.val (.int .i64))), (160, (.val (.int .i64)))] 0 179, [(.pbox (.agg [.fs, .fs, .fs, .fs]) 4)], []⟩ := (Option.some.inj (hp : some _ = some p)).symm
      subst hp'
      change rCheckInst_L36 (m + 1) ls R k = some r at h
      have h' := h
      unfold rCheckInst_L36 at h'
      split at h'
      · exact (rCheckInst_step36 m _ _ _ _ _ _ _ _ _ _ _ R k).trans h
      · cases h'
  · cases (List.mem_filter.1 hc).2
  · obtain ⟨y, hy, hx⟩ := bind_inv h
    cases hx
    obtain ⟨i1, i2, i3, i4, rfl⟩ := rCheckInst_inv hy
    obtain ⟨n, hn⟩ := hok i1 i2 i3 i4 y hy
    exact ⟨n, (rCheckInst_eq n i1 i2 i3 i4).trans (hn _ _)⟩

/-! ## drayman/draymanref01.filled -/
def rFilled_l3 {R : Type} : Nat → Int → Int → Int → List (List PV) → (List (List PV) → Option R) → Option R
  | 0, _, _, _, _, _ => none
  | n + 1, x4, i5, i6, es7, k0 =>
    cond (decide (i6 < i5)) (
      if 0 ≤ i6 ∧ i6 < (es7.length : Int) then
        Option.bind (es7[(Int.toNat i6)]?) fun e8 =>
        Option.bind (e8[0]?) fun c9 =>
        rFilled_l3 n x4 i5 (IntKind.i64.wrap (i6 + (1 : Int))) (List.set es7 (Int.toNat i6) (List.set e8 0 (PV.int .i64 x4))) k0
      else none) (
      k0 es7)
def rFilled_b {R : Type} (n : Nat) (n1 : Int) (x2 : Int) (k : List (List PV) → Option R) : Option R :=
  if n1 = n1 ∧ 0 ≤ n1 ∧ n1 * 8 ≤ maxBytes ∧ 1 = 1 then
    rFilled_l3 n x2 ((List.replicate (Int.toNat n1) [(PV.int .i64 0)]).length : Int) 0 (List.replicate (Int.toNat n1) [(PV.int .i64 0)]) k
  else none
def rFilled_E (y : (List (List PV))) : PV × List PV := ((PV.os y 1), [])
def rFilled_D : List PV → Option ((List (List PV)))
  | [(PV.int .i64 n1), (PV.int .i64 x2)] => sFilled n1 x2
  | _ => none
def rFilled_Γ : List (Nat × Cal) := []
def rFilled_C : Ctr := ⟨[none, none], (List (List PV)), rFilled_D, rFilled_E, true, .s⟩
def rFilled_cfg : List (Nat × LC) := [(3, ⟨[1, 5, 10, 11], [], [], []⟩),
  (1003000, ⟨[5], [], [], []⟩)]
def rFilled_pat : Nat → Option SP
  | 3 => some ⟨sparse .undef [(1, (.val (.int .i64))), (5, (.ow 0)), (10, (.val (.int .i64))), (11, (.val (.int .i64)))] 0 20, [(.row 1)], []⟩
  | _ => none
def rFilled_patj : Nat → Option SP
  | _ => none
def rFilled_L3 (n : Nat) (ls : List Leaf) (R : Type) (k : Ex → St → Option R) : Option R :=
  match ls with
  | [.int x4, .int i5, .int i6, .rows es7] => rFilled_l3 n x4 i5 i6 es7 (fun y1010 => k (.exit 0) ⟨sparse .undef [(5, (TV.ow 0))] 0 20, [(Ob.row y1010 1)], []⟩)
  | _ => none
def rFilled_L (n key : Nat) (ls : List Leaf) (R : Type) (k : Ex → St → Option R) : Option R :=
  match key with
  | 3 => rFilled_L3 n ls R k
  | _ => none
def rFilled_J (n key : Nat) (ls : List Leaf) (R : Type) (k : Ex → St → Option R) : Option R :=
  match key with
  | _ => none
def rFilled_on : Code → Bool := fun _ => false
def rFilled_Λ : Nat → Loops := patL (normBy rFilled_cfg) rFilled_pat rFilled_L (normJ rFilled_cfg) rFilled_on rFilled_patj rFilled_J
theorem rFilled_step3 (n : Nat) (x4 : Int) (i5 : Int) (i6 : Int) (es7 : List (List PV))  (R : Type) (k : Ex → St → Option R) :
    roundK T G0 (ctrOf rFilled_Γ) (normBy rFilled_cfg) (rFilled_Λ n) (codeAt [1, 1, 0, 1, 0, 0] (bodyOf Tryd.f68)) (buildSt ⟨sparse .undef [(1, (.val (.int .i64))), (5, (.ow 0)), (10, (.val (.int .i64))), (11, (.val (.int .i64)))] 0 20, [(.row 1)], []⟩ [.int x4, .int i5, .int i6, .rows es7]) R k = rFilled_L3 (n + 1) [.int x4, .int i5, .int i6, .rows es7] R k := by kernel_rfl
theorem rFilled_eq (n : Nat) (n1 : Int) (x2 : Int) :
    funK T G0 (ctrOf rFilled_Γ) (rFilled_Λ n) .s true [none, none] (funOf Tryd.f68) [(PV.int .i64 n1), (PV.int .i64 x2)] = rFilled_b n  n1 x2 (fun a0 => if (noMem (rFilled_E a0).1 && noMemL (rFilled_E a0).2) = true then some (rFilled_E a0) else none) := by kernel_rfl
theorem rFilled_inv {ps : List PV} {y : (List (List PV))} (h : rFilled_D ps = some y) : ∃ (n1 : Int) (x2 : Int), ps = [(PV.int .i64 n1), (PV.int .i64 x2)] := by
  unfold rFilled_D at h
  split at h
  · exact ⟨_, _, rfl⟩
  · cases h
theorem rFilled_loops : loopsOf (bodyOf Tryd.f68) = [codeAt [1, 1, 0, 1, 0, 0] (bodyOf Tryd.f68)] := by kernel_rfl
theorem rFilled_holds (hΓ : HoldsAll Tryd.prog G0 rFilled_Γ) (hok : ∀ (n1 : Int) (x2 : Int) (y : (List (List PV))), sFilled n1 x2 = some y → ∃ n, ∀ (R : Type) (k : List (List PV) → Option R), rFilled_b n  n1 x2 k = k y) (hno : ∀ (n1 : Int) (x2 : Int) (y : (List (List PV))), sFilled n1 x2 = some y → (noMem (rFilled_E y).1 && noMemL (rFilled_E y).2) = true) : Holds Tryd.prog G0 68 rFilled_C := by
  refine fun_pat mixed tOk (ctrOf_ok hΓ) Tryd.func68 rfl rfl rfl rfl (F := funOf Tryd.f68) (normBy_ok rFilled_cfg) (pat := rFilled_pat) (L := rFilled_L) (normJ_ok rFilled_cfg) (on := rFilled_on) (patj := rFilled_patj) (J := rFilled_J) (fun c hc ls R k => ?_) (fun c hc p hp m ls R k r h => ?_) (fun c hc p hp m ls R k r h => ?_) (fun ps x h => ?_)
  · rw [show (funOf Tryd.f68).code = bodyOf Tryd.f68 from rfl, rFilled_loops] at hc
    simp only [List.mem_cons, List.not_mem_nil, or_false] at hc
    rcases hc with rfl
    · show rFilled_L3 0 ls R k = none
      unfold rFilled_L3
      split
      · rfl
      · rfl
  · rw [show (funOf Tryd.f68).code = bodyOf Tryd.f68 from rfl, rFilled_loops] at hc
    simp only [List.mem_cons, List.not_mem_nil, or_false] at hc
    rcases hc with rfl
    · have hp' : p = ⟨sparse .undef [(1, (.val (.int .i64))), (5, (.ow 0)), (10, (.val (.int .i64))), (11, (.val (.int .i64)))] 0 20, [(.row 1)], []⟩ := (Option.some.inj (hp : some _ = some p)).symm
      subst hp'
      change rFilled_L3 (m + 1) ls R k = some r at h
      have h' := h
      unfold rFilled_L3 at h'
      split at h'
      · exact (rFilled_step3 m _ _ _ _ R k).trans h
      · cases h'
  · cases (List.mem_filter.1 hc).2
  · obtain ⟨y, hy, hx⟩ := bind_inv h
    cases hx
    obtain ⟨n1, x2, rfl⟩ := rFilled_inv hy
    obtain ⟨n, hn⟩ := hok n1 x2 y hy
    exact ⟨n, (rFilled_eq n n1 x2).trans ((hn _ _).trans (if_pos (hno n1 x2 y hy)))⟩

/-! ## drayman/draymanref01.NewPlan -/
def rNewPlan_q5 {R : Type} (n20 : Int) (m21 : Int) (i22 : Int) (k0 : Int → List (List PV) → List (List PV) → List (List PV) → List (List PV) → List (List PV) → List (List PV) → Option R) : Option R :=
  meet (
    if n20 = n20 ∧ 0 ≤ n20 ∧ n20 * 24 ≤ maxBytes ∧ 1 = 1 then
      Option.bind (sFilled m21 (-1)) fun y23 =>
      Option.bind (sFilled n20 (-1)) fun y24 =>
      Option.bind (sFilled n20 0) fun y25 =>
      Option.bind (sFilled m21 0) fun y26 =>
      Option.bind (sFilled n20 0) fun y27 =>
      k0 0 (List.replicate (Int.toNat n20) [(PV.fs [])]) y23 y24 y25 y26 y27
    else none) (
    Option.bind (sFilled m21 (-1)) fun y28 =>
    meet (
      if n20 = n20 ∧ 0 ≤ n20 ∧ n20 * 24 ≤ maxBytes ∧ 1 = 1 then
        Option.bind (sFilled n20 (-1)) fun y29 =>
        Option.bind (sFilled n20 0) fun y30 =>
        Option.bind (sFilled m21 0) fun y31 =>
        Option.bind (sFilled n20 0) fun y32 =>
        k0 0 (List.replicate (Int.toNat n20) [(PV.fs [])]) y28 y29 y30 y31 y32
      else none) (
      Option.bind (sFilled n20 (-1)) fun y33 =>
      meet (
        if n20 = n20 ∧ 0 ≤ n20 ∧ n20 * 24 ≤ maxBytes ∧ 1 = 1 then
          Option.bind (sFilled n20 0) fun y34 =>
          Option.bind (sFilled m21 0) fun y35 =>
          Option.bind (sFilled n20 0) fun y36 =>
          k0 0 (List.replicate (Int.toNat n20) [(PV.fs [])]) y28 y33 y34 y35 y36
        else none) (
        Option.bind (sFilled n20 0) fun y37 =>
        meet (
          if n20 = n20 ∧ 0 ≤ n20 ∧ n20 * 24 ≤ maxBytes ∧ 1 = 1 then
            Option.bind (sFilled m21 0) fun y38 =>
            Option.bind (sFilled n20 0) fun y39 =>
            k0 0 (List.replicate (Int.toNat n20) [(PV.fs [])]) y28 y33 y37 y38 y39
          else none) (
          Option.bind (sFilled m21 0) fun y40 =>
          meet (
            if n20 = n20 ∧ 0 ≤ n20 ∧ n20 * 24 ≤ maxBytes ∧ 1 = 1 then
              Option.bind (sFilled n20 0) fun y41 =>
              k0 0 (List.replicate (Int.toNat n20) [(PV.fs [])]) y28 y33 y37 y40 y41
            else none) (
            Option.bind (sFilled n20 0) fun y42 =>
            if n20 = n20 ∧ 0 ≤ n20 ∧ n20 * 24 ≤ maxBytes ∧ 1 = 1 then
              k0 0 (List.replicate (Int.toNat n20) [(PV.fs [])]) y28 y33 y37 y40 y42
            else none)))))
def rNewPlan_b {R : Type} (i1 : List (List PV)) (i2 : List (List PV)) (i3 : List (List PV)) (i4 : List (List PV)) (k : List (List PV) → List (List PV) → List (List PV) → List (List PV) → List (List PV) → List (List PV) → Int → Option R) : Option R :=
  Option.bind (sCheckInst i1 i2 i3 i4) fun y5 =>
  cond (!y5) (
    k [] [] [] [] [] [] 0) (
    meet (
      rNewPlan_q5 (i1.length : Int) (IntKind.i64.wrap ((i2.length : Int) + (1 : Int))) 0
        (fun (i6 : Int) (es7 : List (List PV)) (es8 : List (List PV)) (es9 : List (List PV)) (es10 : List (List PV)) (es11 : List (List PV)) (es12 : List (List PV)) =>
          k es7 es8 es9 es10 es11 es12 i6)) (
      rNewPlan_q5 (i1.length : Int) (IntKind.i64.wrap ((i2.length : Int) + (1 : Int))) 0
        (fun (i13 : Int) (es14 : List (List PV)) (es15 : List (List PV)) (es16 : List (List PV)) (es17 : List (List PV)) (es18 : List (List PV)) (es19 : List (List PV)) =>
          k es14 es15 es16 es17 es18 es19 i13)))
def rNewPlan_E (y : (List (List PV)) × (List (List PV)) × (List (List PV)) × (List (List PV)) × (List (List PV)) × (List (List PV)) × Int) : PV × List PV := ((PV.agg [(PV.fs y.1), (PV.fs y.2.1), (PV.fs y.2.2.1), (PV.fs y.2.2.2.1), (PV.fs y.2.2.2.2.1), (PV.fs y.2.2.2.2.2.1), (PV.int .i64 y.2.2.2.2.2.2)]), [])
def rNewPlan_D : List PV → Option ((List (List PV)) × (List (List PV)) × (List (List PV)) × (List (List PV)) × (List (List PV)) × (List (List PV)) × Int)
  | [(PV.agg [(PV.fs i1), (PV.fs i2), (PV.fs i3), (PV.fs i4)])] => sNewPlan i1 i2 i3 i4
  | _ => none
def rNewPlan_Γ : List (Nat × Cal) := [(67, .ctr rCheckInst_C), (68, .ctr rFilled_C)]
def rNewPlan_C : Ctr := ⟨[none], (List (List PV)) × (List (List PV)) × (List (List PV)) × (List (List PV)) × (List (List PV)) × (List (List PV)) × Int, rNewPlan_D, rNewPlan_E, false, .d⟩
def rNewPlan_cfg : List (Nat × LC) := [(4000005, ⟨[2, 3, 4], [], [], []⟩),
  (6000005, ⟨[2], [], [], []⟩)]
def rNewPlan_pat : Nat → Option SP
  | _ => none
def rNewPlan_patj : Nat → Option SP
  | 5 => some ⟨sparse .undef [(2, (.ref 0 0)), (3, (.val (.int .i64))), (4, (.val (.int .i64)))] 0 29, [(.box [(.nil 1), (.nil 1), (.nil 1), (.nil 1), (.nil 1), (.nil 1), (.val (.int .i64))])], []⟩
  | _ => none
def rNewPlan_J5 (n : Nat) (ls : List Leaf) (R : Type) (k : Ex → St → Option R) : Option R :=
  match ls with
  | [.int n20, .int m21, .int i22] => rNewPlan_q5 n20 m21 i22 (fun y1043 y1044 y1045 y1046 y1047 y1048 y1049 => k .ret ⟨sparse .undef [(2, (TV.ref 0 0))] 0 29, [(Ob.box [(TV.ow 1), (TV.ow 2), (TV.ow 3), (TV.ow 4), (TV.ow 5), (TV.ow 6), (TV.val (PV.int .i64 y1043))]), (Ob.row y1044 1), (Ob.row y1045 1), (Ob.row y1046 1), (Ob.row y1047 1), (Ob.row y1048 1), (Ob.row y1049 1)], []⟩)
  | _ => none
def rNewPlan_L (n key : Nat) (ls : List Leaf) (R : Type) (k : Ex → St → Option R) : Option R :=
  match key with
  | _ => none
def rNewPlan_J (n key : Nat) (ls : List Leaf) (R : Type) (k : Ex → St → Option R) : Option R :=
  match key with
  | 5 => rNewPlan_J5 n ls R k
  | _ => none
def rNewPlan_on : Code → Bool := onKeys [5]
def rNewPlan_Λ : Nat → Loops := patL (normBy rNewPlan_cfg) rNewPlan_pat rNewPlan_L (normJ rNewPlan_cfg) rNewPlan_on rNewPlan_patj rNewPlan_J
theorem rNewPlan_stepq5 (n : Nat) (n20 : Int) (m21 : Int) (i22 : Int)  (R : Type) (k : Ex → St → Option R) :
    joinK T G0 (ctrOf rNewPlan_Γ) (normJ rNewPlan_cfg) (rNewPlan_Λ n) (codeAt [1, 1, 1] (bodyOf Tryd.f44)) (buildSt ⟨sparse .undef [(2, (.ref 0 0)), (3, (.val (.int .i64))), (4, (.val (.int .i64)))] 0 29, [(.box [(.nil 1), (.nil 1), (.nil 1), (.nil 1), (.nil 1), (.nil 1), (.val (.int .i64))])], []⟩ [.int n20, .int m21, .int i22]) R k = rNewPlan_J5 n [.int n20, .int m21, .int i22] R k := by kernel_rfl
theorem rNewPlan_eq (i1 : List (List PV)) (i2 : List (List PV)) (i3 : List (List PV)) (i4 : List (List PV)) :
    funK T G0 (ctrOf rNewPlan_Γ) (rNewPlan_Λ 0) .d false [none] (funOf Tryd.f44) [(PV.agg [(PV.fs i1), (PV.fs i2), (PV.fs i3), (PV.fs i4)])] = rNewPlan_b  i1 i2 i3 i4 (fun a0 a1 a2 a3 a4 a5 a6 => some (rNewPlan_E (a0, a1, a2, a3, a4, a5, a6))) := by kernel_rfl
theorem rNewPlan_inv {ps : List PV} {y : (List (List PV)) × (List (List PV)) × (List (List PV)) × (List (List PV)) × (List (List PV)) × (List (List PV)) × Int} (h : rNewPlan_D ps = some y) : ∃ (i1 : List (List PV)) (i2 : List (List PV)) (i3 : List (List PV)) (i4 : List (List PV)), ps = [(PV.agg [(PV.fs i1), (PV.fs i2), (PV.fs i3), (PV.fs i4)])] := by
  unfold rNewPlan_D at h
  split at h
  · exact ⟨_, _, _, _, rfl⟩
  · cases h
theorem rNewPlan_loops : loopsOf (bodyOf Tryd.f44) = [] := by kernel_rfl
theorem rNewPlan_joins : (joinsOf (bodyOf Tryd.f44)).filter rNewPlan_on = [codeAt [1, 1, 1] (bodyOf Tryd.f44)] := by kernel_rfl
theorem rNewPlan_holds (hΓ : HoldsAll Tryd.prog G0 rNewPlan_Γ) (hok : ∀ (i1 : List (List PV)) (i2 : List (List PV)) (i3 : List (List PV)) (i4 : List (List PV)) (y : (List (List PV)) × (List (List PV)) × (List (List PV)) × (List (List PV)) × (List (List PV)) × (List (List PV)) × Int), sNewPlan i1 i2 i3 i4 = some y → ∀ (R : Type) (k : List (List PV) → List (List PV) → List (List PV) → List (List PV) → List (List PV) → List (List PV) → Int → Option R), rNewPlan_b  i1 i2 i3 i4 k = k y.1 y.2.1 y.2.2.1 y.2.2.2.1 y.2.2.2.2.1 y.2.2.2.2.2.1 y.2.2.2.2.2.2) : Holds Tryd.prog G0 44 rNewPlan_C := by
  refine fun_pat mixed tOk (ctrOf_ok hΓ) Tryd.func44 rfl rfl rfl rfl (F := funOf Tryd.f44) (normBy_ok rNewPlan_cfg) (pat := rNewPlan_pat) (L := rNewPlan_L) (normJ_ok rNewPlan_cfg) (on := rNewPlan_on) (patj := rNewPlan_patj) (J := rNewPlan_J) (fun c hc ls R k => ?_) (fun c hc p hp m ls R k r h => ?_) (fun c hc p hp m ls R k r h => ?_) (fun ps x h => ?_)
  · rw [show (funOf Tryd.f44).code = bodyOf Tryd.f44 from rfl, rNewPlan_loops] at hc
    cases hc
  · rw [show (funOf Tryd.f44).code = bodyOf Tryd.f44 from rfl, rNewPlan_loops] at hc
    cases hc
  · rw [show (funOf Tryd.f44).code = bodyOf Tryd.f44 from rfl, rNewPlan_joins] at hc
    simp only [List.mem_cons, List.not_mem_nil, or_false] at hc
    rcases hc with rfl
    · have hp' : p = ⟨sparse .undef [(2, (.ref 0 0)), (3, (.val (.int .i64))), (4, (.val (.int .i64)))] 0 29, [(.box [(.nil 1), (.nil 1), (.nil 1), (.nil 1), (.nil 1), (.nil 1), (.val (.int .i64))])], []⟩ := (Option.some.inj (hp : some _ = some p)).symm
      subst hp'
      change rNewPlan_J5 m ls R k = some r at h
      have h' := h
      unfold rNewPlan_J5 at h'
      split at h'
      · exact (rNewPlan_stepq5 m _ _ _ R k).trans h
      · cases h'
  · obtain ⟨y, hy, hx⟩ := bind_inv h
    cases hx
    obtain ⟨i1, i2, i3, i4, rfl⟩ := rNewPlan_inv hy
    exact ⟨0, (rNewPlan_eq i1 i2 i3 i4).trans (hok i1 i2 i3 i4 y hy _ _)⟩

/-! ## drayman/draymanref01.Mate -/
def rMate_l2 {R : Type} : Nat → Int → List (List PV) → Int → Int → (Int → Option R) → (Unit → Option R) → Option R
  | 0, _, _, _, _, _, _ => none
  | n + 1, stop7, es8, i9, i10, k0, k1 =>
    cond (decide (i10 < i9)) (
      Option.bind (idx es8 i10) fun e11 =>
      if e11.length = 2 then
        Option.bind (subAgg e11 0 2) fun p12 =>
        if (PV.isAgg p12 2) = true then
          Option.bind ((PV.cells p12)[0]?) fun c13 =>
          Option.bind (PV.asI .i64 c13) fun n14 =>
          cond (n14 == stop7) (
            Option.bind ((PV.cells p12)[1]?) fun c15 =>
            Option.bind (PV.asI .i64 c15) fun n16 =>
            k0 n16) (
            Option.bind ((PV.cells p12)[1]?) fun c17 =>
            Option.bind (PV.asI .i64 c17) fun n18 =>
            cond (n18 == stop7) (
              Option.bind ((PV.cells p12)[0]?) fun c19 =>
              Option.bind (PV.asI .i64 c19) fun n20 =>
              k0 n20) (
              rMate_l2 n stop7 es8 i9 (IntKind.i64.wrap (i10 + (1 : Int))) k0 k1))
        else none
      else none) (
      k1 ())
def rMate_b {R : Type} (n : Nat) (i1 : List (List PV)) (i2 : List (List PV)) (i3 : List (List PV)) (i4 : List (List PV)) (stop5 : Int) (k : Int → Option R) : Option R :=
  rMate_l2 n stop5 i3 (i3.length : Int) 0 k
    (fun (_ : Unit) =>
      k 0)
def rMate_E (y : Int) : PV × List PV := ((PV.int .i64 y), [])
def rMate_D : List PV → Option (Int)
  | [(PV.agg [(PV.fs i1), (PV.fs i2), (PV.fs i3), (PV.fs i4)]), (PV.int .i64 stop5)] => sMate i1 i2 i3 i4 stop5
  | _ => none
def rMate_Γ : List (Nat × Cal) := []
def rMate_C : Ctr := ⟨[none, none], Int, rMate_D, rMate_E, true, .d⟩
def rMate_cfg : List (Nat × LC) := [(2, ⟨[1, 8, 9, 10], [], [], []⟩),
  (2000002, ⟨[4], [], [], []⟩),
  (1002000, ⟨[], [], [], []⟩)]
def rMate_pat : Nat → Option SP
  | 2 => some ⟨sparse .undef [(1, (.val (.int .i64))), (8, (.val .fs)), (9, (.val (.int .i64))), (10, (.val (.int .i64)))] 0 27, [], []⟩
  | _ => none
def rMate_patj : Nat → Option SP
  | _ => none
def rMate_L2 (n : Nat) (ls : List Leaf) (R : Type) (k : Ex → St → Option R) : Option R :=
  match ls with
  | [.int stop7, .rows es8, .int i9, .int i10] => rMate_l2 n stop7 es8 i9 i10 (fun y1021 => k .ret ⟨sparse .undef [(4, (TV.val (PV.int .i64 y1021)))] 0 27, [], []⟩)
      (fun _ => k (.exit 0) ⟨sparse .undef [] 0 27, [], []⟩)
  | _ => none
def rMate_L (n key : Nat) (ls : List Leaf) (R : Type) (k : Ex → St → Option R) : Option R :=
  match key with
  | 2 => rMate_L2 n ls R k
  | _ => none
def rMate_J (n key : Nat) (ls : List Leaf) (R : Type) (k : Ex → St → Option R) : Option R :=
  match key with
  | _ => none
def rMate_on : Code → Bool := fun _ => false
def rMate_Λ : Nat → Loops := patL (normBy rMate_cfg) rMate_pat rMate_L (normJ rMate_cfg) rMate_on rMate_patj rMate_J
theorem rMate_step2 (n : Nat) (stop7 : Int) (es8 : List (List PV)) (i9 : Int) (i10 : Int)  (R : Type) (k : Ex → St → Option R) :
    roundK T G0 (ctrOf rMate_Γ) (normBy rMate_cfg) (rMate_Λ n) (codeAt [1, 0, 1, 0, 0] (bodyOf Tryd.f69)) (buildSt ⟨sparse .undef [(1, (.val (.int .i64))), (8, (.val .fs)), (9, (.val (.int .i64))), (10, (.val (.int .i64)))] 0 27, [], []⟩ [.int stop7, .rows es8, .int i9, .int i10]) R k = rMate_L2 (n + 1) [.int stop7, .rows es8, .int i9, .int i10] R k := by kernel_rfl
theorem rMate_eq (n : Nat) (i1 : List (List PV)) (i2 : List (List PV)) (i3 : List (List PV)) (i4 : List (List PV)) (stop5 : Int) :
    funK T G0 (ctrOf rMate_Γ) (rMate_Λ n) .d true [none, none] (funOf Tryd.f69) [(PV.agg [(PV.fs i1), (PV.fs i2), (PV.fs i3), (PV.fs i4)]), (PV.int .i64 stop5)] = rMate_b n  i1 i2 i3 i4 stop5 (fun a0 => some (rMate_E a0)) := by kernel_rfl
theorem rMate_inv {ps : List PV} {y : Int} (h : rMate_D ps = some y) : ∃ (i1 : List (List PV)) (i2 : List (List PV)) (i3 : List (List PV)) (i4 : List (List PV)) (stop5 : Int), ps = [(PV.agg [(PV.fs i1), (PV.fs i2), (PV.fs i3), (PV.fs i4)]), (PV.int .i64 stop5)] := by
  unfold rMate_D at h
  split at h
  · exact ⟨_, _, _, _, _, rfl⟩
  · cases h
theorem rMate_loops : loopsOf (bodyOf Tryd.f69) = [codeAt [1, 0, 1, 0, 0] (bodyOf Tryd.f69)] := by kernel_rfl
theorem rMate_holds (hΓ : HoldsAll Tryd.prog G0 rMate_Γ) (hok : ∀ (i1 : List (List PV)) (i2 : List (List PV)) (i3 : List (List PV)) (i4 : List (List PV)) (stop5 : Int) (y : Int), sMate i1 i2 i3 i4 stop5 = some y → ∃ n, ∀ (R : Type) (k : Int → Option R), rMate_b n  i1 i2 i3 i4 stop5 k = k y) : Holds Tryd.prog G0 69 rMate_C := by
  refine fun_pat mixed tOk (ctrOf_ok hΓ) Tryd.func69 rfl rfl rfl rfl (F := funOf Tryd.f69) (normBy_ok rMate_cfg) (pat := rMate_pat) (L := rMate_L) (normJ_ok rMate_cfg) (on := rMate_on) (patj := rMate_patj) (J := rMate_J) (fun c hc ls R k => ?_) (fun c hc p hp m ls R k r h => ?_) (fun c hc p hp m ls R k r h => ?_) (fun ps x h => ?_)
  · rw [show (funOf Tryd.f69).code = bodyOf Tryd.f69 from rfl, rMate_loops] at hc
    simp only [List.mem_cons, List.not_mem_nil, or_false] at hc
    rcases hc with rfl
    · show rMate_L2 0 ls R k = none
      unfold rMate_L2
      split
      · rfl
      · rfl
  · rw [show (funOf Tryd.f69).code = bodyOf Tryd.f69 from rfl, rMate_loops] at hc
    simp only [List.mem_cons, List.not_mem_nil, or_false] at hc
    rcases hc with rfl
    · have hp' : p = ⟨sparse .undef [(1, (.val (.int .i64))), (8, (.val .fs)), (9, (.val (.int .i64))), (10, (.val (.int .i64)))] 0 27, [], []⟩ := (Option.some.inj (hp : some _ = some p)).symm
      subst hp'
      change rMate_L2 (m + 1) ls R k = some r at h
      have h' := h
      unfold rMate_L2 at h'
      split at h'
      · exact (rMate_step2 m _ _ _ _ R k).trans h
      · cases h'
  · cases (List.mem_filter.1 hc).2
  · obtain ⟨y, hy, hx⟩ := bind_inv h
    cases hx
    obtain ⟨i1, i2, i3, i4, stop5, rfl⟩ := rMate_inv hy
    obtain ⟨n, hn⟩ := hok i1 i2 i3 i4 stop5 y hy
    exact ⟨n, (rMate_eq n i1 i2 i3 i4 stop5).trans (hn _ _)⟩

/-! ## drayman/draymanref01.First -/
def rFirst_l2 {R : Type} : Nat → Int → List (List PV) → Int → Int → (Bool → Option R) → (Unit → Option R) → Option R
  | 0, _, _, _, _, _, _ => none
  | n + 1, stop7, es8, i9, i10, k0, k1 =>
    cond (decide (i10 < i9)) (
      Option.bind (idx es8 i10) fun e11 =>
      if e11.length = 2 then
        Option.bind (subAgg e11 0 2) fun p12 =>
        if (PV.isAgg p12 2) = true then
          Option.bind ((PV.cells p12)[0]?) fun c13 =>
          Option.bind (PV.asI .i64 c13) fun n14 =>
          cond (n14 == stop7) (
            k0 true) (
            rFirst_l2 n stop7 es8 i9 (IntKind.i64.wrap (i10 + (1 : Int))) k0 k1)
        else none
      else none) (
      k1 ())
def rFirst_b {R : Type} (n : Nat) (i1 : List (List PV)) (i2 : List (List PV)) (i3 : List (List PV)) (i4 : List (List PV)) (stop5 : Int) (k : Bool → Option R) : Option R :=
  rFirst_l2 n stop5 i3 (i3.length : Int) 0 k
    (fun (_ : Unit) =>
      k false)
def rFirst_E (y : Bool) : PV × List PV := ((PV.bool y), [])
def rFirst_D : List PV → Option (Bool)
  | [(PV.agg [(PV.fs i1), (PV.fs i2), (PV.fs i3), (PV.fs i4)]), (PV.int .i64 stop5)] => sFirst i1 i2 i3 i4 stop5
  | _ => none
def rFirst_Γ : List (Nat × Cal) := []
def rFirst_C : Ctr := ⟨[none, none], Bool, rFirst_D, rFirst_E, true, .d⟩
def rFirst_cfg : List (Nat × LC) := [(2, ⟨[1, 8, 9, 10], [], [], []⟩),
  (2000002, ⟨[4], [], [], []⟩),
  (1002000, ⟨[], [], [], []⟩)]
def rFirst_pat : Nat → Option SP
  | 2 => some ⟨sparse .undef [(1, (.val (.int .i64))), (8, (.val .fs)), (9, (.val (.int .i64))), (10, (.val (.int .i64)))] 0 19, [], []⟩
  | _ => none
def rFirst_patj : Nat → Option SP
  | _ => none
def rFirst_L2 (n : Nat) (ls : List Leaf) (R : Type) (k : Ex → St → Option R) : Option R :=
  match ls with
  | [.int stop7, .rows es8, .int i9, .int i10] => rFirst_l2 n stop7 es8 i9 i10 (fun y1015 => k .ret ⟨sparse .undef [(4, (TV.val (PV.bool y1015)))] 0 19, [], []⟩)
      (fun _ => k (.exit 0) ⟨sparse .undef [] 0 19, [], []⟩)
  | _ => none
def rFirst_L (n key : Nat) (ls : List Leaf) (R : Type) (k : Ex → St → Option R) : Option R :=
  match key with
  | 2 => rFirst_L2 n ls R k
  | _ => none
def rFirst_J (n key : Nat) (ls : List Leaf) (R : Type) (k : Ex → St → Option R) : Option R :=
  match key with
  | _ => none
def rFirst_on : Code → Bool := fun _ => false
def rFirst_Λ : Nat → Loops := patL (normBy rFirst_cfg) rFirst_pat rFirst_L (normJ rFirst_cfg) rFirst_on rFirst_patj rFirst_J
theorem rFirst_step2 (n : Nat) (stop7 : Int) (es8 : List (List PV)) (i9 : Int) (i10 : Int)  (R : Type) (k : Ex → St → Option R) :
    roundK T G0 (ctrOf rFirst_Γ) (normBy rFirst_cfg) (rFirst_Λ n) (codeAt [1, 0, 1, 0, 0] (bodyOf Tryd.f70)) (buildSt ⟨sparse .undef [(1, (.val (.int .i64))), (8, (.val .fs)), (9, (.val (.int .i64))), (10, (.val (.int .i64)))] 0 19, [], []⟩ [.int stop7, .rows es8, .int i9, .int i10]) R k = rFirst_L2 (n + 1) [.int stop7, .rows es8, .int i9, .int i10] R k := by kernel_rfl
theorem rFirst_eq (n : Nat) (i1 : List (List PV)) (i2 : List (List PV)) (i3 : List (List PV)) (i4 : List (List PV)) (stop5 : Int) :
    funK T G0 (ctrOf rFirst_Γ) (rFirst_Λ n) .d true [none, none] (funOf Tryd.f70) [(PV.agg [(PV.fs i1), (PV.fs i2), (PV.fs i3), (PV.fs i4)]), (PV.int .i64 stop5)] = rFirst_b n  i1 i2 i3 i4 stop5 (fun a0 => some (rFirst_E a0)) := by kernel_rfl
theorem rFirst_inv {ps : List PV} {y : Bool} (h : rFirst_D ps = some y) : ∃ (i1 : List (List PV)) (i2 : List (List PV)) (i3 : List (List PV)) (i4 : List (List PV)) (stop5 : Int), ps = [(PV.agg [(PV.fs i1), (PV.fs i2), (PV.fs i3), (PV.fs i4)]), (PV.int .i64 stop5)] := by
  unfold rFirst_D at h
  split at h
  · exact ⟨_, _, _, _, _, rfl⟩
  · cases h
theorem rFirst_loops : loopsOf (bodyOf Tryd.f70) = [codeAt [1, 0, 1, 0, 0] (bodyOf Tryd.f70)] := by kernel_rfl
theorem rFirst_holds (hΓ : HoldsAll Tryd.prog G0 rFirst_Γ) (hok : ∀ (i1 : List (List PV)) (i2 : List (List PV)) (i3 : List (List PV)) (i4 : List (List PV)) (stop5 : Int) (y : Bool), sFirst i1 i2 i3 i4 stop5 = some y → ∃ n, ∀ (R : Type) (k : Bool → Option R), rFirst_b n  i1 i2 i3 i4 stop5 k = k y) : Holds Tryd.prog G0 70 rFirst_C := by
  refine fun_pat mixed tOk (ctrOf_ok hΓ) Tryd.func70 rfl rfl rfl rfl (F := funOf Tryd.f70) (normBy_ok rFirst_cfg) (pat := rFirst_pat) (L := rFirst_L) (normJ_ok rFirst_cfg) (on := rFirst_on) (patj := rFirst_patj) (J := rFirst_J) (fun c hc ls R k => ?_) (fun c hc p hp m ls R k r h => ?_) (fun c hc p hp m ls R k r h => ?_) (fun ps x h => ?_)
  · rw [show (funOf Tryd.f70).code = bodyOf Tryd.f70 from rfl, rFirst_loops] at hc
    simp only [List.mem_cons, List.not_mem_nil, or_false] at hc
    rcases hc with rfl
    · show rFirst_L2 0 ls R k = none
      unfold rFirst_L2
      split
      · rfl
      · rfl
  · rw [show (funOf Tryd.f70).code = bodyOf Tryd.f70 from rfl, rFirst_loops] at hc
    simp only [List.mem_cons, List.not_mem_nil, or_false] at hc
    rcases hc with rfl
    · have hp' : p = ⟨sparse .undef [(1, (.val (.int .i64))), (8, (.val .fs)), (9, (.val (.int .i64))), (10, (.val (.int .i64)))] 0 19, [], []⟩ := (Option.some.inj (hp : some _ = some p)).symm
      subst hp'
      change rFirst_L2 (m + 1) ls R k = some r at h
      have h' := h
      unfold rFirst_L2 at h'
      split at h'
      · exact (rFirst_step2 m _ _ _ _ R k).trans h
      · cases h'
  · cases (List.mem_filter.1 hc).2
  · obtain ⟨y, hy, hx⟩ := bind_inv h
    cases hx
    obtain ⟨i1, i2, i3, i4, stop5, rfl⟩ := rFirst_inv hy
    obtain ⟨n, hn⟩ := hok i1 i2 i3 i4 stop5 y hy
    exact ⟨n, (rFirst_eq n i1 i2 i3 i4 stop5).trans (hn _ _)⟩

end
end Go.Proofs.YtkeklbicmfhemaaDoorV
