/- Of this claim's texts what it needs, part 10. -/
import Derived.Test.YtkeklbicmfhemaaDoorKScriptTellsRow9
namespace Go.Proofs.YtkeklbicmfhemaaDoorV
open Go
set_option maxRecDepth 100000
set_option linter.unusedVariables false
set_option linter.unusedSimpArgs false
noncomputable section
def rWithin_b {R : Type} (n1 : Int) (low2 : Int) (high3 : Int) (k : Bool → Option R) : Option R :=
  cond (decide (n1 ≥ low2)) (
    k (decide (n1 ≤ high3))) (
    k false)
def rWithin_E (y : Bool) : PV × List PV := ((PV.bool y), [])
def rWithin_d (n1 : Int) (low2 : Int) (high3 : Int) : Option (Bool) := rWithin_b n1 low2 high3 fun a0 => some a0
def rWithin_D : List PV → Option (Bool)
  | [(PV.int .i64 n1), (PV.int .i64 low2), (PV.int .i64 high3)] => rWithin_d n1 low2 high3
  | _ => none
def rWithin_Γ : List (Nat × Cal) := []
def rWithin_C : Ctr := ⟨[none, none, none], Bool, rWithin_D, rWithin_E, true, .d⟩
theorem rWithin_eq (n1 : Int) (low2 : Int) (high3 : Int) :
    funK T G0 (ctrOf rWithin_Γ) noL .d true [none, none, none] (funOf Tryd.f85) [(PV.int .i64 n1), (PV.int .i64 low2), (PV.int .i64 high3)] = rWithin_b  n1 low2 high3 (fun a0 => some (rWithin_E a0)) := by kernel_rfl
theorem rWithin_inv {ps : List PV} {y : Bool} (h : rWithin_D ps = some y) : ∃ (n1 : Int) (low2 : Int) (high3 : Int), ps = [(PV.int .i64 n1), (PV.int .i64 low2), (PV.int .i64 high3)] := by
  unfold rWithin_D at h
  split at h
  · exact ⟨_, _, _, rfl⟩
  · cases h
theorem rWithin_nat {R : Type} (n1 : Int) (low2 : Int) (high3 : Int) (k : Bool → Option R) : rWithin_b n1 low2 high3 k = Option.bind (rWithin_b n1 low2 high3 fun a0 => some a0) fun y => k y := by
  unfold rWithin_b
  first | rfl | simp only [Option.bind_assoc, bind_cond, bind_ite, Option.bind_some, Option.bind_none]
theorem rWithin_holds (hΓ : HoldsAll Tryd.prog G0 rWithin_Γ) : Holds Tryd.prog G0 85 rWithin_C := by
  refine fun_ok mixed tOk (ctrOf_ok hΓ) Tryd.func85 rfl rfl rfl rfl (F := funOf Tryd.f85) (fun ps x h => ?_)
  obtain ⟨y, hy, hx⟩ := bind_inv h
  cases hx
  obtain ⟨n1, low2, high3, rfl⟩ := rWithin_inv hy
  have hy' : rWithin_d n1 low2 high3 = some y := hy
  refine ⟨noL, noL_ok _, (rWithin_eq n1 low2 high3).trans ?_⟩
  unfold rWithin_d at hy'
  rw [rWithin_nat, hy']
  rfl
def rCheckInst_l36 {R : Type} : Nat → Int → List (List PV) → Int → Int → List (List PV) → Int → Int → List (List PV) → List (List PV) → List (List PV) → List (List PV) → (Bool → Option R) → (List (List PV) → Int → Int → List (List PV) → List (List PV) → List (List PV) → List (List PV) → Option R) → Option R
  | 0, _, _, _, _, _, _, _, _, _, _, _, _, _ => none
  | n + 1, a129, es130, i131, i132, es133, i134, i135, es136, es137, es138, es139, k0, k1 =>
    cond (decide (i135 < i134)) (
      Option.bind (idx es133 i135) fun e140 =>
      if e140.length = 1 then
        Option.bind (e140[0]?) fun c141 =>
        Option.bind (PV.asI .i64 c141) fun n142 =>
        Option.bind (rWithin_d n142 0 1000) fun y143 =>
        cond (!y143) (
          k0 false) (
          cond (a129 == i135) (
            cond (n142 != (0 : Int)) (
              k0 false) (
              rCheckInst_l36 n a129 es130 i131 i132 es133 i134 (IntKind.i64.wrap (i135 + (1 : Int))) es136 es137 es138 es139 k0 k1)) (
            rCheckInst_l36 n a129 es130 i131 i132 es133 i134 (IntKind.i64.wrap (i135 + (1 : Int))) es136 es137 es138 es139 k0 k1))
      else none) (
      k1 es130 i131 i132 es136 es137 es138 es139)
def rCheckInst_l20 {R : Type} : Nat → List (List PV) → Int → Int → PV → Int → List (List PV) → List (List PV) → List (List PV) → List (List PV) → List (PV × PV) → PV → (Bool → Option R) → (List (List PV) → Int → Int → List (List PV) → List (List PV) → List (List PV) → List (List PV) → List (PV × PV) → PV → Option R) → Option R
  | 0, _, _, _, _, _, _, _, _, _, _, _, _, _ => none
  | n + 1, es93, i94, i95, p96, i97, es98, es99, es100, es101, kv102, p103, k0, k1 =>
    cond (decide (i97 < (2 : Int))) (
      Option.bind (PV.asAgg p96) fun cs104 =>
      if 0 ≤ i97 ∧ i97 < 2 then
        Option.bind (cs104[(Int.toNat i97)]?) fun c105 =>
        Option.bind (PV.asI .i64 c105) fun n106 =>
        Option.bind (rWithin_d n106 1 (es99.length : Int)) fun y107 =>
        cond (!y107) (
          k0 false) (
          Option.bind (mget T 3 (PV.int .i64 n106) kv102) fun r108 =>
          Option.bind (PV.asB (Option.getD r108 (PV.bool false))) fun b109 =>
          cond b109 (
            k0 false) (
            Option.bind (mset T 3 (PV.int .i64 n106) (PV.bool true) kv102) fun r110 =>
            rCheckInst_l20 n es93 i94 i95 p96 (IntKind.i64.wrap (i97 + (1 : Int))) es98 es99 es100 es101 r110 p103 k0 k1))
      else none) (
      k1 es93 i94 i95 es98 es99 es100 es101 kv102 p103)
def rCheckInst_l31 {R : Type} : Nat → List (List PV) → Int → Int → List (List PV) → List (List PV) → List (List PV) → List (List PV) → (Bool → Option R) → (Unit → Option R) → Option R
  | 0, _, _, _, _, _, _, _, _, _ => none
  | n + 1, es111, i112, i113, es114, es115, es116, es117, k0, k1 =>
    cond (decide (i113 < i112)) (
      Option.bind (idx es111 i113) fun e118 =>
      if e118.length = 1 then
        Option.bind (e118[0]?) fun c119 =>
        Option.bind (PV.asFs c119) fun es120 =>
        cond ((es120.length : Int) != (es117.length : Int)) (
          k0 false) (
          rCheckInst_l36 n i113 es111 i112 i113 es120 (es120.length : Int) 0 es114 es115 es116 es117 k0
            (fun (es122 : List (List PV)) (i123 : Int) (i124 : Int) (es125 : List (List PV)) (es126 : List (List PV)) (es127 : List (List PV)) (es128 : List (List PV)) =>
              rCheckInst_l31 n es122 i123 (IntKind.i64.wrap (i124 + (1 : Int))) es125 es126 es127 es128 k0 k1))
      else none) (
      k1 ())
def rCheckInst_l17 {R : Type} : Nat → List (List PV) → Int → Int → List (List PV) → List (List PV) → List (List PV) → List (List PV) → List (PV × PV) → (List (List PV) → List (List PV) → List (List PV) → List (List PV) → Option R) → (Bool → Option R) → Option R
  | 0, _, _, _, _, _, _, _, _, _, _ => none
  | n + 1, es63, i64, i65, es66, es67, es68, es69, kv70, k0, k1 =>
    cond (decide (i65 < i64)) (
      Option.bind (idx es63 i65) fun e71 =>
      if e71.length = 2 then
        Option.bind (subAgg e71 0 2) fun p72 =>
        if (PV.isAgg p72 2) = true then
          rCheckInst_l20 n es63 i64 i65 p72 0 es66 es67 es68 es69 kv70 p72 k1
            (fun (es74 : List (List PV)) (i75 : Int) (i76 : Int) (es77 : List (List PV)) (es78 : List (List PV)) (es79 : List (List PV)) (es80 : List (List PV)) (kv81 : List (PV × PV)) (p82 : PV) =>
              Option.bind ((PV.cells p82)[0]?) fun c83 =>
              Option.bind (PV.asI .i64 c83) fun n84 =>
              Option.bind (idx es78 (IntKind.i64.wrap (n84 - (1 : Int)))) fun e85 =>
              if e85.length = 4 then
                Option.bind (e85[0]?) fun c86 =>
                Option.bind (PV.asI .i64 c86) fun n87 =>
                cond (decide (n87 < (0 : Int))) (
                  k1 false) (
                  Option.bind ((PV.cells p82)[1]?) fun c88 =>
                  Option.bind (PV.asI .i64 c88) fun n89 =>
                  Option.bind (idx es78 (IntKind.i64.wrap (n89 - (1 : Int)))) fun e90 =>
                  if e90.length = 4 then
                    Option.bind (e90[0]?) fun c91 =>
                    Option.bind (PV.asI .i64 c91) fun n92 =>
                    cond (n92 != (IntKind.i64.wrap (0 - n87))) (
                      k1 false) (
                      rCheckInst_l17 n es74 i75 (IntKind.i64.wrap (i76 + (1 : Int))) es77 es78 es79 es80 kv81 k0 k1)
                  else none)
              else none)
        else none
      else none) (
      k0 es66 es67 es68 es69)
def rCheckInst_l10 {R : Type} : Nat → List (List PV) → Int → Int → List (List PV) → List (List PV) → List (List PV) → List (List PV) → (Bool → Option R) → (List (List PV) → List (List PV) → List (List PV) → List (List PV) → Option R) → Option R
  | 0, _, _, _, _, _, _, _, _, _ => none
  | n + 1, es41, i42, i43, es44, es45, es46, es47, k0, k1 =>
    cond (decide (i43 < i42)) (
      Option.bind (idx es41 i43) fun e48 =>
      if e48.length = 4 then
        Option.bind (subAgg e48 0 4) fun p49 =>
        if (PV.isAgg p49 4) = true then
          Option.bind ((PV.cells p49)[0]?) fun c50 =>
          Option.bind (PV.asI .i64 c50) fun n51 =>
          Option.bind (rWithin_d n51 (-20) 20) fun y52 =>
          cond (!y52) (
            k0 false) (
            Option.bind ((PV.cells p49)[1]?) fun c53 =>
            Option.bind (PV.asI .i64 c53) fun n54 =>
            Option.bind ((PV.cells p49)[2]?) fun c55 =>
            Option.bind (PV.asI .i64 c55) fun n56 =>
            Option.bind (rWithin_d n54 0 n56) fun y57 =>
            cond (!y57) (
              k0 false) (
              Option.bind ((PV.cells p49)[2]?) fun c58 =>
              Option.bind (PV.asI .i64 c58) fun n59 =>
              cond (decide (n59 > (1000 : Int))) (
                k0 false) (
                Option.bind ((PV.cells p49)[3]?) fun c60 =>
                Option.bind (PV.asI .i64 c60) fun n61 =>
                Option.bind (rWithin_d n61 0 1000) fun y62 =>
                cond (!y62) (
                  k0 false) (
                  rCheckInst_l10 n es41 i42 (IntKind.i64.wrap (i43 + (1 : Int))) es44 es45 es46 es47 k0 k1))))
        else none
      else none) (
      k1 es44 es45 es46 es47)
def rCheckInst_l4 {R : Type} : Nat → List (List PV) → Int → Int → List (List PV) → List (List PV) → List (List PV) → List (List PV) → (Bool → Option R) → (List (List PV) → List (List PV) → List (List PV) → List (List PV) → Option R) → Option R
  | 0, _, _, _, _, _, _, _, _, _ => none
  | n + 1, es22, i23, i24, es25, es26, es27, es28, k0, k1 =>
    cond (decide (i24 < i23)) (
      Option.bind (idx es22 i24) fun e29 =>
      if e29.length = 3 then
        Option.bind (subAgg e29 0 3) fun p30 =>
        if (PV.isAgg p30 3) = true then
          Option.bind ((PV.cells p30)[0]?) fun c31 =>
          Option.bind (PV.asI .i64 c31) fun n32 =>
          Option.bind (rWithin_d n32 0 60) fun y33 =>
          cond (!y33) (
            k0 false) (
            Option.bind ((PV.cells p30)[1]?) fun c34 =>
            Option.bind (PV.asI .i64 c34) fun n35 =>
            Option.bind ((PV.cells p30)[2]?) fun c36 =>
            Option.bind (PV.asI .i64 c36) fun n37 =>
            Option.bind (rWithin_d n35 0 n37) fun y38 =>
            cond (!y38) (
              k0 false) (
              Option.bind ((PV.cells p30)[2]?) fun c39 =>
              Option.bind (PV.asI .i64 c39) fun n40 =>
              cond (decide (n40 > (1000 : Int))) (
                k0 false) (
                rCheckInst_l4 n es22 i23 (IntKind.i64.wrap (i24 + (1 : Int))) es25 es26 es27 es28 k0 k1)))
        else none
      else none) (
      k1 es25 es26 es27 es28)
def rCheckInst_b {R : Type} (n : Nat) (i1 : List (List PV)) (i2 : List (List PV)) (i3 : List (List PV)) (i4 : List (List PV)) (k : Bool → Option R) : Option R :=
  Option.bind (rWithin_d (i1.length : Int) 1 3) fun y5 =>
  cond (!y5) (
    k false) (
    cond (decide ((i2.length : Int) > (10 : Int))) (
      k false) (
      cond ((i4.length : Int) != (IntKind.i64.wrap ((i2.length : Int) + (1 : Int)))) (
        k false) (
        rCheckInst_l4 n i1 (i1.length : Int) 0 i1 i2 i3 i4 k
          (fun (es7 : List (List PV)) (es8 : List (List PV)) (es9 : List (List PV)) (es10 : List (List PV)) =>
            rCheckInst_l10 n es8 (es8.length : Int) 0 es7 es8 es9 es10 k
              (fun (es12 : List (List PV)) (es13 : List (List PV)) (es14 : List (List PV)) (es15 : List (List PV)) =>
                rCheckInst_l17 n es14 (es14.length : Int) 0 es12 es13 es14 es15 ([] : List (PV × PV))
                  (fun (es16 : List (List PV)) (es17 : List (List PV)) (es18 : List (List PV)) (es19 : List (List PV)) =>
                    rCheckInst_l31 n es19 (es19.length : Int) 0 es16 es17 es18 es19 k
                      (fun (_ : Unit) =>
                        k true)) k)))))
def rCheckInst_E (y : Bool) : PV × List PV := ((PV.bool y), [])
def rCheckInst_D : List PV → Option (Bool)
  | [(PV.agg [(PV.fs i1), (PV.fs i2), (PV.fs i3), (PV.fs i4)])] => sCheckInst i1 i2 i3 i4
  | _ => none
def rCheckInst_Γ : List (Nat × Cal) := [(85, .ctr rWithin_C)]
def rCheckInst_C : Ctr := ⟨[none], Bool, rCheckInst_D, rCheckInst_E, true, .d⟩
def rCheckInst_cfg : List (Nat × LC) := [(4, ⟨[1, 39, 40, 41], [], [], []⟩),
  (2000004, ⟨[2], [], [], []⟩),
  (1004000, ⟨[1], [], [], []⟩),
  (10, ⟨[1, 64, 65, 66], [], [], []⟩),
  (2000010, ⟨[2], [], [], []⟩),
  (1010002, ⟨[1], [], [], []⟩),
  (17, ⟨[1, 7, 96, 97, 98], [], [], []⟩),
  (20, ⟨[1, 7, 9, 96, 97, 98, 102, 103], [], [], []⟩),
  (1017004, ⟨[1], [], [], []⟩),
  (2000020, ⟨[2], [], [], []⟩),
  (1020006, ⟨[1, 7, 9, 96, 97, 98], [], [], []⟩),
  (31, ⟨[1, 145, 146, 147], [], [], []⟩),
  (2000017, ⟨[2], [], [], []⟩),
  (2000031, ⟨[2], [], [], []⟩),
  (36, ⟨[1, 13, 145, 146, 147, 158, 159, 160], [], [], []⟩),
  (1031008, ⟨[], [], [], []⟩),
  (2000036, ⟨[2], [], [], []⟩),
  (1036010, ⟨[1, 145, 146, 147], [], [], []⟩)]
def rCheckInst_pat : Nat → Option SP
  | 36 => some ⟨sparse .undef [(1, (.ref 0 0)), (13, (.val (.int .i64))), (145, (.val .fs)), (146, (.val (.int .i64))), (147, (.val (.int .i64))), (158, (.val .fs)), (159, (.val (.int .i64))), (160, (.val (.int .i64)))] 0 179, [(.pbox (.agg [.fs, .fs, .fs, .fs]) 4)], []⟩
  | 20 => some ⟨sparse .undef [(1, (.ref 0 0)), (7, (.mp 1)), (9, (.ref 2 0)), (96, (.val .fs)), (97, (.val (.int .i64))), (98, (.val (.int .i64))), (102, (.val .any)), (103, (.val (.int .i64)))] 0 179, [(.pbox (.agg [.fs, .fs, .fs, .fs]) 4), .map, (.pbox .any 2)], []⟩
  | 31 => some ⟨sparse .undef [(1, (.ref 0 0)), (145, (.val .fs)), (146, (.val (.int .i64))), (147, (.val (.int .i64)))] 0 179, [(.pbox (.agg [.fs, .fs, .fs, .fs]) 4)], []⟩
  | 17 => some ⟨sparse .undef [(1, (.ref 0 0)), (7, (.mp 1)), (96, (.val .fs)), (97, (.val (.int .i64))), (98, (.val (.int .i64)))] 0 179, [(.pbox (.agg [.fs, .fs, .fs, .fs]) 4), .map], []⟩
  | 10 => some ⟨sparse .undef [(1, (.ref 0 0)), (64, (.val .fs)), (65, (.val (.int .i64))), (66, (.val (.int .i64)))] 0 179, [(.pbox (.agg [.fs, .fs, .fs, .fs]) 4)], []⟩
  | 4 => some ⟨sparse .undef [(1, (.ref 0 0)), (39, (.val .fs)), (40, (.val (.int .i64))), (41, (.val (.int .i64)))] 0 179, [(.pbox (.agg [.fs, .fs, .fs, .fs]) 4)], []⟩
  | _ => none
def rCheckInst_patj : Nat → Option SP
  | _ => none
def rCheckInst_L36 (n : Nat) (ls : List Leaf) (R : Type) (k : Ex → St → Option R) : Option R :=
  match ls with
  | [.int a129, .rows es130, .int i131, .int i132, .rows es133, .int i134, .int i135, .rows es136, .rows es137, .rows es138, .rows es139] => rCheckInst_l36 n a129 es130 i131 i132 es133 i134 i135 es136 es137 es138 es139 (fun y1144 => k .ret ⟨sparse .undef [(2, (TV.val (PV.bool y1144)))] 0 179, [], []⟩)
      (fun y1145 y1146 y1147 y1148 y1149 y1150 y1151 => k (.exit 10) ⟨sparse .undef [(1, (TV.ref 0 0)), (145, (TV.val (PV.fs y1145))), (146, (TV.val (PV.int .i64 y1146))), (147, (TV.val (PV.int .i64 y1147)))] 0 179, [(Ob.pbox (PV.agg [(PV.fs y1148), (PV.fs y1149), (PV.fs y1150), (PV.fs y1151)]) 4)], []⟩)
  | _ => none
def rCheckInst_L20 (n : Nat) (ls : List Leaf) (R : Type) (k : Ex → St → Option R) : Option R :=
  match ls with
  | [.rows es93, .int i94, .int i95, .pv p96, .int i97, .rows es98, .rows es99, .rows es100, .rows es101, .kvs kv102, .pv p103] => rCheckInst_l20 n es93 i94 i95 p96 i97 es98 es99 es100 es101 kv102 p103 (fun y2152 => k .ret ⟨sparse .undef [(2, (TV.val (PV.bool y2152)))] 0 179, [], []⟩)
      (fun y2153 y2154 y2155 y2156 y2157 y2158 y2159 y2160 y2161 => k (.exit 6) ⟨sparse .undef [(1, (TV.ref 0 0)), (7, (TV.mp 1)), (9, (TV.ref 2 0)), (96, (TV.val (PV.fs y2153))), (97, (TV.val (PV.int .i64 y2154))), (98, (TV.val (PV.int .i64 y2155)))] 0 179, [(Ob.pbox (PV.agg [(PV.fs y2156), (PV.fs y2157), (PV.fs y2158), (PV.fs y2159)]) 4), (Ob.map y2160), (Ob.pbox y2161 2)], []⟩)
  | _ => none
def rCheckInst_L31 (n : Nat) (ls : List Leaf) (R : Type) (k : Ex → St → Option R) : Option R :=
  match ls with
  | [.rows es111, .int i112, .int i113, .rows es114, .rows es115, .rows es116, .rows es117] => rCheckInst_l31 n es111 i112 i113 es114 es115 es116 es117 (fun y3162 => k .ret ⟨sparse .undef [(2, (TV.val (PV.bool y3162)))] 0 179, [], []⟩)
      (fun _ => k (.exit 8) ⟨sparse .undef [] 0 179, [], []⟩)
  | _ => none
def rCheckInst_L17 (n : Nat) (ls : List Leaf) (R : Type) (k : Ex → St → Option R) : Option R :=
  match ls with
  | [.rows es63, .int i64, .int i65, .rows es66, .rows es67, .rows es68, .rows es69, .kvs kv70] => rCheckInst_l17 n es63 i64 i65 es66 es67 es68 es69 kv70 (fun y4163 y4164 y4165 y4166 => k (.exit 4) ⟨sparse .undef [(1, (TV.ref 0 0))] 0 179, [(Ob.pbox (PV.agg [(PV.fs y4163), (PV.fs y4164), (PV.fs y4165), (PV.fs y4166)]) 4)], []⟩)
      (fun y4167 => k .ret ⟨sparse .undef [(2, (TV.val (PV.bool y4167)))] 0 179, [], []⟩)
  | _ => none
def rCheckInst_L10 (n : Nat) (ls : List Leaf) (R : Type) (k : Ex → St → Option R) : Option R :=
  match ls with
  | [.rows es41, .int i42, .int i43, .rows es44, .rows es45, .rows es46, .rows es47] => rCheckInst_l10 n es41 i42 i43 es44 es45 es46 es47 (fun y5168 => k .ret ⟨sparse .undef [(2, (TV.val (PV.bool y5168)))] 0 179, [], []⟩)
      (fun y5169 y5170 y5171 y5172 => k (.exit 2) ⟨sparse .undef [(1, (TV.ref 0 0))] 0 179, [(Ob.pbox (PV.agg [(PV.fs y5169), (PV.fs y5170), (PV.fs y5171), (PV.fs y5172)]) 4)], []⟩)
  | _ => none
def rCheckInst_L4 (n : Nat) (ls : List Leaf) (R : Type) (k : Ex → St → Option R) : Option R :=
  match ls with
  | [.rows es22, .int i23, .int i24, .rows es25, .rows es26, .rows es27, .rows es28] => rCheckInst_l4 n es22 i23 i24 es25 es26 es27 es28 (fun y6173 => k .ret ⟨sparse .undef [(2, (TV.val (PV.bool y6173)))] 0 179, [], []⟩)
      (fun y6174 y6175 y6176 y6177 => k (.exit 0) ⟨sparse .undef [(1, (TV.ref 0 0))] 0 179, [(Ob.pbox (PV.agg [(PV.fs y6174), (PV.fs y6175), (PV.fs y6176), (PV.fs y6177)]) 4)], []⟩)
  | _ => none
def rCheckInst_L (n key : Nat) (ls : List Leaf) (R : Type) (k : Ex → St → Option R) : Option R :=
  match key with
  | 36 => rCheckInst_L36 n ls R k
  | 20 => rCheckInst_L20 n ls R k
  | 31 => rCheckInst_L31 n ls R k
  | 17 => rCheckInst_L17 n ls R k
  | 10 => rCheckInst_L10 n ls R k
  | 4 => rCheckInst_L4 n ls R k
  | _ => none
def rCheckInst_J (n key : Nat) (ls : List Leaf) (R : Type) (k : Ex → St → Option R) : Option R :=
  match key with
  | _ => none
def rCheckInst_on : Code → Bool := fun _ => false
def rCheckInst_Λ : Nat → Loops := patL (normBy rCheckInst_cfg) rCheckInst_pat rCheckInst_L (normJ rCheckInst_cfg) rCheckInst_on rCheckInst_patj rCheckInst_J
theorem rCheckInst_step4 (n : Nat) (es22 : List (List PV)) (i23 : Int) (i24 : Int) (es25 : List (List PV)) (es26 : List (List PV)) (es27 : List (List PV)) (es28 : List (List PV))  (R : Type) (k : Ex → St → Option R) :
    roundK T G0 (ctrOf rCheckInst_Γ) (normBy rCheckInst_cfg) (rCheckInst_Λ n) (codeAt [1, 1, 0, 1, 0, 0] (bodyOf Tryd.f67)) (buildSt ⟨sparse .undef [(1, (.ref 0 0)), (39, (.val .fs)), (40, (.val (.int .i64))), (41, (.val (.int .i64)))] 0 179, [(.pbox (.agg [.fs, .fs, .fs, .fs]) 4)], []⟩ [.rows es22, .int i23, .int i24, .rows es25, .rows es26, .rows es27, .rows es28]) R k = rCheckInst_L4 (n + 1) [.rows es22, .int i23, .int i24, .rows es25, .rows es26, .rows es27, .rows es28] R k := by kernel_rfl
theorem rCheckInst_step10 (n : Nat) (es41 : List (List PV)) (i42 : Int) (i43 : Int) (es44 : List (List PV)) (es45 : List (List PV)) (es46 : List (List PV)) (es47 : List (List PV))  (R : Type) (k : Ex → St → Option R) :
    roundK T G0 (ctrOf rCheckInst_Γ) (normBy rCheckInst_cfg) (rCheckInst_Λ n) (codeAt [1, 1, 1, 0, 1, 0, 0] (bodyOf Tryd.f67)) (buildSt ⟨sparse .undef [(1, (.ref 0 0)), (64, (.val .fs)), (65, (.val (.int .i64))), (66, (.val (.int .i64)))] 0 179, [(.pbox (.agg [.fs, .fs, .fs, .fs]) 4)], []⟩ [.rows es41, .int i42, .int i43, .rows es44, .rows es45, .rows es46, .rows es47]) R k = rCheckInst_L10 (n + 1) [.rows es41, .int i42, .int i43, .rows es44, .rows es45, .rows es46, .rows es47] R k := by kernel_rfl
theorem rCheckInst_step17 (n : Nat) (es63 : List (List PV)) (i64 : Int) (i65 : Int) (es66 : List (List PV)) (es67 : List (List PV)) (es68 : List (List PV)) (es69 : List (List PV)) (kv70 : List (PV × PV))  (R : Type) (k : Ex → St → Option R) :
    roundK T G0 (ctrOf rCheckInst_Γ) (normBy rCheckInst_cfg) (rCheckInst_Λ n) (codeAt [1, 1, 1, 1, 1, 0, 1, 0, 0] (bodyOf Tryd.f67)) (buildSt ⟨sparse .undef [(1, (.ref 0 0)), (7, (.mp 1)), (96, (.val .fs)), (97, (.val (.int .i64))), (98, (.val (.int .i64)))] 0 179, [(.pbox (.agg [.fs, .fs, .fs, .fs]) 4), .map], []⟩ [.rows es63, .int i64, .int i65, .rows es66, .rows es67, .rows es68, .rows es69, .kvs kv70]) R k = rCheckInst_L17 (n + 1) [.rows es63, .int i64, .int i65, .rows es66, .rows es67, .rows es68, .rows es69, .kvs kv70] R k := by kernel_rfl
theorem rCheckInst_step20 (n : Nat) (es93 : List (List PV)) (i94 : Int) (i95 : Int) (p96 : PV) (i97 : Int) (es98 : List (List PV)) (es99 : List (List PV)) (es100 : List (List PV)) (es101 : List (List PV)) (kv102 : List (PV × PV)) (p103 : PV)  (R : Type) (k : Ex → St → Option R) :
    roundK T G0 (ctrOf rCheckInst_Γ) (normBy rCheckInst_cfg) (rCheckInst_Λ n) (codeAt [1, 1, 1, 1, 1, 0, 1, 0, 0, 1, 1, 0, 0, 1, 0, 1, 0, 0] (bodyOf Tryd.f67)) (buildSt ⟨sparse .undef [(1, (.ref 0 0)), (7, (.mp 1)), (9, (.ref 2 0)), (96, (.val .fs)), (97, (.val (.int .i64))), (98, (.val (.int .i64))), (102, (.val .any)), (103, (.val (.int .i64)))] 0 179, [(.pbox (.agg [.fs, .fs, .fs, .fs]) 4), .map, (.pbox .any 2)], []⟩ [.rows es93, .int i94, .int i95, .pv p96, .int i97, .rows es98, .rows es99, .rows es100, .rows es101, .kvs kv102, .pv p103]) R k = rCheckInst_L20 (n + 1) [.rows es93, .int i94, .int i95, .pv p96, .int i97, .rows es98, .rows es99, .rows es100, .rows es101, .kvs kv102, .pv p103] R k := by kernel_rfl
theorem rCheckInst_step31 (n : Nat) (es111 : List (List PV)) (i112 : Int) (i113 : Int) (es114 : List (List PV)) (es115 : List (List PV)) (es116 : List (List PV)) (es117 : List (List PV))  (R : Type) (k : Ex → St → Option R) :
    roundK T G0 (ctrOf rCheckInst_Γ) (normBy rCheckInst_cfg) (rCheckInst_Λ n) (codeAt [1, 1, 1, 1, 1, 1, 0, 1, 0, 0] (bodyOf Tryd.f67)) (buildSt ⟨sparse .undef [(1, (.ref 0 0)), (145, (.val .fs)), (146, (.val (.int .i64))), (147, (.val (.int .i64)))] 0 179, [(.pbox (.agg [.fs, .fs, .fs, .fs]) 4)], []⟩ [.rows es111, .int i112, .int i113, .rows es114, .rows es115, .rows es116, .rows es117]) R k = rCheckInst_L31 (n + 1) [.rows es111, .int i112, .int i113, .rows es114, .rows es115, .rows es116, .rows es117] R k := by kernel_rfl
theorem rCheckInst_step36 (n : Nat) (a129 : Int) (es130 : List (List PV)) (i131 : Int) (i132 : Int) (es133 : List (List PV)) (i134 : Int) (i135 : Int) (es136 : List (List PV)) (es137 : List (List PV)) (es138 : List (List PV)) (es139 : List (List PV))  (R : Type) (k : Ex → St → Option R) :
    roundK T G0 (ctrOf rCheckInst_Γ) (normBy rCheckInst_cfg) (rCheckInst_Λ n) (codeAt [1, 1, 1, 1, 1, 1, 0, 1, 0, 0, 1, 1, 0, 0, 1, 1, 1, 0, 0] (bodyOf Tryd.f67)) (buildSt ⟨sparse .undef [(1, (.ref 0 0)), (13, (.val (.int .i64))), (145, (.val .fs)), (146, (.val (.int .i64))), (147, (.val (.int .i64))), (158, (.val .fs)), (159, (.val (.int .i64))), (160, (.val (.int .i64)))] 0 179, [(.pbox (.agg [.fs, .fs, .fs, .fs]) 4)], []⟩ [.int a129, .rows es130, .int i131, .int i132, .rows es133, .int i134, .int i135, .rows es136, .rows es137, .rows es138, .rows es139]) R k = rCheckInst_L36 (n + 1) [.int a129, .rows es130, .int i131, .int i132, .rows es133, .int i134, .int i135, .rows es136, .rows es137, .rows es138, .rows es139] R k := by kernel_rfl
theorem rCheckInst_eq (n : Nat) (i1 : List (List PV)) (i2 : List (List PV)) (i3 : List (List PV)) (i4 : List (List PV)) :
    funK T G0 (ctrOf rCheckInst_Γ) (rCheckInst_Λ n) .d true [none] (funOf Tryd.f67) [(PV.agg [(PV.fs i1), (PV.fs i2), (PV.fs i3), (PV.fs i4)])] = rCheckInst_b n  i1 i2 i3 i4 (fun a0 => some (rCheckInst_E a0)) := by kernel_rfl
theorem rCheckInst_inv {ps : List PV} {y : Bool} (h : rCheckInst_D ps = some y) : ∃ (i1 : List (List PV)) (i2 : List (List PV)) (i3 : List (List PV)) (i4 : List (List PV)), ps = [(PV.agg [(PV.fs i1), (PV.fs i2), (PV.fs i3), (PV.fs i4)])] := by
  unfold rCheckInst_D at h
  split at h
  · exact ⟨_, _, _, _, rfl⟩
  · cases h
theorem rCheckInst_loops : loopsOf (bodyOf Tryd.f67) = [codeAt [1, 1, 0, 1, 0, 0] (bodyOf Tryd.f67), codeAt [1, 1, 1, 0, 1, 0, 0] (bodyOf Tryd.f67), codeAt [1, 1, 1, 1, 1, 0, 1, 0, 0] (bodyOf Tryd.f67), codeAt [1, 1, 1, 1, 1, 0, 1, 0, 0, 1, 1, 0, 0, 1, 0, 1, 0, 0] (bodyOf Tryd.f67), codeAt [1, 1, 1, 1, 1, 1, 0, 1, 0, 0] (bodyOf Tryd.f67), codeAt [1, 1, 1, 1, 1, 1, 0, 1, 0, 0, 1, 1, 0, 0, 1, 1, 1, 0, 0] (bodyOf Tryd.f67)] := by kernel_rfl
theorem rCheckInst_holds (hΓ : HoldsAll Tryd.prog G0 rCheckInst_Γ) (hok : ∀ (i1 : List (List PV)) (i2 : List (List PV)) (i3 : List (List PV)) (i4 : List (List PV)) (y : Bool), sCheckInst i1 i2 i3 i4 = some y → ∃ n, ∀ (R : Type) (k : Bool → Option R), rCheckInst_b n  i1 i2 i3 i4 k = k y) : Holds Tryd.prog G0 67 rCheckInst_C := by
  refine fun_pat mixed tOk (ctrOf_ok hΓ) Tryd.func67 rfl rfl rfl rfl (F := funOf Tryd.f67) (normBy_ok rCheckInst_cfg) (pat := rCheckInst_pat) (L := rCheckInst_L) (normJ_ok rCheckInst_cfg) (on := rCheckInst_on) (patj := rCheckInst_patj) (J := rCheckInst_J) (fun c hc ls R k => ?_) (fun c hc p hp m ls R k r h => ?_) (fun c hc p hp m ls R k r h => ?_) (fun ps x h => ?_)
  · rw [show (funOf Tryd.f67).code = bodyOf Tryd.f67 from rfl, rCheckInst_loops] at hc
    simp only [List.mem_cons, List.not_mem_nil, or_false] at hc
    rcases hc with rfl | rfl | rfl | rfl | rfl | rfl
    · show rCheckInst_L4 0 ls R k = none
      unfold rCheckInst_L4
      split
      · rfl
      · rfl
    · show rCheckInst_L10 0 ls R k = none
      unfold rCheckInst_L10
      split
      · rfl
      · rfl
    · show rCheckInst_L17 0 ls R k = none
      unfold rCheckInst_L17
      split
      · rfl
      · rfl
    · show rCheckInst_L20 0 ls R k = none
      unfold rCheckInst_L20
      split
      · rfl
      · rfl
    · show rCheckInst_L31 0 ls R k = none
      unfold rCheckInst_L31
      split
      · rfl
      · rfl
    · show rCheckInst_L36 0 ls R k = none
      unfold rCheckInst_L36
      split
      · rfl
      · rfl
  · rw [show (funOf Tryd.f67).code = bodyOf Tryd.f67 from rfl, rCheckInst_loops] at hc
    simp only [List.mem_cons, List.not_mem_nil, or_false] at hc
    rcases hc with rfl | rfl | rfl | rfl | rfl | rfl
    · have hp' : p = ⟨sparse .undef [(1, (.ref 0 0)), (39, (.val .fs)), (40, (.val (.int .i64))), (41, (.val (.int .i64)))] 0 179, [(.pbox (.agg [.fs, .fs, .fs, .fs]) 4)], []⟩ := (Option.some.inj (hp : some _ = some p)).symm
      subst hp'
      change rCheckInst_L4 (m + 1) ls R k = some r at h
      have h' := h
      unfold rCheckInst_L4 at h'
      split at h'
      · exact (rCheckInst_step4 m _ _ _ _ _ _ _ R k).trans h
      · cases h'
    · have hp' : p = ⟨sparse .undef [(1, (.ref 0 0)), (64, (.val .fs)), (65, (.val (.int .i64))), (66, (.val (.int .i64)))] 0 179, [(.pbox (.agg [.fs, .fs, .fs, .fs]) 4)], []⟩ := (Option.some.inj (hp : some _ = some p)).symm
      subst hp'
      change rCheckInst_L10 (m + 1) ls R k = some r at h
      have h' := h
      unfold rCheckInst_L10 at h'
      split at h'
      · exact (rCheckInst_step10 m _ _ _ _ _ _ _ R k).trans h
      · cases h'
    · have hp' : p = ⟨sparse .undef [(1, (.ref 0 0)), (7, (.mp 1)), (96, (.val .fs)), (97, (.val (.int .i64))), (98, (.val (.int .i64)))] 0 179, [(.pbox (.agg [.fs, .fs, .fs, .fs]) 4), .map], []⟩ := (Option.some.inj (hp : some _ = some p)).symm
      subst hp'
      change rCheckInst_L17 (m + 1) ls R k = some r at h
      have h' := h
      unfold rCheckInst_L17 at h'
      split at h'
      · exact (rCheckInst_step17 m _ _ _ _ _ _ _ _ R k).trans h
      · cases h'
    · have hp' : p = ⟨sparse .undef [(1, (.ref 0 0)), (7, (.mp 1)), (9, (.ref 2 0)), (96, (.val .fs)), (97, (.val (.int .i64))), (98, (.val (.int .i64))), (102, (.val .any)), (103, (.val (.int .i64)))] 0 179, [(.pbox (.agg [.fs, .fs, .fs, .fs]) 4), .map, (.pbox .any 2)], []⟩ := (Option.some.inj (hp : some _ = some p)).symm
      subst hp'
      change rCheckInst_L20 (m + 1) ls R k = some r at h
      have h' := h
      unfold rCheckInst_L20 at h'
      split at h'
      · exact (rCheckInst_step20 m _ _ _ _ _ _ _ _ _ _ _ R k).trans h
      · cases h'
    · have hp' : p = ⟨sparse .undef [(1, (.ref 0 0)), (145, (.val .fs)), (146, (.val (.int .i64))), (147, (.val (.int .i64)))] 0 179, [(.pbox (.agg [.fs, .fs, .fs, .fs]) 4)], []⟩ := (Option.some.inj (hp : some _ = some p)).symm
      subst hp'
      change rCheckInst_L31 (m + 1) ls R k = some r at h
      have h' := h
      unfold rCheckInst_L31 at h'
      split at h'
      · exact (rCheckInst_step31 m _ _ _ _ _ _ _ R k).trans h
      · cases h'
    · have hp' : p = ⟨sparse .undef [(1, (.ref 0 0)), (13, (.val (.int .i64))), (145, (.val .fs)), (146, (.val (.int .i64))), (147, (.val (.int .i64))), (158, (.val .fs)), (159, (.val (.int .i64))), (160, (.val (.int .i64)))] 0 179, [(.pbox (.agg [.fs, .fs, .fs, .fs]) 4)], []⟩ := (Option.some.inj (hp : some _ = some p)).symm
      subst hp'
      change rCheckInst_L36 (m + 1) ls R k = some r at h
      have h' := h
      unfold rCheckInst_L36 at h'
      split at h'
      · exact (rCheckInst_step36 m _ _ _ _ _ _ _ _ _ _ _ R k).trans h
      · cases h'
  · cases (List.mem_filter.1 hc).2
  · obtain ⟨y, hy, hx⟩ := bind_inv h
    cases hx
    obtain ⟨i1, i2, i3, i4, rfl⟩ := rCheckInst_inv hy
    obtain ⟨n, hn⟩ := hok i1 i2 i3 i4 y hy
    exact ⟨n, (rCheckInst_eq n i1 i2 i3 i4).trans (hn _ _)⟩
def rFilled_l3 {R : Type} : Nat → Int → Int → Int → List (List PV) → (List (List PV) → Option R) → Option R
  | 0, _, _, _, _, _ => none
  | n + 1, x4, i5, i6, es7, k0 =>
    cond (decide (i6 < i5)) (
      if 0 ≤ i6 ∧ i6 < (es7.length : Int) then
        Option.bind (es7[(Int.toNat i6)]?) fun e8 =>
        Option.bind (e8[0]?) fun c9 =>
        rFilled_l3 n x4 i5 (IntKind.i64.wrap (i6 + (1 : Int))) (List.set es7 (Int.toNat i6) (List.set e8 0 (PV.int .i64 x4))) k0
      else none) (
      k0 es7)
def rFilled_b {R : Type} (n : Nat) (n1 : Int) (x2 : Int) (k : List (List PV) → Option R) : Option R :=
  if n1 = n1 ∧ 0 ≤ n1 ∧ n1 * 8 ≤ maxBytes ∧ 1 = 1 then
    rFilled_l3 n x2 ((List.replicate (Int.toNat n1) [(PV.int .i64 0)]).length : Int) 0 (List.replicate (Int.toNat n1) [(PV.int .i64 0)]) k
  else none
def rFilled_E (y : (List (List PV))) : PV × List PV := ((PV.os y 1), [])
def rFilled_D : List PV → Option ((List (List PV)))
  | [(PV.int .i64 n1), (PV.int .i64 x2)] => sFilled n1 x2
  | _ => none
def rFilled_Γ : List (Nat × Cal) := []
def rFilled_C : Ctr := ⟨[none, none], (List (List PV)), rFilled_D, rFilled_E, true, .s⟩
def rFilled_cfg : List (Nat × LC) := [(3, ⟨[1, 5, 10, 11], [], [], []⟩),
  (1003000, ⟨[5], [], [], []⟩)]
def rFilled_pat : Nat → Option SP
  | 3 => some ⟨sparse .undef [(1, (.val (.int .i64))), (5, (.ow 0)), (10, (.val (.int .i64))), (11, (.val (.int .i64)))] 0 20, [(.row 1)], []⟩
  | _ => none
def rFilled_patj : Nat → Option SP
  | _ => none
def rFilled_L3 (n : Nat) (ls : List Leaf) (R : Type) (k : Ex → St → Option R) : Option R :=
  match ls with
  | [.int x4, .int i5, .int i6, .rows es7] => rFilled_l3 n x4 i5 i6 es7 (fun y1010 => k (.exit 0) ⟨sparse .undef [(5, (TV.ow 0))] 0 20, [(Ob.row y1010 1)], []⟩)
  | _ => none
def rFilled_L (n key : Nat) (ls : List Leaf) (R : Type) (k : Ex → St → Option R) : Option R :=
  match key with
  | 3 => rFilled_L3 n ls R k
  | _ => none
def rFilled_J (n key : Nat) (ls : List Leaf) (R : Type) (k : Ex → St → Option R) : Option R :=
  match key with
  | _ => none
def rFilled_on : Code → Bool := fun _ => false
def rFilled_Λ : Nat → Loops := patL (normBy rFilled_cfg) rFilled_pat rFilled_L (normJ rFilled_cfg) rFilled_on rFilled_patj rFilled_J
theorem rFilled_step3 (n : Nat) (x4 : Int) (i5 : Int) (i6 : Int) (es7 : List (List PV))  (R : Type) (k : Ex → St → Option R) :
    roundK T G0 (ctrOf rFilled_Γ) (normBy rFilled_cfg) (rFilled_Λ n) (codeAt [1, 1, 0, 1, 0, 0] (bodyOf Tryd.f68)) (buildSt ⟨sparse .undef [(1, (.val (.int .i64))), (5, (.ow 0)), (10, (.val (.int .i64))), (11, (.val (.int .i64)))] 0 20, [(.row 1)], []⟩ [.int x4, .int i5, .int i6, .rows es7]) R k = rFilled_L3 (n + 1) [.int x4, .int i5, .int i6, .rows es7] R k := by kernel_rfl
theorem rFilled_eq (n : Nat) (n1 : Int) (x2 : Int) :
    funK T G0 (ctrOf rFilled_Γ) (rFilled_Λ n) .s true [none, none] (funOf Tryd.f68) [(PV.int .i64 n1), (PV.int .i64 x2)] = rFilled_b n  n1 x2 (fun a0 => if (noMem (rFilled_E a0).1 && noMemL (rFilled_E a0).2) = true then some (rFilled_E a0) else none) := by kernel_rfl
theorem rFilled_inv {ps : List PV} {y : (List (List PV))} (h : rFilled_D ps = some y) : ∃ (n1 : Int) (x2 : Int), ps = [(PV.int .i64 n1), (PV.int .i64 x2)] := by
  unfold rFilled_D at h
  split at h
  · exact ⟨_, _, rfl⟩
  · cases h
theorem rFilled_loops : loopsOf (bodyOf Tryd.f68) = [codeAt [1, 1, 0, 1, 0, 0] (bodyOf Tryd.f68)] := by kernel_rfl
theorem rFilled_holds (hΓ : HoldsAll Tryd.prog G0 rFilled_Γ) (hok : ∀ (n1 : Int) (x2 : Int) (y : (List (List PV))), sFilled n1 x2 = some y → ∃ n, ∀ (R : Type) (k : List (List PV) → Option R), rFilled_b n  n1 x2 k = k y) (hno : ∀ (n1 : Int) (x2 : Int) (y : (List (List PV))), sFilled n1 x2 = some y → (noMem (rFilled_E y).1 && noMemL (rFilled_E y).2) = true) : Holds Tryd.prog G0 68 rFilled_C := by
  refine fun_pat mixed tOk (ctrOf_ok hΓ) Tryd.func68 rfl rfl rfl rfl (F := funOf Tryd.f68) (normBy_ok rFilled_cfg) (pat := rFilled_pat) (L := rFilled_L) (normJ_ok rFilled_cfg) (on := rFilled_on) (patj := rFilled_patj) (J := rFilled_J) (fun c hc ls R k => ?_) (fun c hc p hp m ls R k r h => ?_) (fun c hc p hp m ls R k r h => ?_) (fun ps x h => ?_)
  · rw [show (funOf Tryd.f68).code = bodyOf Tryd.f68 from rfl, rFilled_loops] at hc
    simp only [List.mem_cons, List.not_mem_nil, or_false] at hc
    rcases hc with rfl
    · show rFilled_L3 0 ls R k = none
      unfold rFilled_L3
      split
      · rfl
      · rfl
  · rw [show (funOf Tryd.f68).code = bodyOf Tryd.f68 from rfl, rFilled_loops] at hc
    simp only [List.mem_cons, List.not_mem_nil, or_false] at hc
    rcases hc with rfl
    · have hp' : p = ⟨sparse .undef [(1, (.val (.int .i64))), (5, (.ow 0)), (10, (.val (.int .i64))), (11, (.val (.int .i64)))] 0 20, [(.row 1)], []⟩ := (Option.some.inj (hp : some _ = some p)).symm
      subst hp'
      change rFilled_L3 (m + 1) ls R k = some r at h
      have h' := h
      unfold rFilled_L3 at h'
      split at h'
      · exact (rFilled_step3 m _ _ _ _ R k).trans h
      · cases h'
  · cases (List.mem_filter.1 hc).2
  · obtain ⟨y, hy, hx⟩ := bind_inv h
    cases hx
    obtain ⟨n1, x2, rfl⟩ := rFilled_inv hy
    obtain ⟨n, hn⟩ := hok n1 x2 y hy
    exact ⟨n, (rFilled_eq n n1 x2).trans ((hn _ _).trans (if_pos (hno n1 x2 y hy)))⟩
def rNewPlan_q5 {R : Type} (n20 : Int) (m21 : Int) (i22 : Int) (k0 : Int → List (List PV) → List (List PV) → List (List PV) → List (List PV) → List (List PV) → List (List PV) → Option R) : Option R :=
  meet (
    if n20 = n20 ∧ 0 ≤ n20 ∧ n20 * 24 ≤ maxBytes ∧ 1 = 1 then
      Option.bind (sFilled m21 (-1)) fun y23 =>
      Option.bind (sFilled n20 (-1)) fun y24 =>
      Option.bind (sFilled n20 0) fun y25 =>
      Option.bind (sFilled m21 0) fun y26 =>
      Option.bind (sFilled n20 0) fun y27 =>
      k0 0 (List.replicate (Int.toNat n20) [(PV.fs [])]) y23 y24 y25 y26 y27
    else none) (
    Option.bind (sFilled m21 (-1)) fun y28 =>
    meet (
      if n20 = n20 ∧ 0 ≤ n20 ∧ n20 * 24 ≤ maxBytes ∧ 1 = 1 then
        Option.bind (sFilled n20 (-1)) fun y29 =>
        Option.bind (sFilled n20 0) fun y30 =>
        Option.bind (sFilled m21 0) fun y31 =>
        Option.bind (sFilled n20 0) fun y32 =>
        k0 0 (List.replicate (Int.toNat n20) [(PV.fs [])]) y28 y29 y30 y31 y32
      else none) (
      Option.bind (sFilled n20 (-1)) fun y33 =>
      meet (
        if n20 = n20 ∧ 0 ≤ n20 ∧ n20 * 24 ≤ maxBytes ∧ 1 = 1 then
          Option.bind (sFilled n20 0) fun y34 =>
          Option.bind (sFilled m21 0) fun y35 =>
          Option.bind (sFilled n20 0) fun y36 =>
          k0 0 (List.replicate (Int.toNat n20) [(PV.fs [])]) y28 y33 y34 y35 y36
        else none) (
        Option.bind (sFilled n20 0) fun y37 =>
        meet (
          if n20 = n20 ∧ 0 ≤ n20 ∧ n20 * 24 ≤ maxBytes ∧ 1 = 1 then
            Option.bind (sFilled m21 0) fun y38 =>
            Option.bind (sFilled n20 0) fun y39 =>
            k0 0 (List.replicate (Int.toNat n20) [(PV.fs [])]) y28 y33 y37 y38 y39
          else none) (
          Option.bind (sFilled m21 0) fun y40 =>
          meet (
            if n20 = n20 ∧ 0 ≤ n20 ∧ n20 * 24 ≤ maxBytes ∧ 1 = 1 then
              Option.bind (sFilled n20 0) fun y41 =>
              k0 0 (List.replicate (Int.toNat n20) [(PV.fs [])]) y28 y33 y37 y40 y41
            else none) (
            Option.bind (sFilled n20 0) fun y42 =>
            if n20 = n20 ∧ 0 ≤ n20 ∧ n20 * 24 ≤ maxBytes ∧ 1 = 1 then
              k0 0 (List.replicate (Int.toNat n20) [(PV.fs [])]) y28 y33 y37 y40 y42
            else none)))))
def rNewPlan_b {R : Type} (i1 : List (List PV)) (i2 : List (List PV)) (i3 : List (List PV)) (i4 : List (List PV)) (k : List (List PV) → List (List PV) → List (List PV) → List (List PV) → List (List PV) → List (List PV) → Int → Option R) : Option R :=
  Option.bind (sCheckInst i1 i2 i3 i4) fun y5 =>
  cond (!y5) (
    k [] [] [] [] [] [] 0) (
    meet (
      rNewPlan_q5 (i1.length : Int) (IntKind.i64.wrap ((i2.length : Int) + (1 : Int))) 0
        (fun (i6 : Int) (es7 : List (List PV)) (es8 : List (List PV)) (es9 : List (List PV)) (es10 : List (List PV)) (es11 : List (List PV)) (es12 : List (List PV)) =>
          k es7 es8 es9 es10 es11 es12 i6)) (
      rNewPlan_q5 (i1.length : Int) (IntKind.i64.wrap ((i2.length : Int) + (1 : Int))) 0
        (fun (i13 : Int) (es14 : List (List PV)) (es15 : List (List PV)) (es16 : List (List PV)) (es17 : List (List PV)) (es18 : List (List PV)) (es19 : List (List PV)) =>
          k es14 es15 es16 es17 es18 es19 i13)))
def rNewPlan_E (y : (List (List PV)) × (List (List PV)) × (List (List PV)) × (List (List PV)) × (List (List PV)) × (List (List PV)) × Int) : PV × List PV := ((PV.agg [(PV.fs y.1), (PV.fs y.2.1), (PV.fs y.2.2.1), (PV.fs y.2.2.2.1), (PV.fs y.2.2.2.2.1), (PV.fs y.2.2.2.2.2.1), (PV.int .i64 y.2.2.2.2.2.2)]), [])
def rNewPlan_D : List PV → Option ((List (List PV)) × (List (List PV)) × (List (List PV)) × (List (List PV)) × (List (List PV)) × (List (List PV)) × Int)
  | [(PV.agg [(PV.fs i1), (PV.fs i2), (PV.fs i3), (PV.fs i4)])] => sNewPlan i1 i2 i3 i4
  | _ => none
def rNewPlan_Γ : List (Nat × Cal) := [(67, .ctr rCheckInst_C), (68, .ctr rFilled_C)]
def rNewPlan_C : Ctr := ⟨[none], (List (List PV)) × (List (List PV)) × (List (List PV)) × (List (List PV)) × (List (List PV)) × (List (List PV)) × Int, rNewPlan_D, rNewPlan_E, false, .d⟩
def rNewPlan_cfg : List (Nat × LC) := [(4000005, ⟨[2, 3, 4], [], [], []⟩),
  (6000005, ⟨[2], [], [], []⟩)]
def rNewPlan_pat : Nat → Option SP
  | _ => none
def rNewPlan_patj : Nat → Option SP
  | 5 => some ⟨sparse .undef [(2, (.ref 0 0)), (3, (.val (.int .i64))), (4, (.val (.int .i64)))] 0 29, [(.box [(.nil 1), (.nil 1), (.nil 1), (.nil 1), (.nil 1), (.nil 1), (.val (.int .i64))])], []⟩
  | _ => none
def rNewPlan_J5 (n : Nat) (ls : List Leaf) (R : Type) (k : Ex → St → Option R) : Option R :=
  match ls with
  | [.int n20, .int m21, .int i22] => rNewPlan_q5 n20 m21 i22 (fun y1043 y1044 y1045 y1046 y1047 y1048 y1049 => k .ret ⟨sparse .undef [(2, (TV.ref 0 0))] 0 29, [(Ob.box [(TV.ow 1), (TV.ow 2), (TV.ow 3), (TV.ow 4), (TV.ow 5), (TV.ow 6), (TV.val (PV.int .i64 y1043))]), (Ob.row y1044 1), (Ob.row y1045 1), (Ob.row y1046 1), (Ob.row y1047 1), (Ob.row y1048 1), (Ob.row y1049 1)], []⟩)
  | _ => none
def rNewPlan_L (n key : Nat) (ls : List Leaf) (R : Type) (k : Ex → St → Option R) : Option R :=
  match key with
  | _ => none
def rNewPlan_J (n key : Nat) (ls : List Leaf) (R : Type) (k : Ex → St → Option R) : Option R :=
  match key with
  | 5 => rNewPlan_J5 n ls R k
  | _ => none
def rNewPlan_on : Code → Bool := onKeys [5]
def rNewPlan_Λ : Nat → Loops := patL (normBy rNewPlan_cfg) rNewPlan_pat rNewPlan_L (normJ rNewPlan_cfg) rNewPlan_on rNewPlan_patj rNewPlan_J
theorem rNewPlan_stepq5 (n : Nat) (n20 : Int) (m21 : Int) (i22 : Int)  (R : Type) (k : Ex → St → Option R) :
    joinK T G0 (ctrOf rNewPlan_Γ) (normJ rNewPlan_cfg) (rNewPlan_Λ n) (codeAt [1, 1, 1] (bodyOf Tryd.f44)) (buildSt ⟨sparse .undef [(2, (.ref 0 0)), (3, (.val (.int .i64))), (4, (.val (.int .i64)))] 0 29, [(.box [(.nil 1), (.nil 1), (.nil 1), (.nil 1), (.nil 1), (.nil 1), (.val (.int .i64))])], []⟩ [.int n20, .int m21, .int i22]) R k = rNewPlan_J5 n [.int n20, .int m21, .int i22] R k := by kernel_rfl
theorem rNewPlan_eq (i1 : List (List PV)) (i2 : List (List PV)) (i3 : List (List PV)) (i4 : List (List PV)) :
    funK T G0 (ctrOf rNewPlan_Γ) (rNewPlan_Λ 0) .d false [none] (funOf Tryd.f44) [(PV.agg [(PV.fs i1), (PV.fs i2), (PV.fs i3), (PV.fs i4)])] = rNewPlan_b  i1 i2 i3 i4 (fun a0 a1 a2 a3 a4 a5 a6 => some (rNewPlan_E (a0, a1, a2, a3, a4, a5, a6))) := by kernel_rfl
theorem rNewPlan_inv {ps : List PV} {y : (List (List PV)) × (List (List PV)) × (List (List PV)) × (List (List PV)) × (List (List PV)) × (List (List PV)) × Int} (h : rNewPlan_D ps = some y) : ∃ (i1 : List (List PV)) (i2 : List (List PV)) (i3 : List (List PV)) (i4 : List (List PV)), ps = [(PV.agg [(PV.fs i1), (PV.fs i2), (PV.fs i3), (PV.fs i4)])] := by
  unfold rNewPlan_D at h
  split at h
  · exact ⟨_, _, _, _, rfl⟩
  · cases h
theorem rNewPlan_loops : loopsOf (bodyOf Tryd.f44) = [] := by kernel_rfl
theorem rNewPlan_joins : (joinsOf (bodyOf Tryd.f44)).filter rNewPlan_on = [codeAt [1, 1, 1] (bodyOf Tryd.f44)] := by kernel_rfl
theorem rNewPlan_holds (hΓ : HoldsAll Tryd.prog G0 rNewPlan_Γ) (hok : ∀ (i1 : List (List PV)) (i2 : List (List PV)) (i3 : List (List PV)) (i4 : List (List PV)) (y : (List (List PV)) × (List (List PV)) × (List (List PV)) × (List (List PV)) × (List (List PV)) × (List (List PV)) × Int), sNewPlan i1 i2 i3 i4 = some y → ∀ (R : Type) (k : List (List PV) → List (List PV) → List (List PV) → List (List PV) → List (List PV) → List (List PV) → Int → Option R), rNewPlan_b  i1 i2 i3 i4 k = k y.1 y.2.1 y.2.2.1 y.2.2.2.1 y.2.2.2.2.1 y.2.2.2.2.2.1 y.2.2.2.2.2.2) : Holds Tryd.prog G0 44 rNewPlan_C := by
  refine fun_pat mixed tOk (ctrOf_ok hΓ) Tryd.func44 rfl rfl rfl rfl (F := funOf Tryd.f44) (normBy_ok rNewPlan_cfg) (pat := rNewPlan_pat) (L := rNewPlan_L) (normJ_ok rNewPlan_cfg) (on := rNewPlan_on) (patj := rNewPlan_patj) (J := rNewPlan_J) (fun c hc ls R k => ?_) (fun c hc p hp m ls R k r h => ?_) (fun c hc p hp m ls R k r h => ?_) (fun ps x h => ?_)
  · rw [show (funOf Tryd.f44).code = bodyOf Tryd.f44 from rfl, rNewPlan_loops] at hc
    cases hc
  · rw [show (funOf Tryd.f44).code = bodyOf Tryd.f44 from rfl, rNewPlan_loops] at hc
    cases hc
  · rw [show (funOf Tryd.f44).code = bodyOf Tryd.f44 from rfl, rNewPlan_joins] at hc
    simp only [List.mem_cons, List.not_mem_nil, or_false] at hc
    rcases hc with rfl
    · have hp' : p = ⟨sparse .undef [(2, (.ref 0 0)), (3, (.val (.int .i64))), (4, (.val (.int .i64)))] 0 29, [(.box [(.nil 1), (.nil 1), (.nil 1), (.nil 1), (.nil 1), (.nil 1), (.val (.int .i64))])], []⟩ := (Option.some.inj (hp : some _ = some p)).symm
      subst hp'
      change rNewPlan_J5 m ls R k = some r at h
      have h' := h
      unfold rNewPlan_J5 at h'
      split at h'
      · exact (rNewPlan_stepq5 m _ _ _ R k).trans h
      · cases h'
  · obtain ⟨y, hy, hx⟩ := bind_inv h
    cases hx
    obtain ⟨i1, i2, i3, i4, rfl⟩ := rNewPlan_inv hy
    exact ⟨0, (rNewPlan_eq i1 i2 i3 i4).trans (hok i1 i2 i3 i4 y hy _ _)⟩
def rMate_l2 {R : Type} : Nat → Int → List (List PV) → Int → Int → (Int → Option R) → (Unit → Option R) → Option R
  | 0, _, _, _, _, _, _ => none
  | n + 1, stop7, es8, i9, i10, k0, k1 =>
    cond (decide (i10 < i9)) (
      Option.bind (idx es8 i10) fun e11 =>
      if e11.length = 2 then
        Option.bind (subAgg e11 0 2) fun p12 =>
        if (PV.isAgg p12 2) = true then
          Option.bind ((PV.cells p12)[0]?) fun c13 =>
          Option.bind (PV.asI .i64 c13) fun n14 =>
          cond (n14 == stop7) (
            Option.bind ((PV.cells p12)[1]?) fun c15 =>
            Option.bind (PV.asI .i64 c15) fun n16 =>
            k0 n16) (
            Option.bind ((PV.cells p12)[1]?) fun c17 =>
            Option.bind (PV.asI .i64 c17) fun n18 =>
            cond (n18 == stop7) (
              Option.bind ((PV.cells p12)[0]?) fun c19 =>
              Option.bind (PV.asI .i64 c19) fun n20 =>
              k0 n20) (
              rMate_l2 n stop7 es8 i9 (IntKind.i64.wrap (i10 + (1 : Int))) k0 k1))
        else none
      else none) (
      k1 ())
def rMate_b {R : Type} (n : Nat) (i1 : List (List PV)) (i2 : List (List PV)) (i3 : List (List PV)) (i4 : List (List PV)) (stop5 : Int) (k : Int → Option R) : Option R :=
  rMate_l2 n stop5 i3 (i3.length : Int) 0 k
    (fun (_ : Unit) =>
      k 0)
def rMate_E (y : Int) : PV × List PV := ((PV.int .i64 y), [])
def rMate_D : List PV → Option (Int)
  | [(PV.agg [(PV.fs i1), (PV.fs i2), (PV.fs i3), (PV.fs i4)]), (PV.int .i64 stop5)] => sMate i1 i2 i3 i4 stop5
  | _ => none
def rMate_Γ : List (Nat × Cal) := []
def rMate_C : Ctr := ⟨[none, none], Int, rMate_D, rMate_E, true, .d⟩
def rMate_cfg : List (Nat × LC) := [(2, ⟨[1, 8, 9, 10], [], [], []⟩),
  (2000002, ⟨[4], [], [], []⟩),
  (1002000, ⟨[], [], [], []⟩)]
def rMate_pat : Nat → Option SP
  | 2 => some ⟨sparse .undef [(1, (.val (.int .i64))), (8, (.val .fs)), (9, (.val (.int .i64))), (10, (.val (.int .i64)))] 0 27, [], []⟩
  | _ => none
def rMate_patj : Nat → Option SP
  | _ => none
def rMate_L2 (n : Nat) (ls : List Leaf) (R : Type) (k : Ex → St → Option R) : Option R :=
  match ls with
  | [.int stop7, .rows es8, .int i9, .int i10] => rMate_l2 n stop7 es8 i9 i10 (fun y1021 => k .ret ⟨sparse .undef [(4, (TV.val (PV.int .i64 y1021)))] 0 27, [], []⟩)
      (fun _ => k (.exit 0) ⟨sparse .undef [] 0 27, [], []⟩)
  | _ => none
def rMate_L (n key : Nat) (ls : List Leaf) (R : Type) (k : Ex → St → Option R) : Option R :=
  match key with
  | 2 => rMate_L2 n ls R k
  | _ => none
def rMate_J (n key : Nat) (ls : List Leaf) (R : Type) (k : Ex → St → Option R) : Option R :=
  match key with
  | _ => none
def rMate_on : Code → Bool := fun _ => false
def rMate_Λ : Nat → Loops := patL (normBy rMate_cfg) rMate_pat rMate_L (normJ rMate_cfg) rMate_on rMate_patj rMate_J
theorem rMate_step2 (n : Nat) (stop7 : Int) (es8 : List (List PV)) (i9 : Int) (i10 : Int)  (R : Type) (k : Ex → St → Option R) :
    roundK T G0 (ctrOf rMate_Γ) (normBy rMate_cfg) (rMate_Λ n) (codeAt [1, 0, 1, 0, 0] (bodyOf Tryd.f69)) (buildSt ⟨sparse .undef [(1, (.val (.int .i64))), (8, (.val .fs)), (9, (.val (.int .i64))), (10, (.val (.int .i64)))] 0 27, [], []⟩ [.int stop7, .rows es8, .int i9, .int i10]) R k = rMate_L2 (n + 1) [.int stop7, .rows es8, .int i9, .int i10] R k := by kernel_rfl
theorem rMate_eq (n : Nat) (i1 : List (List PV)) (i2 : List (List PV)) (i3 : List (List PV)) (i4 : List (List PV)) (stop5 : Int) :
    funK T G0 (ctrOf rMate_Γ) (rMate_Λ n) .d true [none, none] (funOf Tryd.f69) [(PV.agg [(PV.fs i1), (PV.fs i2), (PV.fs i3), (PV.fs i4)]), (PV.int .i64 stop5)] = rMate_b n  i1 i2 i3 i4 stop5 (fun a0 => some (rMate_E a0)) := by kernel_rfl
theorem rMate_inv {ps : List PV} {y : Int} (h : rMate_D ps = some y) : ∃ (i1 : List (List PV)) (i2 : List (List PV)) (i3 : List (List PV)) (i4 : List (List PV)) (stop5 : Int), ps = [(PV.agg [(PV.fs i1), (PV.fs i2), (PV.fs i3), (PV.fs i4)]), (PV.int .i64 stop5)] := by
  unfold rMate_D at h
  split at h
  · exact ⟨_, _, _, _, _, rfl⟩
  · cases h
theorem rMate_loops : loopsOf (bodyOf Tryd.f69) = [codeAt [1, 0, 1, 0, 0] (bodyOf Tryd.f69)] := by kernel_rfl
theorem rMate_holds (hΓ : HoldsAll Tryd.prog G0 rMate_Γ) (hok : ∀ (i1 : List (List PV)) (i2 : List (List PV)) (i3 : List (List PV)) (i4 : List (List PV)) (stop5 : Int) (y : Int), sMate i1 i2 i3 i4 stop5 = some y → ∃ n, ∀ (R : Type) (k : Int → Option R), rMate_b n  i1 i2 i3 i4 stop5 k = k y) : Holds Tryd.prog G0 69 rMate_C := by
  refine fun_pat mixed tOk (ctrOf_ok hΓ) Tryd.func69 rfl rfl rfl rfl (F := funOf Tryd.f69) (normBy_ok rMate_cfg) (pat := rMate_pat) (L := rMate_L) (normJ_ok rMate_cfg) (on := rMate_on) (patj := rMate_patj) (J := rMate_J) (fun c hc ls R k => ?_) (fun c hc p hp m ls R k r h => ?_) (fun c hc p hp m ls R k r h => ?_) (fun ps x h => ?_)
  · rw [show (funOf Tryd.f69).code = bodyOf Tryd.f69 from rfl, rMate_loops] at hc
    simp only [List.mem_cons, List.not_mem_nil, or_false] at hc
    rcases hc with rfl
    · show rMate_L2 0 ls R k = none
      unfold rMate_L2
      split
      · rfl
      · rfl
  · rw [show (funOf Tryd.f69).code = bodyOf Tryd.f69 from rfl, rMate_loops] at hc
    simp only [List.mem_cons, List.not_mem_nil, or_false] at hc
    rcases hc with rfl
    · have hp' : p = ⟨sparse .undef [(1, (.val (.int .i64))), (8, (.val .fs)), (9, (.val (.int .i64))), (10, (.val (.int .i64)))] 0 27, [], []⟩ := (Option.some.inj (hp : some _ = some p)).symm
      subst hp'
      change rMate_L2 (m + 1) ls R k = some r at h
      have h' := h
      unfold rMate_L2 at h'
      split at h'
      · exact (rMate_step2 m _ _ _ _ R k).trans h
      · cases h'
  · cases (List.mem_filter.1 hc).2
  · obtain ⟨y, hy, hx⟩ := bind_inv h
    cases hx
    obtain ⟨i1, i2, i3, i4, stop5, rfl⟩ := rMate_inv hy
    obtain ⟨n, hn⟩ := hok i1 i2 i3 i4 stop5 y hy
    exact ⟨n, (rMate_eq n i1 i2 i3 i4 stop5).trans (hn _ _)⟩
def rFirst_l2 {R : Type} : Nat → Int → List (List PV) → Int → Int → (Bool → Option R) → (Unit → Option R) → Option R
  | 0, _, _, _, _, _, _ => none
  | n + 1, stop7, es8, i9, i10, k0, k1 =>
    cond (decide (i10 < i9)) (
      Option.bind (idx es8 i10) fun e11 =>
      if e11.length = 2 then
        Option.bind (subAgg e11 0 2) fun p12 =>
        if (PV.isAgg p12 2) = true then
          Option.bind ((PV.cells p12)[0]?) fun c13 =>
          Option.bind (PV.asI .i64 c13) fun n14 =>
          cond (n14 == stop7) (
            k0 true) (
            rFirst_l2 n stop7 es8 i9 (IntKind.i64.wrap (i10 + (1 : Int))) k0 k1)
        else none
      else none) (
      k1 ())
def rFirst_b {R : Type} (n : Nat) (i1 : List (List PV)) (i2 : List (List PV)) (i3 : List (List PV)) (i4 : List (List PV)) (stop5 : Int) (k : Bool → Option R) : Option R :=
  rFirst_l2 n stop5 i3 (i3.length : Int) 0 k
    (fun (_ : Unit) =>
      k false)
def rFirst_E (y : Bool) : PV × List PV := ((PV.bool y), [])
def rFirst_D : List PV → Option (Bool)
  | [(PV.agg [(PV.fs i1), (PV.fs i2), (PV.fs i3), (PV.fs i4)]), (PV.int .i64 stop5)] => sFirst i1 i2 i3 i4 stop5
  | _ => none
def rFirst_Γ : List (Nat × Cal) := []
def rFirst_C : Ctr := ⟨[none, none], Bool, rFirst_D, rFirst_E, true, .d⟩
def rFirst_cfg : List (Nat × LC) := [(2, ⟨[1, 8, 9, 10], [], [], []⟩),
  (2000002, ⟨[4], [], [], []⟩),
  (1002000, ⟨[], [], [], []⟩)]
def rFirst_pat : Nat → Option SP
  | 2 => some ⟨sparse .undef [(1, (.val (.int .i64))), (8, (.val .fs)), (9, (.val (.int .i64))), (10, (.val (.int .i64)))] 0 19, [], []⟩
  | _ => none
def rFirst_patj : Nat → Option SP
  | _ => none
def rFirst_L2 (n : Nat) (ls : List Leaf) (R : Type) (k : Ex → St → Option R) : Option R :=
  match ls with
  | [.int stop7, .rows es8, .int i9, .int i10] => rFirst_l2 n stop7 es8 i9 i10 (fun y1015 => k .ret ⟨sparse .undef [(4, (TV.val (PV.bool y1015)))] 0 19, [], []⟩)
      (fun _ => k (.exit 0) ⟨sparse .undef [] 0 19, [], []⟩)
  | _ => none
def rFirst_L (n key : Nat) (ls : List Leaf) (R : Type) (k : Ex → St → Option R) : Option R :=
  match key with
  | 2 => rFirst_L2 n ls R k
  | _ => none
def rFirst_J (n key : Nat) (ls : List Leaf) (R : Type) (k : Ex → St → Option R) : Option R :=
  match key with
  | _ => none
def rFirst_on : Code → Bool := fun _ => false
def rFirst_Λ : Nat → Loops := patL (normBy rFirst_cfg) rFirst_pat rFirst_L (normJ rFirst_cfg) rFirst_on rFirst_patj rFirst_J
theorem rFirst_step2 (n : Nat) (stop7 : Int) (es8 : List (List PV)) (i9 : Int) (i10 : Int)  (R : Type) (k : Ex → St → Option R) :
    roundK T G0 (ctrOf rFirst_Γ) (normBy rFirst_cfg) (rFirst_Λ n) (codeAt [1, 0, 1, 0, 0] (bodyOf Tryd.f70)) (buildSt ⟨sparse .undef [(1, (.val (.int .i64))), (8, (.val .fs)), (9, (.val (.int .i64))), (10, (.val (.int .i64)))] 0 19, [], []⟩ [.int stop7, .rows es8, .int i9, .int i10]) R k = rFirst_L2 (n + 1) [.int stop7, .rows es8, .int i9, .int i10] R k := by kernel_rfl
theorem rFirst_eq (n : Nat) (i1 : List (List PV)) (i2 : List (List PV)) (i3 : List (List PV)) (i4 : List (List PV)) (stop5 : Int) :
    funK T G0 (ctrOf rFirst_Γ) (rFirst_Λ n) .d true [none, none] (funOf Tryd.f70) [(PV.agg [(PV.fs i1), (PV.fs i2), (PV.fs i3), (PV.fs i4)]), (PV.int .i64 stop5)] = rFirst_b n  i1 i2 i3 i4 stop5 (fun a0 => some (rFirst_E a0)) := by kernel_rfl
theorem rFirst_inv {ps : List PV} {y : Bool} (h : rFirst_D ps = some y) : ∃ (i1 : List (List PV)) (i2 : List (List PV)) (i3 : List (List PV)) (i4 : List (List PV)) (stop5 : Int), ps = [(PV.agg [(PV.fs i1), (PV.fs i2), (PV.fs i3), (PV.fs i4)]), (PV.int .i64 stop5)] := by
  unfold rFirst_D at h
  split at h
  · exact ⟨_, _, _, _, _, rfl⟩
  · cases h
theorem rFirst_loops : loopsOf (bodyOf Tryd.f70) = [codeAt [1, 0, 1, 0, 0] (bodyOf Tryd.f70)] := by kernel_rfl
theorem rFirst_holds (hΓ : HoldsAll Tryd.prog G0 rFirst_Γ) (hok : ∀ (i1 : List (List PV)) (i2 : List (List PV)) (i3 : List (List PV)) (i4 : List (List PV)) (stop5 : Int) (y : Bool), sFirst i1 i2 i3 i4 stop5 = some y → ∃ n, ∀ (R : Type) (k : Bool → Option R), rFirst_b n  i1 i2 i3 i4 stop5 k = k y) : Holds Tryd.prog G0 70 rFirst_C := by
  refine fun_pat mixed tOk (ctrOf_ok hΓ) Tryd.func70 rfl rfl rfl rfl (F := funOf Tryd.f70) (normBy_ok rFirst_cfg) (pat := rFirst_pat) (L := rFirst_L) (normJ_ok rFirst_cfg) (on := rFirst_on) (patj := rFirst_patj) (J := rFirst_J) (fun c hc ls R k => ?_) (fun c hc p hp m ls R k r h => ?_) (fun c hc p hp m ls R k r h => ?_) (fun ps x h => ?_)
  · rw [show (funOf Tryd.f70).code = bodyOf Tryd.f70 from rfl, rFirst_loops] at hc
    simp only [List.mem_cons, List.not_mem_nil, or_false] at hc
    rcases hc with rfl
    · show rFirst_L2 0 ls R k = none
      unfold rFirst_L2
      split
      · rfl
      · rfl
  · rw [show (funOf Tryd.f70).code = bodyOf Tryd.f70 from rfl, rFirst_loops] at hc
    simp only [List.mem_cons, List.not_mem_nil, or_false] at hc
    rcases hc with rfl
    · have hp' : p = ⟨sparse .undef [(1, (.val (.int .i64))), (8, (.val .fs)), (9, (.val (.int .i64))), (10, (.val (.int .i64)))] 0 19, [], []⟩ := (Option.some.inj (hp : some _ = some p)).symm
      subst hp'
      change rFirst_L2 (m + 1) ls R k = some r at h
      have h' := h
      unfold rFirst_L2 at h'
      split at h'
      · exact (rFirst_step2 m _ _ _ _ R k).trans h
      · cases h'
  · cases (List.mem_filter.1 hc).2
  · obtain ⟨y, hy, hx⟩ := bind_inv h
    cases hx
    obtain ⟨i1, i2, i3, i4, stop5, rfl⟩ := rFirst_inv hy
    obtain ⟨n, hn⟩ := hok i1 i2 i3 i4 stop5 y hy
    exact ⟨n, (rFirst_eq n i1 i2 i3 i4 stop5).trans (hn _ _)⟩
end
end Go.Proofs.YtkeklbicmfhemaaDoorV
namespace Go.Proofs.YtkeklbicmfhemaaDoorV
open Go
set_option maxRecDepth 20000
set_option linter.unusedSimpArgs false
theorem unCar_inv : ∀ {es : List (List PV)} {l : List Car}, unCar es = some l → es = carRow l ∧ ∀ c ∈ l, inI c.1 = true ∧ inI c.2.1 = true ∧ inI c.2.2 = true
  | [], l, h => by cases h; exact ⟨rfl, by simp⟩
  | e :: es, l, h => by
    simp only [unCar, Option.bind_eq_some_iff] at h
    obtain ⟨a, h1, l', h2, h3⟩ := h
    cases h3
    obtain ⟨i1, i2⟩ := unCar_inv h2
    unfold unCar1 at h1
    split at h1
    case h_2 => cases h1
    split at h1
    case isFalse => cases h1
    rename_i hc
    cases h1
    exact ⟨by rw [i1]; rfl, fun c hm => (List.mem_cons.1 hm).elim (fun e => e ▸ hc) (i2 c)⟩
theorem unStp_inv : ∀ {es : List (List PV)} {l : List Stp}, unStp es = some l → es = stpRow l ∧ ∀ c ∈ l, inI c.1 = true ∧ inI c.2.1 = true ∧ inI c.2.2.1 = true ∧ inI c.2.2.2 = true
  | [], l, h => by cases h; exact ⟨rfl, by simp⟩
  | e :: es, l, h => by
    simp only [unStp, Option.bind_eq_some_iff] at h
    obtain ⟨a, h1, l', h2, h3⟩ := h
    cases h3
    obtain ⟨i1, i2⟩ := unStp_inv h2
    unfold unStp1 at h1
    split at h1
    case h_2 => cases h1
    split at h1
    case isFalse => cases h1
    rename_i hc
    cases h1
    exact ⟨by rw [i1]; rfl, fun c hm => (List.mem_cons.1 hm).elim (fun e => e ▸ hc) (i2 c)⟩
theorem unPr_inv : ∀ {es : List (List PV)} {l : List (Int × Int)}, unPr es = some l → es = prRow l ∧ ∀ c ∈ l, inI c.1 = true ∧ inI c.2 = true
  | [], l, h => by cases h; exact ⟨rfl, by simp⟩
  | e :: es, l, h => by
    simp only [unPr, Option.bind_eq_some_iff] at h
    obtain ⟨a, h1, l', h2, h3⟩ := h
    cases h3
    obtain ⟨i1, i2⟩ := unPr_inv h2
    unfold unPr1 at h1
    split at h1
    case h_2 => cases h1
    split at h1
    case isFalse => cases h1
    rename_i hc
    cases h1
    exact ⟨by rw [i1]; rfl, fun c hm => (List.mem_cons.1 hm).elim (fun e => e ▸ hc) (i2 c)⟩
theorem unTr_inv : ∀ {es : List (List PV)} {l : List (List Int)}, unTr es = some l → es = trRow l ∧ ∀ r ∈ l, ∀ n ∈ r, -9223372036854775808 ≤ n ∧ n < 9223372036854775808
  | [], l, h => by cases h; exact ⟨rfl, by simp⟩
  | e :: es, l, h => by
    simp only [unTr, Option.bind_eq_some_iff] at h
    obtain ⟨a, h1, l', h2, h3⟩ := h
    cases h3
    obtain ⟨i1, i2⟩ := unTr_inv h2
    unfold unTr1 at h1
    split at h1
    case h_2 => cases h1
    obtain ⟨j1, j2⟩ := unI_inv h1
    exact ⟨by rw [i1, j1]; rfl, fun c hm => (List.mem_cons.1 hm).elim (fun e => e ▸ j2) (i2 c)⟩
theorem unInst_inv {a b c d : List (List PV)} {i : Inst} (h : unInst a b c d = some i) : a = carRow i.cars ∧ b = stpRow i.stops ∧ c = prRow i.pairs ∧ d = trRow i.travel ∧
    (∀ c ∈ i.cars, inI c.1 = true ∧ inI c.2.1 = true ∧ inI c.2.2 = true) ∧ (∀ c ∈ i.stops, inI c.1 = true ∧ inI c.2.1 = true ∧ inI c.2.2.1 = true ∧ inI c.2.2.2 = true) ∧ (∀ c ∈ i.pairs, inI c.1 = true ∧ inI c.2 = true) ∧ (∀ r ∈ i.travel, ∀ n ∈ r, -9223372036854775808 ≤ n ∧ n < 9223372036854775808) := by
  simp only [unInst, Option.bind_eq_some_iff] at h
  obtain ⟨c1, h1, c2, h2, c3, h3, c4, h4, h5⟩ := h
  cases h5
  exact ⟨(unCar_inv h1).1, (unStp_inv h2).1, (unPr_inv h3).1, (unTr_inv h4).1, (unCar_inv h1).2, (unStp_inv h2).2, (unPr_inv h3).2, (unTr_inv h4).2⟩
theorem carRow_length (l : List Car) : (carRow l).length = l.length := by simp [carRow]
theorem prRow_length (l : List (Int × Int)) : (prRow l).length = l.length := by simp [prRow]
theorem trRow_length (l : List (List Int)) : (trRow l).length = l.length := by simp [trRow]
theorem idx_car (pre : List Car) (x : Car) (rest : List Car) : idx (carRow (pre ++ x :: rest)) (pre.length : Int) = some [.int .i64 x.1, .int .i64 x.2.1, .int .i64 x.2.2] := by
  rw [idx_nat, carRow, List.map_append, List.map_cons, List.getElem?_append_right (by simp)]; simp
theorem idx_stp (pre : List Stp) (x : Stp) (rest : List Stp) : idx (stpRow (pre ++ x :: rest)) (pre.length : Int) = some [.int .i64 x.1, .int .i64 x.2.1, .int .i64 x.2.2.1, .int .i64 x.2.2.2] := by
  rw [idx_nat, stpRow, List.map_append, List.map_cons, List.getElem?_append_right (by simp)]; simp
theorem idx_pr (pre : List (Int × Int)) (x : Int × Int) (rest : List (Int × Int)) : idx (prRow (pre ++ x :: rest)) (pre.length : Int) = some [.int .i64 x.1, .int .i64 x.2] := by
  rw [idx_nat, prRow, List.map_append, List.map_cons, List.getElem?_append_right (by simp)]; simp
theorem idx_tr (pre : List (List Int)) (x : List Int) (rest : List (List Int)) : idx (trRow (pre ++ x :: rest)) (pre.length : Int) = some [.fs (iRow x)] := by
  rw [idx_nat, trRow, List.map_append, List.map_cons, List.getElem?_append_right (by simp)]; simp
theorem rWithin_ok (n lo hi : Int) : rWithin_d n lo hi = some (inR n lo hi) := by
  unfold rWithin_d rWithin_b inR
  by_cases h : lo ≤ n
  · rw [decide_eq_true (show n ≥ lo from h), cond_true, Bool.true_and]
  · rw [decide_eq_false (show ¬ n ≥ lo from h), cond_false, Bool.false_and]
theorem ckCars {R : Type} {cars : List Car} (hl : cars.length ≤ big) (a b c d : List (List PV)) (k0 : Bool → Option R) (k1 : List (List PV) → List (List PV) → List (List PV) → List (List PV) → Option R) : ∀ (rest pre : List Car) (n : Nat), cars = pre ++ rest → rest.length < n →
    rCheckInst_l4 n (carRow cars) (cars.length : Int) (pre.length : Int) a b c d k0 k1 = if rest.all carOk = true then k1 a b c d else k0 false
  | [], pre, n, hw, hn => by
    obtain ⟨m, rfl⟩ : ∃ m, n = m + 1 := ⟨n - 1, by omega⟩
    simp only [List.append_nil] at hw
    subst hw
    unfold rCheckInst_l4
    rw [decide_eq_false (by omega), cond_false]
    rfl
  | x :: rest, pre, n, hw, hn => by
    obtain ⟨m, rfl⟩ : ∃ m, n = m + 1 := ⟨n - 1, by omega⟩
    have hlen : cars.length = pre.length + (rest.length + 1) := by rw [hw]; simp
    have ih := ckCars hl a b c d k0 k1 rest (pre ++ [x]) m (by rw [hw]; simp) (by simp at hn; omega)
    unfold big at hl
    have hidx : idx (carRow cars) (pre.length : Int) = some [.int .i64 x.1, .int .i64 x.2.1, .int .i64 x.2.2] := by rw [hw]; exact idx_car pre x rest
    have hl3 : ([.int .i64 x.1, .int .i64 x.2.1, .int .i64 x.2.2] : List PV).length = 3 := rfl
    have hsub : subAgg [.int .i64 x.1, .int .i64 x.2.1, .int .i64 x.2.2] 0 3 = some (.agg [.int .i64 x.1, .int .i64 x.2.1, .int .i64 x.2.2]) := rfl
    have hagg : PV.isAgg (.agg [.int .i64 x.1, .int .i64 x.2.1, .int .i64 x.2.2]) 3 = true := rfl
    have c0 : (PV.cells (.agg [.int .i64 x.1, .int .i64 x.2.1, .int .i64 x.2.2]))[0]? = some (.int .i64 x.1) := rfl
    have c1 : (PV.cells (.agg [.int .i64 x.1, .int .i64 x.2.1, .int .i64 x.2.2]))[1]? = some (.int .i64 x.2.1) := rfl
    have c2 : (PV.cells (.agg [.int .i64 x.1, .int .i64 x.2.1, .int .i64 x.2.2]))[2]? = some (.int .i64 x.2.2) := rfl
    have hk1 : IntKind.i64.wrap ((pre.length : Int) + 1) = ((pre ++ [x]).length : Int) := (wrapN (by omega) (by omega)).trans (by simp)
    unfold rCheckInst_l4
    rw [decide_eq_true (by omega), cond_true, hidx]
    simp only [Option.bind_some, hl3, if_true, hsub, hagg, c0, c1, c2, asI_int, rWithin_ok, hk1, ih]
    have good : carOk x = true → (if rest.all carOk = true then k1 a b c d else k0 false) = (if (x :: rest).all carOk = true then k1 a b c d else k0 false) := fun h => by rw [show (x :: rest).all carOk = rest.all carOk by simp [h]]
    have bad : carOk x = false → k0 false = (if (x :: rest).all carOk = true then k1 a b c d else k0 false) := fun h => by rw [if_neg (by simp [h])]
    rcases Bool.eq_false_or_eq_true (inR x.1 0 60) with f0 | f0
    · rcases Bool.eq_false_or_eq_true (inR x.2.1 0 x.2.2) with f1 | f1
      · by_cases h : x.2.2 > 1000
        · rw [f0, f1, Bool.not_true, cond_false, cond_false, decide_eq_true h, cond_true]
          exact bad (by simp [carOk, f0, f1, show ¬ x.2.2 ≤ 1000 by omega])
        · rw [f0, f1, Bool.not_true, cond_false, cond_false, decide_eq_false h, cond_false]
          exact good (by simp [carOk, f0, f1, show x.2.2 ≤ 1000 by omega])
      · rw [f0, f1, Bool.not_true, cond_false, Bool.not_false, cond_true]
        exact bad (by simp [carOk, f0, f1])
    · rw [f0, Bool.not_false, cond_true]
      exact bad (by simp [carOk, f0])
theorem ckStops {R : Type} {stops : List Stp} (hl : stops.length ≤ big) (a b c d : List (List PV)) (k0 : Bool → Option R) (k1 : List (List PV) → List (List PV) → List (List PV) → List (List PV) → Option R) : ∀ (rest pre : List Stp) (n : Nat), stops = pre ++ rest → rest.length < n →
    rCheckInst_l10 n (stpRow stops) (stops.length : Int) (pre.length : Int) a b c d k0 k1 = if rest.all stpOk = true then k1 a b c d else k0 false
  | [], pre, n, hw, hn => by
    obtain ⟨m, rfl⟩ : ∃ m, n = m + 1 := ⟨n - 1, by omega⟩
    simp only [List.append_nil] at hw
    subst hw
    unfold rCheckInst_l10
    rw [decide_eq_false (by omega), cond_false]
    rfl
  | x :: rest, pre, n, hw, hn => by
    obtain ⟨m, rfl⟩ : ∃ m, n = m + 1 := ⟨n - 1, by omega⟩
    have hlen : stops.length = pre.length + (rest.length + 1) := by rw [hw]; simp
    have ih := ckStops hl a b c d k0 k1 rest (pre ++ [x]) m (by rw [hw]; simp) (by simp at hn; omega)
    unfold big at hl
    have hidx : idx (stpRow stops) (pre.length : Int) = some [.int .i64 x.1, .int .i64 x.2.1, .int .i64 x.2.2.1, .int .i64 x.2.2.2] := by rw [hw]; exact idx_stp pre x rest
    have hl4 : ([.int .i64 x.1, .int .i64 x.2.1, .int .i64 x.2.2.1, .int .i64 x.2.2.2] : List PV).length = 4 := rfl
    have hsub : subAgg [.int .i64 x.1, .int .i64 x.2.1, .int .i64 x.2.2.1, .int .i64 x.2.2.2] 0 4 = some (.agg [.int .i64 x.1, .int .i64 x.2.1, .int .i64 x.2.2.1, .int .i64 x.2.2.2]) := rfl
    have hagg : PV.isAgg (.agg [.int .i64 x.1, .int .i64 x.2.1, .int .i64 x.2.2.1, .int .i64 x.2.2.2]) 4 = true := rfl
    have c0 : (PV.cells (.agg [.int .i64 x.1, .int .i64 x.2.1, .int .i64 x.2.2.1, .int .i64 x.2.2.2]))[0]? = some (.int .i64 x.1) := rfl
    have c1 : (PV.cells (.agg [.int .i64 x.1, .int .i64 x.2.1, .int .i64 x.2.2.1, .int .i64 x.2.2.2]))[1]? = some (.int .i64 x.2.1) := rfl
    have c2 : (PV.cells (.agg [.int .i64 x.1, .int .i64 x.2.1, .int .i64 x.2.2.1, .int .i64 x.2.2.2]))[2]? = some (.int .i64 x.2.2.1) := rfl
    have c3 : (PV.cells (.agg [.int .i64 x.1, .int .i64 x.2.1, .int .i64 x.2.2.1, .int .i64 x.2.2.2]))[3]? = some (.int .i64 x.2.2.2) := rfl
    have hk1 : IntKind.i64.wrap ((pre.length : Int) + 1) = ((pre ++ [x]).length : Int) := (wrapN (by omega) (by omega)).trans (by simp)
    unfold rCheckInst_l10
    rw [decide_eq_true (by omega), cond_true, hidx]
    simp only [Option.bind_some, hl4, if_true, hsub, hagg, c0, c1, c2, c3, asI_int, rWithin_ok, hk1, ih]
    have good : stpOk x = true → (if rest.all stpOk = true then k1 a b c d else k0 false) = (if (x :: rest).all stpOk = true then k1 a b c d else k0 false) := fun h => by rw [show (x :: rest).all stpOk = rest.all stpOk by simp [h]]
    have bad : stpOk x = false → k0 false = (if (x :: rest).all stpOk = true then k1 a b c d else k0 false) := fun h => by rw [if_neg (by simp [h])]
    rcases Bool.eq_false_or_eq_true (inR x.1 (-20) 20) with f0 | f0
    · rcases Bool.eq_false_or_eq_true (inR x.2.1 0 x.2.2.1) with f1 | f1
      · by_cases h : x.2.2.1 > 1000
        · rw [f0, f1, Bool.not_true, cond_false, cond_false, decide_eq_true h, cond_true]
          exact bad (by simp [stpOk, f0, f1, show ¬ x.2.2.1 ≤ 1000 by omega])
        · rcases Bool.eq_false_or_eq_true (inR x.2.2.2 0 1000) with f3 | f3
          · rw [f0, f1, f3, Bool.not_true, cond_false, cond_false, decide_eq_false h, cond_false, cond_false]
            exact good (by simp [stpOk, f0, f1, f3, show x.2.2.1 ≤ 1000 by omega])
          · rw [f0, f1, f3, Bool.not_true, cond_false, cond_false, decide_eq_false h, cond_false, Bool.not_false, cond_true]
            exact bad (by simp [stpOk, f0, f1, f3])
      · rw [f0, f1, Bool.not_true, cond_false, Bool.not_false, cond_true]
        exact bad (by simp [stpOk, f0, f1])
    · rw [f0, Bool.not_false, cond_true]
      exact bad (by simp [stpOk, f0])
def hadMap (l : List Int) : List (PV × PV) := l.map fun n => (.int .i64 n, .bool true)
theorem had_get (x : Int) : ∀ l : List Int, ∃ r, mget T 3 (.int .i64 x) (hadMap l) = some r ∧ PV.asB (Option.getD r (.bool false)) = some (l.contains x)
  | [] => ⟨none, rfl, rfl⟩
  | n :: l => by
    obtain ⟨r, h1, h2⟩ := had_get x l
    have h3 : ∀ x y : Int, eqvT T 3 (.int .i64 x) (.int .i64 y) = some (x == y) := fun x y => rfl
    simp only [hadMap, List.map_cons, mget, h3, Option.bind_some] at h1 ⊢
    by_cases e : x = n
    · refine ⟨some (.bool true), by simp [e], ?_⟩
      simp [e, PV.asB]
    · refine ⟨r, ?_, ?_⟩
      · rw [if_neg (by simpa using e)]; exact h1
      · rw [h2]; simp [e]
theorem had_set (x : Int) : ∀ l : List Int, l.contains x = false → mset T 3 (.int .i64 x) (.bool true) (hadMap l) = some (hadMap (l ++ [x]))
  | [], _ => rfl
  | n :: l, h => by
    have h3 : ∀ x y : Int, eqvT T 3 (.int .i64 x) (.int .i64 y) = some (x == y) := fun x y => rfl
    simp only [List.contains_cons, Bool.or_eq_false_iff] at h
    have ih := had_set x l h.2
    simp only [hadMap, List.map_cons, List.cons_append, mset, h3, Option.bind_some] at ih ⊢
    rw [if_neg (by simp [h.1]), ih]
    rfl
theorem ckPair {R : Type} {stops : List Stp} (a d : List (List PV)) (e : List (List PV)) (i j : Int) (p : Int × Int) (had : List Int) (hl : stops.length ≤ big) (c : List (List PV)) (n : Nat) (k0 : Bool → Option R) (k1 : List (List PV) → Int → Int → List (List PV) → List (List PV) → List (List PV) → List (List PV) → List (PV × PV) → PV → Option R) :
    rCheckInst_l20 (n + 3) e i j (.agg [.int .i64 p.1, .int .i64 p.2]) 0 a (stpRow stops) c d (hadMap had) (.agg [.int .i64 p.1, .int .i64 p.2]) k0 k1 =
      if (fresh stops had p.1 && fresh stops (had ++ [p.1]) p.2) = true then k1 e i j a (stpRow stops) c d (hadMap (had ++ [p.1, p.2])) (.agg [.int .i64 p.1, .int .i64 p.2]) else k0 false := by
  have hA : PV.asAgg (.agg [.int .i64 p.1, .int .i64 p.2]) = some [.int .i64 p.1, .int .i64 p.2] := rfl
  have g0 : ([.int .i64 p.1, .int .i64 p.2] : List PV)[(0 : Int).toNat]? = some (.int .i64 p.1) := rfl
  have g1 : ([.int .i64 p.1, .int .i64 p.2] : List PV)[(1 : Int).toNat]? = some (.int .i64 p.2) := rfl
  obtain ⟨r0, m0, b0⟩ := had_get p.1 had
  obtain ⟨r1, m1, b1⟩ := had_get p.2 (had ++ [p.1])
  have w0 : IntKind.i64.wrap ((0 : Int) + 1) = 1 := rfl
  have w1 : IntKind.i64.wrap ((1 : Int) + 1) = 2 := rfl
  have last : ∀ kv q, rCheckInst_l20 (n + 1) e i j (.agg [.int .i64 p.1, .int .i64 p.2]) 2 a (stpRow stops) c d kv q k0 k1 = k1 e i j a (stpRow stops) c d kv q := by
    intro kv q
    unfold rCheckInst_l20
    rfl
  unfold rCheckInst_l20
  rw [show decide ((0 : Int) < 2) = true from rfl, cond_true, hA, Option.bind_some, if_pos (by decide), g0, Option.bind_some, asI_int, Option.bind_some, rWithin_ok, Option.bind_some, stpRow_length]
  unfold fresh
  cases f0 : inR p.1 1 (stops.length : Int) with
  | false => rw [Bool.not_false, cond_true]; simp
  | true =>
    rw [Bool.not_true, cond_false, m0, Option.bind_some, b0, Option.bind_some]
    cases c0 : had.contains p.1 with
    | true => rw [cond_true]; simp
    | false =>
      rw [cond_false, had_set p.1 had c0, Option.bind_some, w0]
      unfold rCheckInst_l20
      rw [show decide ((1 : Int) < 2) = true from rfl, cond_true, hA, Option.bind_some, if_pos (by decide), g1, Option.bind_some, asI_int, Option.bind_some, rWithin_ok, Option.bind_some, stpRow_length]
      cases f1 : inR p.2 1 (stops.length : Int) with
      | false => rw [Bool.not_false, cond_true]; simp
      | true =>
        rw [Bool.not_true, cond_false, m1, Option.bind_some, b1, Option.bind_some]
        cases c1 : (had ++ [p.1]).contains p.2 with
        | true => rw [cond_true]; simp
        | false =>
          rw [cond_false, had_set p.2 (had ++ [p.1]) c1, Option.bind_some, w1, last]
          simp
theorem stp_idx {s : List Stp} {x : Int} (h : inR x 1 s.length = true) (hl : s.length ≤ big) : idx (stpRow s) (IntKind.i64.wrap (x - 1)) = some [.int .i64 (demandAt s x), .int .i64 (s.getD (x - 1).toNat (0, 0, 0, 0)).2.1, .int .i64 (s.getD (x - 1).toNat (0, 0, 0, 0)).2.2.1, .int .i64 (s.getD (x - 1).toNat (0, 0, 0, 0)).2.2.2] := by
  simp only [inR, Bool.and_eq_true, decide_eq_true_eq] at h
  unfold big at hl
  rw [wrapN (by omega) (by omega), show x - 1 = ((x - 1).toNat : Int) by omega, idx_nat, stp_at (by omega)]
  unfold demandAt
  rw [Int.toNat_natCast]
theorem ckPairs {R : Type} {stops : List Stp} {pairs : List (Int × Int)} (hst : ∀ c ∈ stops, inI c.1 = true ∧ inI c.2.1 = true ∧ inI c.2.2.1 = true ∧ inI c.2.2.2 = true) (hl : pairs.length ≤ big) (hs : stops.length ≤ big) (a c d : List (List PV)) (k0 : List (List PV) → List (List PV) → List (List PV) → List (List PV) → Option R) (k1 : Bool → Option R) : ∀ (rest pre : List (Int × Int)) (had : List Int) (n : Nat), pairs = pre ++ rest → rest.length + 3 < n →
    rCheckInst_l17 n (prRow pairs) (pairs.length : Int) (pre.length : Int) a (stpRow stops) c d (hadMap had) k0 k1 = if pairsOk stops rest had = true then k0 a (stpRow stops) c d else k1 false
  | [], pre, had, n, hw, hn => by
    obtain ⟨m, rfl⟩ : ∃ m, n = m + 1 := ⟨n - 1, by omega⟩
    simp only [List.append_nil] at hw
    subst hw
    unfold rCheckInst_l17
    rw [decide_eq_false (by omega), cond_false]
    rfl
  | x :: rest, pre, had, n, hw, hn => by
    obtain ⟨m, rfl⟩ : ∃ m, n = m + 1 + 3 := ⟨n - 4, by simp at hn; omega⟩
    have hlen : pairs.length = pre.length + (rest.length + 1) := by rw [hw]; simp
    have ih := ckPairs hst hl hs a c d k0 k1 rest (pre ++ [x]) (had ++ [x.1, x.2]) (m + 3) (by rw [hw]; simp) (by simp at hn; omega)
    unfold big at hl
    have hidx : idx (prRow pairs) (pre.length : Int) = some [.int .i64 x.1, .int .i64 x.2] := by rw [hw]; exact idx_pr pre x rest
    have hl2 : ([.int .i64 x.1, .int .i64 x.2] : List PV).length = 2 := rfl
    have hsub : subAgg [.int .i64 x.1, .int .i64 x.2] 0 2 = some (.agg [.int .i64 x.1, .int .i64 x.2]) := rfl
    have hagg : PV.isAgg (.agg [.int .i64 x.1, .int .i64 x.2]) 2 = true := rfl
    have c0 : (PV.cells (.agg [.int .i64 x.1, .int .i64 x.2]))[0]? = some (.int .i64 x.1) := rfl
    have c1 : (PV.cells (.agg [.int .i64 x.1, .int .i64 x.2]))[1]? = some (.int .i64 x.2) := rfl
    have hk1 : IntKind.i64.wrap ((pre.length : Int) + 1) = ((pre ++ [x]).length : Int) := (wrapN (by omega) (by omega)).trans (by simp)
    unfold rCheckInst_l17 pairsOk
    rw [decide_eq_true (by omega), cond_true, hidx]
    simp only [Option.bind_some, hl2, if_true, hsub, hagg]
    have pr := fun k2 => ckPair (R := R) a d (prRow pairs) (pairs.length : Int) (pre.length : Int) x had hs c m k1 k2
    refine (pr _).trans ?_
    cases f0 : fresh stops had x.1 with
    | false => simp
    | true =>
      cases f1 : fresh stops (had ++ [x.1]) x.2 with
      | false => simp
      | true =>
        rw [Bool.true_and, if_pos rfl]
        have r0 : inR x.1 1 stops.length = true := by unfold fresh at f0; simp only [Bool.and_eq_true] at f0; exact f0.1
        have r1 : inR x.2 1 stops.length = true := by unfold fresh at f1; simp only [Bool.and_eq_true] at f1; exact f1.1
        have e0 := stp_idx r0 hs
        have e1 := stp_idx r1 hs
        have hin : inI (demandAt stops x.1) = true := by
          simp only [inR, Bool.and_eq_true, decide_eq_true_eq] at r0
          unfold demandAt
          have hj : (x.1 - 1).toNat < stops.length := by omega
          rw [List.getD_eq_getElem?_getD, List.getElem?_eq_getElem hj, Option.getD_some]
          exact (hst _ (List.getElem_mem hj)).1
        have hin' := (inI_iff _).1 hin
        have hl4 : ∀ (p q r s : PV), ([p, q, r, s] : List PV).length = 4 := fun _ _ _ _ => rfl
        have hz : ∀ (p q r s : PV), ([p, q, r, s] : List PV)[0]? = some p := fun _ _ _ _ => rfl
        simp only [c0, c1, Option.bind_some, asI_int, e0, e1, hl4, hz, if_true]
        by_cases hneg : demandAt stops x.1 < 0
        · rw [decide_eq_true hneg, cond_true, decide_eq_false (by omega)]
          simp
        · rw [decide_eq_false hneg, cond_false, decide_eq_true (by omega), wrapN (n := 0 - demandAt stops x.1) (by omega) (by omega), Int.zero_sub]
          by_cases hd : demandAt stops x.2 = -demandAt stops x.1
          · rw [show (demandAt stops x.2 != -demandAt stops x.1) = false by simp [hd], cond_false, decide_eq_true hd, hk1, ih]
            simp
          · rw [show (demandAt stops x.2 != -demandAt stops x.1) = true by simpa using hd, cond_true, decide_eq_false hd]
            simp
theorem ckCells {R : Type} {row : List Int} (hl : row.length ≤ big) (ak : Nat) (e : List (List PV)) (i : Int) (a b c d : List (List PV)) (k0 : Bool → Option R) (k1 : List (List PV) → Int → Int → List (List PV) → List (List PV) → List (List PV) → List (List PV) → Option R) : ∀ (rest pre : List Int) (n : Nat), row = pre ++ rest → rest.length < n →
    rCheckInst_l36 n (ak : Int) e i (ak : Int) (iRow row) (row.length : Int) (pre.length : Int) a b c d k0 k1 = if cellsOk ak pre.length rest = true then k1 e i (ak : Int) a b c d else k0 false
  | [], pre, n, hw, hn => by
    obtain ⟨m, rfl⟩ : ∃ m, n = m + 1 := ⟨n - 1, by omega⟩
    simp only [List.append_nil] at hw
    subst hw
    unfold rCheckInst_l36
    rw [decide_eq_false (by omega), cond_false]
    rfl
  | x :: rest, pre, n, hw, hn => by
    obtain ⟨m, rfl⟩ : ∃ m, n = m + 1 := ⟨n - 1, by omega⟩
    have hlen : row.length = pre.length + (rest.length + 1) := by rw [hw]; simp
    have ih := ckCells hl ak e i a b c d k0 k1 rest (pre ++ [x]) m (by rw [hw]; simp) (by simp at hn; omega)
    unfold big at hl
    have hidx : idx (iRow row) (pre.length : Int) = some [.int .i64 x] := by rw [hw]; exact idx_iRow pre x rest
    have hk1 : IntKind.i64.wrap ((pre.length : Int) + 1) = ((pre ++ [x]).length : Int) := (wrapN (by omega) (by omega)).trans (by simp)
    have e0 : ([PV.int .i64 x] : List PV)[0]? = some (PV.int .i64 x) := rfl
    unfold rCheckInst_l36 cellsOk cellOk
    rw [decide_eq_true (by omega), cond_true, hidx]
    simp only [Option.bind_some, List.length_singleton, if_true, e0, asI_int, rWithin_ok, hk1, ih]
    rw [show (pre ++ [x]).length = pre.length + 1 by simp]
    cases inR x 0 1000
    · simp
    · by_cases h : ak = pre.length
      · by_cases hx : x = 0
        · simp [h, hx]
        · have hb : (x != 0) = true := by simpa using hx
          simp [h, hb]
      · have h' : ¬ (ak : Int) = (pre.length : Int) := by omega
        simp [h, h']
theorem ckRows {R : Type} {travel : List (List Int)} (hl : travel.length ≤ big) (hr : ∀ r ∈ travel, r.length ≤ big) (a b c : List (List PV)) (k0 : Bool → Option R) (k1 : Unit → Option R) : ∀ (rest pre : List (List Int)) (n : Nat), travel = pre ++ rest → rest.length + travel.length + 2 < n →
    rCheckInst_l31 n (trRow travel) (travel.length : Int) (pre.length : Int) a b c (trRow travel) k0 k1 = if rowsOk travel.length pre.length rest = true then k1 () else k0 false
  | [], pre, n, hw, hn => by
    obtain ⟨m, rfl⟩ : ∃ m, n = m + 1 := ⟨n - 1, by omega⟩
    simp only [List.append_nil] at hw
    subst hw
    unfold rCheckInst_l31
    rw [decide_eq_false (by omega), cond_false]
    rfl
  | x :: rest, pre, n, hw, hn => by
    obtain ⟨m, rfl⟩ : ∃ m, n = m + 1 := ⟨n - 1, by omega⟩
    have hlen : travel.length = pre.length + (rest.length + 1) := by rw [hw]; simp
    have ih := ckRows hl hr a b c k0 k1 rest (pre ++ [x]) m (by rw [hw]; simp) (by simp at hn; omega)
    have hxl := hr x (by rw [hw]; simp)
    have hidx : idx (trRow travel) (pre.length : Int) = some [.fs (iRow x)] := by rw [hw]; exact idx_tr pre x rest
    have hbig := hl
    unfold big at hl
    have hk1 : IntKind.i64.wrap ((pre.length : Int) + 1) = ((pre ++ [x]).length : Int) := (wrapN (by omega) (by omega)).trans (by simp)
    have e0 : ([PV.fs (iRow x)] : List PV)[0]? = some (PV.fs (iRow x)) := rfl
    unfold rCheckInst_l31 rowsOk
    rw [decide_eq_true (by omega), cond_true, hidx]
    simp only [Option.bind_some, List.length_singleton, if_true, e0, asFs_fs, iRow_length, trRow_length]
    by_cases hx : x.length = travel.length
    · rw [show (((x.length : Int) != (travel.length : Int)) : Bool) = false by simp [hx], cond_false]
      have ce := fun k2 => ckCells (R := R) hxl pre.length (trRow travel) (travel.length : Int) a b c (trRow travel) k0 k2 x [] m rfl (by simp at hn; omega)
      refine (ce _).trans ?_
      rw [hk1, ih, decide_eq_true hx, Bool.true_and, show (pre ++ [x]).length = pre.length + 1 by simp, List.length_nil]
      cases cellsOk pre.length 0 x <;> simp
    · rw [show (((x.length : Int) != (travel.length : Int)) : Bool) = true by rw [bne_iff_ne]; omega, cond_true, decide_eq_false hx]
      simp
theorem rCheckInst_ok : ∀ (i1 i2 i3 i4 : List (List PV)) (y : Bool), sCheckInst i1 i2 i3 i4 = some y → ∃ n, ∀ (R : Type) (k : Bool → Option R), rCheckInst_b n i1 i2 i3 i4 k = k y := by
  intro i1 i2 i3 i4 y h
  simp only [sCheckInst, Option.bind_eq_some_iff] at h
  obtain ⟨i, h1, h2⟩ := h
  split at h2
  case isFalse => cases h2
  rename_i hs
  cases h2
  obtain ⟨rfl, rfl, rfl, rfl, q1, q2, q3, q4⟩ := unInst_inv h1
  simp only [smallI, Bool.and_eq_true, decide_eq_true_eq, List.all_eq_true] at hs
  obtain ⟨s1, s2, s3, s4, s5⟩ := hs
  refine ⟨i.cars.length + i.stops.length + i.pairs.length + 2 * i.travel.length + 10, fun R k => ?_⟩
  generalize hN : i.cars.length + i.stops.length + i.pairs.length + 2 * i.travel.length + 10 = N
  unfold rCheckInst_b checkI
  rw [rWithin_ok, Option.bind_some, carRow_length, stpRow_length, trRow_length]
  cases inR i.cars.length 1 3 with
  | false => rw [Bool.not_false, cond_true, Bool.false_and]
  | true =>
    rw [Bool.not_true, cond_false, Bool.true_and]
    by_cases h10 : i.stops.length ≤ 10
    · rw [decide_eq_false (show ¬ ((i.stops.length : Int) > 10) by omega), cond_false, decide_eq_true h10, Bool.true_and, wrapN (by omega) (by omega)]
      by_cases ht : i.travel.length = i.stops.length + 1
      · rw [show (((i.travel.length : Int) != (i.stops.length : Int) + 1) : Bool) = false by simp [ht], cond_false, decide_eq_true ht, Bool.true_and]
        have p1 := fun k1 => ckCars (R := R) s1 (carRow i.cars) (stpRow i.stops) (prRow i.pairs) (trRow i.travel) k k1 i.cars [] N rfl (by omega)
        refine (p1 _).trans ?_
        cases i.cars.all carOk with
        | false => rw [if_neg (by simp), Bool.false_and]
        | true =>
          rw [if_pos rfl, Bool.true_and, stpRow_length]
          have p2 := fun k1 => ckStops (R := R) s2 (carRow i.cars) (stpRow i.stops) (prRow i.pairs) (trRow i.travel) k k1 i.stops [] N rfl (by omega)
          refine (p2 _).trans ?_
          cases i.stops.all stpOk with
          | false => rw [if_neg (by simp), Bool.false_and]
          | true =>
            rw [if_pos rfl, Bool.true_and, prRow_length]
            have p3 := fun k0 => ckPairs (R := R) q2 s3 s2 (carRow i.cars) (prRow i.pairs) (trRow i.travel) k0 k i.pairs [] [] N rfl (by omega)
            refine (p3 _).trans ?_
            cases pairsOk i.stops i.pairs [] with
            | false => rw [if_neg (by simp), Bool.false_and]
            | true =>
              rw [if_pos rfl, Bool.true_and, trRow_length]
              have p4 := fun k1 => ckRows (R := R) s4 s5 (carRow i.cars) (stpRow i.stops) (prRow i.pairs) k k1 i.travel [] N rfl (by omega)
              refine (p4 _).trans ?_
              cases rowsOk i.travel.length 0 i.travel <;> simp [*]
      · rw [show (((i.travel.length : Int) != (i.stops.length : Int) + 1) : Bool) = true by rw [bne_iff_ne]; omega, cond_true, decide_eq_false ht, Bool.false_and]
    · rw [decide_eq_true (show ((i.stops.length : Int) > 10) by omega), cond_true, decide_eq_false h10, Bool.false_and]
end Go.Proofs.YtkeklbicmfhemaaDoorV
namespace Go.Proofs.YtkeklbicmfhemaaDoorV
open Go
set_option maxRecDepth 20000
set_option linter.unusedSimpArgs false
theorem filled_rounds {R : Type} {x : Int} {N : Nat} (hN : N ≤ 1000) (k0 : List (List PV) → Option R) : ∀ (f j n : Nat), j + f = N → f < n →
    rFilled_l3 n x (N : Int) (j : Int) (iRow (List.replicate j x ++ List.replicate f 0)) k0 = k0 (iRow (List.replicate N x))
  | f, j, n, hj, hn => by
    obtain ⟨m, rfl⟩ : ∃ m, n = m + 1 := ⟨n - 1, by omega⟩
    unfold rFilled_l3
    cases f with
    | zero =>
      rw [decide_eq_false (by omega), cond_false]
      rw [show N = j by omega]
      simp
    | succ f =>
      have ih := filled_rounds (x := x) hN k0 f (j + 1) m (by omega) (by omega)
      have hlen : (iRow (List.replicate j x ++ List.replicate (f + 1) (0 : Int))).length = N := by rw [iRow_length]; simp; omega
      have hget : (iRow (List.replicate j x ++ List.replicate (f + 1) (0 : Int)))[Int.toNat (j : Int)]? = some [PV.int .i64 0] := by
        rw [Int.toNat_natCast, iRow, List.getElem?_map, List.getElem?_append_right (by simp)]
        simp
      have hset : List.set (iRow (List.replicate j x ++ List.replicate (f + 1) (0 : Int))) (Int.toNat (j : Int)) (List.set [PV.int .i64 0] 0 (PV.int .i64 x)) = iRow (List.replicate (j + 1) x ++ List.replicate f 0) := by
        rw [Int.toNat_natCast]
        have e1 : List.replicate (j + 1) x = List.replicate j x ++ [x] := List.replicate_succ'
        rw [e1, List.replicate_succ, List.append_assoc, iRow_append, iRow_append, List.set_append_right _ _ (by rw [iRow_length]; simp)]
        rw [iRow_length, List.length_replicate, Nat.sub_self]
        rfl
      have e0 : ([PV.int .i64 0] : List PV)[0]? = some (PV.int .i64 0) := rfl
      rw [decide_eq_true (by omega), cond_true, hlen, if_pos (by omega), hget, Option.bind_some, e0, Option.bind_some, hset, wrapN (by omega) (by omega), show ((j : Int) + 1) = ((j + 1 : Nat) : Int) by omega, ih]
theorem rFilled_ok : ∀ (n1 x2 : Int) (y : List (List PV)), sFilled n1 x2 = some y → ∃ n, ∀ (R : Type) (k : List (List PV) → Option R), rFilled_b n n1 x2 k = k y := by
  intro n1 x y h
  unfold sFilled at h
  split at h
  case isFalse => cases h
  rename_i hh
  cases h
  obtain ⟨h1, h2, _⟩ := hh
  obtain ⟨N, rfl⟩ : ∃ N : Nat, n1 = (N : Int) := ⟨n1.toNat, by omega⟩
  refine ⟨N + 1, fun R k => ?_⟩
  unfold rFilled_b
  rw [if_pos ⟨rfl, by omega, by unfold maxBytes; omega, rfl⟩, Int.toNat_natCast, List.length_replicate]
  have := filled_rounds (R := R) (x := x) (N := N) (by omega) k N 0 (N + 1) (by omega) (by omega)
  rw [show List.replicate N [PV.int .i64 0] = iRow (List.replicate 0 x ++ List.replicate N 0) by simp [iRow]]
  exact this
theorem noMem_iRow : ∀ l : List Int, noMemEs (iRow l) = true
  | [] => rfl
  | a :: l => by
    have := noMem_iRow l
    simp [iRow, noMemEs, noMemL, noMem] at this ⊢
    exact this
theorem rFilled_no : ∀ (n1 x2 : Int) (y : List (List PV)), sFilled n1 x2 = some y → (noMem (rFilled_E y).1 && noMemL (rFilled_E y).2) = true := by
  intro n x y h
  unfold sFilled at h
  split at h
  case isFalse => cases h
  cases h
  simp [rFilled_E, noMem, noMemL, noMem_iRow]
theorem sFilled_of {n : Nat} {x : Int} (h : n ≤ 1000) (hx : inI x = true) : sFilled (n : Int) x = some (iRow (List.replicate n x)) := by
  unfold sFilled
  rw [if_pos ⟨by omega, by omega, hx⟩, Int.toNat_natCast]
theorem checkI_small {i : Inst} (h : checkI i = true) : i.cars.length ≤ 3 ∧ i.stops.length ≤ 10 := by
  simp only [checkI, Bool.and_eq_true, decide_eq_true_eq, inR] at h
  omega
theorem rNewPlan_ok : ∀ (i1 i2 i3 i4 : List (List PV)) (y : List (List PV) × List (List PV) × List (List PV) × List (List PV) × List (List PV) × List (List PV) × Int), sNewPlan i1 i2 i3 i4 = some y → ∀ (R : Type) (k : List (List PV) → List (List PV) → List (List PV) → List (List PV) → List (List PV) → List (List PV) → Int → Option R), rNewPlan_b i1 i2 i3 i4 k = k y.1 y.2.1 y.2.2.1 y.2.2.2.1 y.2.2.2.2.1 y.2.2.2.2.2.1 y.2.2.2.2.2.2 := by
  intro i1 i2 i3 i4 y h R k
  simp only [sNewPlan, Option.bind_eq_some_iff] at h
  obtain ⟨i, h1, h2⟩ := h
  split at h2
  case isFalse => cases h2
  rename_i hs
  cases h2
  have hc : sCheckInst i1 i2 i3 i4 = some (checkI i) := by
    unfold sCheckInst
    rw [h1, Option.bind_some, if_pos hs]
  obtain ⟨rfl, rfl, rfl, rfl, -, -, -, -⟩ := unInst_inv h1
  unfold rNewPlan_b newPlan
  rw [hc, Option.bind_some]
  cases ck : checkI i with
  | false => rfl
  | true =>
    obtain ⟨c1, c2⟩ := checkI_small ck
    have w1 : IntKind.i64.wrap ((i.stops.length : Int) + 1) = ((i.stops.length + 1 : Nat) : Int) := (wrapN (by omega) (by omega)).trans (by omega)
    have f1 : sFilled ((i.stops.length + 1 : Nat) : Int) (-1) = some (iRow (List.replicate (i.stops.length + 1) (-1))) := sFilled_of (by omega) (by decide)
    have f2 : sFilled (i.cars.length : Int) (-1) = some (iRow (List.replicate i.cars.length (-1))) := sFilled_of (by omega) (by decide)
    have f3 : sFilled (i.cars.length : Int) 0 = some (iRow (List.replicate i.cars.length 0)) := sFilled_of (by omega) (by decide)
    have f4 : sFilled ((i.stops.length + 1 : Nat) : Int) 0 = some (iRow (List.replicate (i.stops.length + 1) 0)) := sFilled_of (by omega) (by decide)
    have hmk : (i.cars.length : Int) = (i.cars.length : Int) ∧ 0 ≤ (i.cars.length : Int) ∧ (i.cars.length : Int) * 24 ≤ maxBytes ∧ 1 = 1 := ⟨rfl, by omega, by unfold maxBytes; omega, rfl⟩
    have hr : List.replicate (Int.toNat (i.cars.length : Int)) [PV.fs []] = trRow (List.replicate i.cars.length []) := by rw [Int.toNat_natCast, trRow, List.map_replicate]; rfl
    have q : ∀ k1, rNewPlan_q5 (R := R) (i.cars.length : Int) ((i.stops.length + 1 : Nat) : Int) 0 k1 = k1 0 (trRow (List.replicate i.cars.length [])) (iRow (List.replicate (i.stops.length + 1) (-1))) (iRow (List.replicate i.cars.length (-1))) (iRow (List.replicate i.cars.length 0)) (iRow (List.replicate (i.stops.length + 1) 0)) (iRow (List.replicate i.cars.length 0)) := by
      intro k1
      unfold rNewPlan_q5
      simp only [f1, f2, f3, f4, Option.bind_some, hr, hmk.2.1, hmk.2.2.1, and_self, if_true, meet_self]
    rw [Bool.not_true, cond_false, carRow_length, stpRow_length, w1, q, meet_self]
    rfl
theorem mate_rounds {R : Type} {pairs : List (Int × Int)} (hl : pairs.length ≤ big) (s : Int) (k0 : Int → Option R) (k1 : Unit → Option R) (hk : k1 () = k0 0) : ∀ (rest pre : List (Int × Int)) (n : Nat), pairs = pre ++ rest → rest.length < n →
    rMate_l2 n s (prRow pairs) (pairs.length : Int) (pre.length : Int) k0 k1 = k0 (mateOf rest s)
  | [], pre, n, hw, hn => by
    obtain ⟨m, rfl⟩ : ∃ m, n = m + 1 := ⟨n - 1, by omega⟩
    simp only [List.append_nil] at hw
    subst hw
    unfold rMate_l2
    rw [decide_eq_false (by omega), cond_false, hk]
    rfl
  | x :: rest, pre, n, hw, hn => by
    obtain ⟨m, rfl⟩ : ∃ m, n = m + 1 := ⟨n - 1, by omega⟩
    have hlen : pairs.length = pre.length + (rest.length + 1) := by rw [hw]; simp
    have ih := mate_rounds hl s k0 k1 hk rest (pre ++ [x]) m (by rw [hw]; simp) (by simp at hn; omega)
    unfold big at hl
    have hidx : idx (prRow pairs) (pre.length : Int) = some [.int .i64 x.1, .int .i64 x.2] := by rw [hw]; exact idx_pr pre x rest
    have hl2 : ([.int .i64 x.1, .int .i64 x.2] : List PV).length = 2 := rfl
    have hsub : subAgg [.int .i64 x.1, .int .i64 x.2] 0 2 = some (.agg [.int .i64 x.1, .int .i64 x.2]) := rfl
    have hagg : PV.isAgg (.agg [.int .i64 x.1, .int .i64 x.2]) 2 = true := rfl
    have c0 : (PV.cells (.agg [.int .i64 x.1, .int .i64 x.2]))[0]? = some (.int .i64 x.1) := rfl
    have c1 : (PV.cells (.agg [.int .i64 x.1, .int .i64 x.2]))[1]? = some (.int .i64 x.2) := rfl
    have hk1 : IntKind.i64.wrap ((pre.length : Int) + 1) = ((pre ++ [x]).length : Int) := (wrapN (by omega) (by omega)).trans (by simp)
    unfold rMate_l2 mateOf
    rw [decide_eq_true (by omega), cond_true, hidx]
    simp only [Option.bind_some, hl2, if_true, hsub, hagg, c0, c1, asI_int, hk1, ih]
    by_cases h1 : x.1 = s
    · rw [if_pos h1, h1, beq_self_eq_true, cond_true]
    · rw [if_neg h1, show (x.1 == s) = false by simpa using h1, cond_false]
      by_cases h2 : x.2 = s
      · rw [if_pos h2, h2, beq_self_eq_true, cond_true]
      · rw [if_neg h2, show (x.2 == s) = false by simpa using h2, cond_false]
theorem rMate_ok : ∀ (i1 i2 i3 i4 : List (List PV)) (s : Int) (y : Int), sMate i1 i2 i3 i4 s = some y → ∃ n, ∀ (R : Type) (k : Int → Option R), rMate_b n i1 i2 i3 i4 s k = k y := by
  intro i1 i2 i3 i4 s y h
  simp only [sMate, Option.bind_eq_some_iff] at h
  obtain ⟨i, h1, h2⟩ := h
  split at h2
  case isFalse => cases h2
  rename_i hs
  cases h2
  obtain ⟨rfl, rfl, rfl, rfl, -, -, -, -⟩ := unInst_inv h1
  simp only [smallI, Bool.and_eq_true, decide_eq_true_eq] at hs
  refine ⟨i.pairs.length + 1, fun R k => ?_⟩
  unfold rMate_b
  rw [prRow_length]
  exact mate_rounds hs.2.2.1 s k (fun _ => k 0) rfl i.pairs [] (i.pairs.length + 1) rfl (by omega)
theorem first_rounds {R : Type} {pairs : List (Int × Int)} (hl : pairs.length ≤ big) (s : Int) (k0 : Bool → Option R) (k1 : Unit → Option R) (hk : k1 () = k0 false) : ∀ (rest pre : List (Int × Int)) (n : Nat), pairs = pre ++ rest → rest.length < n →
    rFirst_l2 n s (prRow pairs) (pairs.length : Int) (pre.length : Int) k0 k1 = k0 (firstOf rest s)
  | [], pre, n, hw, hn => by
    obtain ⟨m, rfl⟩ : ∃ m, n = m + 1 := ⟨n - 1, by omega⟩
    simp only [List.append_nil] at hw
    subst hw
    unfold rFirst_l2
    rw [decide_eq_false (by omega), cond_false, hk]
    rfl
  | x :: rest, pre, n, hw, hn => by
    obtain ⟨m, rfl⟩ : ∃ m, n = m + 1 := ⟨n - 1, by omega⟩
    have hlen : pairs.length = pre.length + (rest.length + 1) := by rw [hw]; simp
    have ih := first_rounds hl s k0 k1 hk rest (pre ++ [x]) m (by rw [hw]; simp) (by simp at hn; omega)
    unfold big at hl
    have hidx : idx (prRow pairs) (pre.length : Int) = some [.int .i64 x.1, .int .i64 x.2] := by rw [hw]; exact idx_pr pre x rest
    have hl2 : ([.int .i64 x.1, .int .i64 x.2] : List PV).length = 2 := rfl
    have hsub : subAgg [.int .i64 x.1, .int .i64 x.2] 0 2 = some (.agg [.int .i64 x.1, .int .i64 x.2]) := rfl
    have hagg : PV.isAgg (.agg [.int .i64 x.1, .int .i64 x.2]) 2 = true := rfl
    have c0 : (PV.cells (.agg [.int .i64 x.1, .int .i64 x.2]))[0]? = some (.int .i64 x.1) := rfl
    have hk1 : IntKind.i64.wrap ((pre.length : Int) + 1) = ((pre ++ [x]).length : Int) := (wrapN (by omega) (by omega)).trans (by simp)
    unfold rFirst_l2 firstOf
    rw [decide_eq_true (by omega), cond_true, hidx]
    simp only [Option.bind_some, hl2, if_true, hsub, hagg, c0, asI_int, hk1, ih, List.any_cons]
    by_cases h1 : x.1 = s
    · rw [h1, beq_self_eq_true, cond_true, Bool.true_or]
    · rw [show (x.1 == s) = false by simpa using h1, cond_false, Bool.false_or]
      rfl
theorem rFirst_ok : ∀ (i1 i2 i3 i4 : List (List PV)) (s : Int) (y : Bool), sFirst i1 i2 i3 i4 s = some y → ∃ n, ∀ (R : Type) (k : Bool → Option R), rFirst_b n i1 i2 i3 i4 s k = k y := by
  intro i1 i2 i3 i4 s y h
  simp only [sFirst, Option.bind_eq_some_iff] at h
  obtain ⟨i, h1, h2⟩ := h
  split at h2
  case isFalse => cases h2
  rename_i hs
  cases h2
  obtain ⟨rfl, rfl, rfl, rfl, -, -, -, -⟩ := unInst_inv h1
  simp only [smallI, Bool.and_eq_true, decide_eq_true_eq] at hs
  refine ⟨i.pairs.length + 1, fun R k => ?_⟩
  unfold rFirst_b
  rw [prRow_length]
  exact first_rounds hs.2.2.1 s k (fun _ => k false) rfl i.pairs [] (i.pairs.length + 1) rfl (by omega)
end Go.Proofs.YtkeklbicmfhemaaDoorV
namespace Go.Proofs.YtkeklbicmfhemaaDoorV
open Go
def beside (s t : ByteArray) : Prop := t.size ≤ s.size + 400 ∧ (10 ∈ t.data.toList → 10 ∈ s.data.toList)
def lineP (_ _ _ _ _ _ _ _ _ _ : List (List PV)) (_ _ _ _ : Int) (s t : ByteArray) : Prop := beside s t
def actP (s : ByteArray) (a : Act) : Prop := 1 ≤ a.1 ∧ a.1 ≤ 6 ∧ 0 ≤ a.2.1 ∧ a.2.1 ≤ 9999 ∧ (textK a.1 = false → a.2.2 = text []) ∧ beside s a.2.2
def actsP (_ _ _ _ _ : List (List PV)) (s : ByteArray) (y : List (List PV)) : Prop := ∃ l : List Act, y = aRow l ∧ l.length ≤ 20 ∧ ∀ a ∈ l, actP s a
def sScriptTells (l m : List (List PV)) (s : ByteArray) (how x at' : Int) (_ : Bool) : Option Bool := (unI l).bind fun l => (unI m).bind fun m => if l.length ≤ mega ∧ m.length ≤ mega ∧ s.size ≤ mega ∧ inI how = true ∧ inI x = true ∧ inI at' = true then some true else none
def sRPrint24 (es : List (List PV)) : Option (ByteArray × Bool) := (unA es).bind fun l => if l.length ≤ 1000 ∧ l.all okA = true then some (match printF l [] with | some o => (text o, true) | none => (text [], false)) else none
def sRParse24 (s : ByteArray) : Option (List (List PV) × Bool) := if s.size < lim then some (match parseV s.data.toList with | some a => (aRow a, true) | none => ([], false)) else none
end Go.Proofs.YtkeklbicmfhemaaDoorV
namespace Go.Proofs.YtkeklbicmfhemaaDoorV
open Go
set_option maxRecDepth 100000
set_option linter.unusedVariables false
set_option linter.unusedSimpArgs false
noncomputable section
def pLine_q51 {R : Type} (n305 : Int) (s306 : ByteArray) (car307 : Int) (i308 : Int) (b309 : Bool) (k0 : ByteArray → Option R) (k1 : ByteArray → Option R) : Option R :=
  cond b309 (
    k0 (ByteArray.mk #[114, 101, 100, 111])) (
    cond (i308 == (25 : Int)) (
      Option.bind (sRDigits car307) fun y310 =>
      if ((ByteArray.mk #[115, 104, 111, 119, 32])).size + (y310).size ≤ 140737488355328 then
        k0 ((ByteArray.mk #[115, 104, 111, 119, 32]) ++ y310)
      else none) (
      cond (i308 == (26 : Int)) (
        k0 (ByteArray.mk #[112, 111, 111, 108])) (
        cond (i308 == (27 : Int)) (
          k0 (ByteArray.mk #[99, 111, 115, 116])) (
          cond (i308 == (28 : Int)) (
            Option.bind (within_d n305 17) fun y311 =>
            if 0 ≤ y311 ∧ y311 < (17 : Int) then
              Option.bind (([[(PV.str (ByteArray.mk #[]))], [(PV.str (ByteArray.mk #[32]))], [(PV.str (ByteArray.mk #[97, 100, 100]))], [(PV.str (ByteArray.mk #[100, 101, 108]))], [(PV.str (ByteArray.mk #[100, 101, 108, 32, 120]))], [(PV.str (ByteArray.mk #[100, 101, 108, 32, 45, 49]))], [(PV.str (ByteArray.mk #[100, 101, 108, 32, 48, 49]))], [(PV.str (ByteArray.mk #[100, 101, 108, 32, 49, 48, 48, 48]))], [(PV.str (ByteArray.mk #[108, 111, 99, 107, 32, 49, 32, 50]))], [(PV.str (ByteArray.mk #[111, 112, 116, 32, 48, 32, 49, 32, 48]))], [(PV.str (ByteArray.mk #[111, 112, 116, 32, 50, 49, 32, 49, 32, 48]))], [(PV.str (ByteArray.mk #[117, 110, 100, 111, 32, 49]))], [(PV.str (ByteArray.mk #[80, 111, 111, 108]))], [(PV.str (ByteArray.mk #[32, 32, 99, 111, 115, 116, 32]))], [(PV.str (ByteArray.mk #[115, 104, 111, 119, 32, 32, 48]))], [(PV.str (ByteArray.mk #[109, 111, 118, 32, 49, 32, 48, 32, 48, 32, 48, 32, 48]))], [(PV.str (ByteArray.mk #[119, 104, 97, 116]))]] : List (List PV))[(Int.toNat y311)]?) fun e312 =>
              Option.bind (e312[0]?) fun c313 =>
              Option.bind (PV.asS c313) fun s314 =>
              k0 s314
            else none) (
            k1 s306)))))
def pLine_q48 {R : Type} (n296 : Int) (s297 : ByteArray) (car298 : Int) (i299 : Int) (b300 : Bool) (k0 : ByteArray → Option R) (k1 : ByteArray → Option R) : Option R :=
  cond b300 (
    k0 (ByteArray.mk #[117, 110, 100, 111])) (
    cond (i299 == (23 : Int)) (
      pLine_q51 n296 s297 car298 i299 true k0 k1) (
      pLine_q51 n296 s297 car298 i299 (i299 == (24 : Int)) k0 k1))
def pLine_q41 {R : Type} (n272 : Int) (m273 : Int) (s274 : ByteArray) (car275 : Int) (i276 : Int) (b277 : Bool) (es278 : List (List PV)) (es279 : List (List PV)) (es280 : List (List PV)) (es281 : List (List PV)) (k0 : ByteArray → Option R) (k1 : ByteArray → Option R) : Option R :=
  cond b277 (
    Option.bind (within_d n272 12) fun y282 =>
    Option.bind (sRDigits (IntKind.i64.wrap ((1 : Int) + y282))) fun y283 =>
    if ((ByteArray.mk #[111, 112, 116, 32])).size + (y283).size ≤ 140737488355328 then
      if (((ByteArray.mk #[111, 112, 116, 32]) ++ y283)).size + ((ByteArray.mk #[32])).size ≤ 140737488355328 then
        Option.bind (within_d m273 1000) fun y284 =>
        Option.bind (sRDigits y284) fun y285 =>
        if ((((ByteArray.mk #[111, 112, 116, 32]) ++ y283) ++ (ByteArray.mk #[32]))).size + (y285).size ≤ 140737488355328 then
          if (((((ByteArray.mk #[111, 112, 116, 32]) ++ y283) ++ (ByteArray.mk #[32])) ++ y285)).size + ((ByteArray.mk #[32])).size ≤ 140737488355328 then
            Option.bind (sRDigits car275) fun y286 =>
            if ((((((ByteArray.mk #[111, 112, 116, 32]) ++ y283) ++ (ByteArray.mk #[32])) ++ y285) ++ (ByteArray.mk #[32]))).size + (y286).size ≤ 140737488355328 then
              Option.bind (within_d n272 3) fun y287 =>
              cond (decide (y287 > (0 : Int))) (
                Option.bind (within_d (IntKind.i64.wrap (Int.tdiv m273 (7 : Int))) (IntKind.i64.wrap ((es278.length : Int) + (1 : Int)))) fun y288 =>
                Option.bind (sRDigits y288) fun y289 =>
                if ((ByteArray.mk #[32])).size + (y289).size ≤ 140737488355328 then
                  if (((((((ByteArray.mk #[111, 112, 116, 32]) ++ y283) ++ (ByteArray.mk #[32])) ++ y285) ++ (ByteArray.mk #[32])) ++ y286)).size + (((ByteArray.mk #[32]) ++ y289)).size ≤ 140737488355328 then
                    k0 (((((((ByteArray.mk #[111, 112, 116, 32]) ++ y283) ++ (ByteArray.mk #[32])) ++ y285) ++ (ByteArray.mk #[32])) ++ y286) ++ ((ByteArray.mk #[32]) ++ y289))
                  else none
                else none) (
                k0 ((((((ByteArray.mk #[111, 112, 116, 32]) ++ y283) ++ (ByteArray.mk #[32])) ++ y285) ++ (ByteArray.mk #[32])) ++ y286))
            else none
          else none
        else none
      else none
    else none) (
    cond (i276 == (20 : Int)) (
      pLine_q48 n272 s274 car275 i276 true k0 k1) (
      cond (i276 == (21 : Int)) (
        pLine_q48 n272 s274 car275 i276 true k0 k1) (
        pLine_q48 n272 s274 car275 i276 (i276 == (22 : Int)) k0 k1)))
def pLine_q29 {R : Type} (n250 : Int) (m251 : Int) (s252 : ByteArray) (stop253 : Int) (car254 : Int) (place255 : ByteArray) (i256 : Int) (b257 : Bool) (es258 : List (List PV)) (es259 : List (List PV)) (es260 : List (List PV)) (es261 : List (List PV)) (k0 : ByteArray → Option R) (k1 : ByteArray → Option R) : Option R :=
  cond b257 (
    if ((ByteArray.mk #[109, 111, 118])).size + (place255).size ≤ 140737488355328 then
      k0 ((ByteArray.mk #[109, 111, 118]) ++ place255)
    else none) (
    cond (i256 == (13 : Int)) (
      Option.bind (sRDigits stop253) fun y262 =>
      if ((ByteArray.mk #[108, 111, 99, 107, 32])).size + (y262).size ≤ 140737488355328 then
        k0 ((ByteArray.mk #[108, 111, 99, 107, 32]) ++ y262)
      else none) (
      cond (i256 == (14 : Int)) (
        Option.bind (sRDigits stop253) fun y263 =>
        if ((ByteArray.mk #[102, 114, 101, 101, 32])).size + (y263).size ≤ 140737488355328 then
          k0 ((ByteArray.mk #[102, 114, 101, 101, 32]) ++ y263)
        else none) (
        cond (i256 == (15 : Int)) (
          Option.bind (sRDigits car254) fun y264 =>
          if ((ByteArray.mk #[105, 99, 101, 32])).size + (y264).size ≤ 140737488355328 then
            k0 ((ByteArray.mk #[105, 99, 101, 32]) ++ y264)
          else none) (
          cond (i256 == (16 : Int)) (
            Option.bind (sRDigits car254) fun y265 =>
            if ((ByteArray.mk #[116, 104, 97, 119, 32])).size + (y265).size ≤ 140737488355328 then
              k0 ((ByteArray.mk #[116, 104, 97, 119, 32]) ++ y265)
            else none) (
            cond (i256 == (17 : Int)) (
              pLine_q41 n250 m251 s252 car254 i256 true es258 es259 es260 es261 k0 k1) (
              cond (i256 == (18 : Int)) (
                pLine_q41 n250 m251 s252 car254 i256 true es258 es259 es260 es261 k0 k1) (
                pLine_q41 n250 m251 s252 car254 i256 (i256 == (19 : Int)) es258 es259 es260 es261 k0 k1)))))))
def pLine_q25 {R : Type} (n231 : Int) (m232 : Int) (s233 : ByteArray) (stop234 : Int) (car235 : Int) (place236 : ByteArray) (i237 : Int) (b238 : Bool) (es239 : List (List PV)) (es240 : List (List PV)) (es241 : List (List PV)) (es242 : List (List PV)) (k0 : ByteArray → Option R) (k1 : ByteArray → Option R) : Option R :=
  cond b238 (
    Option.bind (sRDigits stop234) fun y243 =>
    if ((ByteArray.mk #[100, 101, 108, 32])).size + (y243).size ≤ 140737488355328 then
      k0 ((ByteArray.mk #[100, 101, 108, 32]) ++ y243)
    else none) (
    cond (i237 == (10 : Int)) (
      pLine_q29 n231 m232 s233 stop234 car235 place236 i237 true es239 es240 es241 es242 k0 k1) (
      cond (i237 == (11 : Int)) (
        pLine_q29 n231 m232 s233 stop234 car235 place236 i237 true es239 es240 es241 es242 k0 k1) (
        pLine_q29 n231 m232 s233 stop234 car235 place236 i237 (i237 == (12 : Int)) es239 es240 es241 es242 k0 k1)))
def pLine_q22 {R : Type} (n215 : Int) (m216 : Int) (s217 : ByteArray) (stop218 : Int) (car219 : Int) (place220 : ByteArray) (i221 : Int) (b222 : Bool) (es223 : List (List PV)) (es224 : List (List PV)) (es225 : List (List PV)) (es226 : List (List PV)) (k0 : ByteArray → Option R) (k1 : ByteArray → Option R) : Option R :=
  cond b222 (
    if ((ByteArray.mk #[97, 100, 100])).size + (place220).size ≤ 140737488355328 then
      k0 ((ByteArray.mk #[97, 100, 100]) ++ place220)
    else none) (
    cond (i221 == (8 : Int)) (
      pLine_q25 n215 m216 s217 stop218 car219 place220 i221 true es223 es224 es225 es226 k0 k1) (
      pLine_q25 n215 m216 s217 stop218 car219 place220 i221 (i221 == (9 : Int)) es223 es224 es225 es226 k0 k1))
def pLine_q12 {R : Type} (k200 : Int) (n201 : Int) (m202 : Int) (s203 : ByteArray) (stop204 : Int) (car205 : Int) (size206 : Int) (place207 : ByteArray) (es208 : List (List PV)) (es209 : List (List PV)) (es210 : List (List PV)) (es211 : List (List PV)) (k0 : Int → Int → Int → ByteArray → Int → Int → ByteArray → List (List PV) → List (List PV) → List (List PV) → List (List PV) → Option R) : Option R :=
  Option.bind (within_d (IntKind.i64.wrap (Int.tdiv n201 (11 : Int))) (IntKind.i64.wrap (size206 + (1 : Int)))) fun y212 =>
  Option.bind (within_d (IntKind.i64.wrap (Int.tdiv m202 (5 : Int))) (IntKind.i64.wrap (size206 + (1 : Int)))) fun y213 =>
  Option.bind (sRDigits (IntKind.i64.wrap ((IntKind.i64.wrap (y212 + (1 : Int))) + (IntKind.i64.wrap (Int.tdiv y213 (2 : Int)))))) fun y214 =>
  if ((ByteArray.mk #[32])).size + (y214).size ≤ 140737488355328 then
    if (place207).size + (((ByteArray.mk #[32]) ++ y214)).size ≤ 140737488355328 then
      k0 k200 n201 m202 s203 stop204 car205 (place207 ++ ((ByteArray.mk #[32]) ++ y214)) es208 es209 es210 es211
    else none
  else none
def pLine_q10 {R : Type} (k159 : Int) (n160 : Int) (m161 : Int) (s162 : ByteArray) (stop163 : Int) (car164 : Int) (size165 : Int) (place166 : ByteArray) (b167 : Bool) (es168 : List (List PV)) (es169 : List (List PV)) (es170 : List (List PV)) (es171 : List (List PV)) (k0 : Int → Int → Int → ByteArray → Int → Int → ByteArray → List (List PV) → List (List PV) → List (List PV) → List (List PV) → Option R) : Option R :=
  cond b167 (
    Option.bind (sFirst es168 es169 es170 es171 stop163) fun y172 =>
    cond (!y172) (
      Option.bind (sMate es168 es169 es170 es171 stop163) fun y173 =>
      Option.bind (sRDigits y173) fun y174 =>
      if ((ByteArray.mk #[32])).size + (y174).size ≤ 140737488355328 then
        if (((ByteArray.mk #[32]) ++ y174)).size + ((ByteArray.mk #[32])).size ≤ 140737488355328 then
          Option.bind (sRDigits car164) fun y175 =>
          if ((((ByteArray.mk #[32]) ++ y174) ++ (ByteArray.mk #[32]))).size + (y175).size ≤ 140737488355328 then
            if (((((ByteArray.mk #[32]) ++ y174) ++ (ByteArray.mk #[32])) ++ y175)).size + ((ByteArray.mk #[32])).size ≤ 140737488355328 then
              Option.bind (within_d (IntKind.i64.wrap (Int.tdiv n160 (11 : Int))) (IntKind.i64.wrap (size165 + (1 : Int)))) fun y176 =>
              Option.bind (sRDigits y176) fun y177 =>
              if ((((((ByteArray.mk #[32]) ++ y174) ++ (ByteArray.mk #[32])) ++ y175) ++ (ByteArray.mk #[32]))).size + (y177).size ≤ 140737488355328 then
                pLine_q12 k159 n160 m161 s162 stop163 car164 size165 ((((((ByteArray.mk #[32]) ++ y174) ++ (ByteArray.mk #[32])) ++ y175) ++ (ByteArray.mk #[32])) ++ y177) es168 es169 es170 es171 k0
              else none
            else none
          else none
        else none
      else none) (
      pLine_q12 k159 n160 m161 s162 stop163 car164 size165 place166 es168 es169 es170 es171 k0)) (
    k0 k159 n160 m161 s162 stop163 car164 place166 es168 es169 es170 es171)
def pLine_q13 {R : Type} (k131 : Int) (n132 : Int) (m133 : Int) (s134 : ByteArray) (stop135 : Int) (car136 : Int) (place137 : ByteArray) (es138 : List (List PV)) (es139 : List (List PV)) (es140 : List (List PV)) (es141 : List (List PV)) (k0 : ByteArray → Option R) : Option R :=
  Option.bind (within_d k131 30) fun y142 =>
  cond (y142 == (0 : Int)) (
    pLine_q22 n132 m133 s134 stop135 car136 place137 y142 true es138 es139 es140 es141 k0 k0) (
    cond (y142 == (1 : Int)) (
      pLine_q22 n132 m133 s134 stop135 car136 place137 y142 true es138 es139 es140 es141 k0 k0) (
      cond (y142 == (2 : Int)) (
        pLine_q22 n132 m133 s134 stop135 car136 place137 y142 true es138 es139 es140 es141 k0 k0) (
        cond (y142 == (3 : Int)) (
          pLine_q22 n132 m133 s134 stop135 car136 place137 y142 true es138 es139 es140 es141 k0 k0) (
          cond (y142 == (4 : Int)) (
            pLine_q22 n132 m133 s134 stop135 car136 place137 y142 true es138 es139 es140 es141 k0 k0) (
            cond (y142 == (5 : Int)) (
              pLine_q22 n132 m133 s134 stop135 car136 place137 y142 true es138 es139 es140 es141 k0 k0) (
              cond (y142 == (6 : Int)) (
                pLine_q22 n132 m133 s134 stop135 car136 place137 y142 true es138 es139 es140 es141 k0 k0) (
                pLine_q22 n132 m133 s134 stop135 car136 place137 y142 (y142 == (7 : Int)) es138 es139 es140 es141 k0 k0)))))))
def pLine_q7 {R : Type} (k109 : Int) (n110 : Int) (m111 : Int) (s112 : ByteArray) (stop113 : Int) (car114 : Int) (size115 : Int) (b116 : Bool) (es117 : List (List PV)) (es118 : List (List PV)) (es119 : List (List PV)) (es120 : List (List PV)) (es121 : List (List PV)) (es122 : List (List PV)) (es123 : List (List PV)) (es124 : List (List PV)) (es125 : List (List PV)) (es126 : List (List PV)) (i127 : Int) (k0 : Int → Int → Int → ByteArray → Int → Int → Int → List (List PV) → List (List PV) → List (List PV) → List (List PV) → Option R) : Option R :=
  cond b116 (
    Option.bind (idx es121 car114) fun e128 =>
    if e128.length = 1 then
      Option.bind (e128[0]?) fun c129 =>
      Option.bind (PV.asFs c129) fun es130 =>
      k0 k109 n110 m111 s112 stop113 car114 (es130.length : Int) es117 es118 es119 es120
    else none) (
    k0 k109 n110 m111 s112 stop113 car114 size115 es117 es118 es119 es120)
def pLine_q8 {R : Type} (k67 : Int) (n68 : Int) (m69 : Int) (s70 : ByteArray) (stop71 : Int) (car72 : Int) (size73 : Int) (es74 : List (List PV)) (es75 : List (List PV)) (es76 : List (List PV)) (es77 : List (List PV)) (k0 : ByteArray → Option R) : Option R :=
  Option.bind (sRDigits stop71) fun y78 =>
  if ((ByteArray.mk #[32])).size + (y78).size ≤ 140737488355328 then
    if (((ByteArray.mk #[32]) ++ y78)).size + ((ByteArray.mk #[32])).size ≤ 140737488355328 then
      Option.bind (sRDigits car72) fun y79 =>
      if ((((ByteArray.mk #[32]) ++ y78) ++ (ByteArray.mk #[32]))).size + (y79).size ≤ 140737488355328 then
        if (((((ByteArray.mk #[32]) ++ y78) ++ (ByteArray.mk #[32])) ++ y79)).size + ((ByteArray.mk #[32])).size ≤ 140737488355328 then
          Option.bind (within_d (IntKind.i64.wrap (Int.tdiv n68 (11 : Int))) (IntKind.i64.wrap (size73 + (1 : Int)))) fun y80 =>
          Option.bind (within_d (IntKind.i64.wrap (Int.tdiv n68 (67 : Int))) 20) fun y81 =>
          Option.bind (sRDigits (IntKind.i64.wrap (y80 + (IntKind.i64.wrap (Int.tdiv y81 (19 : Int)))))) fun y82 =>
          if ((((((ByteArray.mk #[32]) ++ y78) ++ (ByteArray.mk #[32])) ++ y79) ++ (ByteArray.mk #[32]))).size + (y82).size ≤ 140737488355328 then
            Option.bind (sMate es74 es75 es76 es77 stop71) fun y83 =>
            cond (decide (y83 > (0 : Int))) (
              Option.bind (within_d (IntKind.i64.wrap (Int.tdiv n68 (5 : Int))) 9) fun y84 =>
              pLine_q10 k67 n68 m69 s70 stop71 car72 size73 ((((((ByteArray.mk #[32]) ++ y78) ++ (ByteArray.mk #[32])) ++ y79) ++ (ByteArray.mk #[32])) ++ y82) (decide (y84 < (8 : Int))) es74 es75 es76 es77
                (fun (k85 : Int) (n86 : Int) (m87 : Int) (s88 : ByteArray) (stop89 : Int) (car90 : Int) (place91 : ByteArray) (es92 : List (List PV)) (es93 : List (List PV)) (es94 : List (List PV)) (es95 : List (List PV)) =>
                  pLine_q13 k85 n86 m87 s88 stop89 car90 place91 es92 es93 es94 es95 k0)) (
              pLine_q10 k67 n68 m69 s70 stop71 car72 size73 ((((((ByteArray.mk #[32]) ++ y78) ++ (ByteArray.mk #[32])) ++ y79) ++ (ByteArray.mk #[32])) ++ y82) false es74 es75 es76 es77
                (fun (k97 : Int) (n98 : Int) (m99 : Int) (s100 : ByteArray) (stop101 : Int) (car102 : Int) (place103 : ByteArray) (es104 : List (List PV)) (es105 : List (List PV)) (es106 : List (List PV)) (es107 : List (List PV)) =>
                  pLine_q13 k97 n98 m99 s100 stop101 car102 place103 es104 es105 es106 es107 k0))
          else none
        else none
      else none
    else none
  else none
def pLine_q5 {R : Type} (k26 : Int) (n27 : Int) (m28 : Int) (s29 : ByteArray) (stop30 : Int) (car31 : Int) (es32 : List (List PV)) (es33 : List (List PV)) (es34 : List (List PV)) (es35 : List (List PV)) (es36 : List (List PV)) (es37 : List (List PV)) (es38 : List (List PV)) (es39 : List (List PV)) (es40 : List (List PV)) (es41 : List (List PV)) (i42 : Int) (k0 : ByteArray → Option R) : Option R :=
  cond (decide (car31 ≥ (0 : Int))) (
    pLine_q7 k26 n27 m28 s29 stop30 car31 0 (decide (car31 < (es36.length : Int))) es32 es33 es34 es35 es36 es37 es38 es39 es40 es41 i42
      (fun (k43 : Int) (n44 : Int) (m45 : Int) (s46 : ByteArray) (stop47 : Int) (car48 : Int) (size49 : Int) (es50 : List (List PV)) (es51 : List (List PV)) (es52 : List (List PV)) (es53 : List (List PV)) =>
        pLine_q8 k43 n44 m45 s46 stop47 car48 size49 es50 es51 es52 es53 k0)) (
    pLine_q7 k26 n27 m28 s29 stop30 car31 0 false es32 es33 es34 es35 es36 es37 es38 es39 es40 es41 i42
      (fun (k55 : Int) (n56 : Int) (m57 : Int) (s58 : ByteArray) (stop59 : Int) (car60 : Int) (size61 : Int) (es62 : List (List PV)) (es63 : List (List PV)) (es64 : List (List PV)) (es65 : List (List PV)) =>
        pLine_q8 k55 n56 m57 s58 stop59 car60 size61 es62 es63 es64 es65 k0))
def pLine_b {R : Type} (i1 : List (List PV)) (i2 : List (List PV)) (i3 : List (List PV)) (i4 : List (List PV)) (p5 : List (List PV)) (p6 : List (List PV)) (p7 : List (List PV)) (p8 : List (List PV)) (p9 : List (List PV)) (p10 : List (List PV)) (p11 : Int) (k12 : Int) (n13 : Int) (m14 : Int) (s15 : ByteArray) (k : ByteArray → Option R) : Option R :=
  meet (
    Option.bind (within_d n13 (IntKind.i64.wrap ((i2.length : Int) + (1 : Int)))) fun y16 =>
    Option.bind (within_d (IntKind.i64.wrap (Int.tdiv n13 (50 : Int))) 20) fun y17 =>
    Option.bind (within_d (IntKind.i64.wrap (Int.tdiv n13 (31 : Int))) 8) fun y18 =>
    Option.bind (within_d m14 (IntKind.i64.wrap ((i1.length : Int) + (IntKind.i64.wrap (Int.tdiv y18 (7 : Int)))))) fun y19 =>
    pLine_q5 k12 n13 m14 s15 (IntKind.i64.wrap (y16 + (IntKind.i64.wrap (Int.tdiv y17 (18 : Int))))) y19 i1 i2 i3 i4 p5 p6 p7 p8 p9 p10 p11 k) (
    Option.bind (within_d n13 (IntKind.i64.wrap ((i2.length : Int) + (1 : Int)))) fun y21 =>
    Option.bind (within_d (IntKind.i64.wrap (Int.tdiv n13 (50 : Int))) 20) fun y22 =>
    Option.bind (within_d (IntKind.i64.wrap (Int.tdiv n13 (31 : Int))) 8) fun y23 =>
    Option.bind (within_d m14 (IntKind.i64.wrap ((i1.length : Int) + (IntKind.i64.wrap (Int.tdiv y23 (7 : Int)))))) fun y24 =>
    pLine_q5 k12 n13 m14 s15 (IntKind.i64.wrap (y21 + (IntKind.i64.wrap (Int.tdiv y22 (18 : Int))))) y24 i1 i2 i3 i4 p5 p6 p7 p8 p9 p10 p11 k)
def pLine_E (y : ByteArray) : PV × List PV := ((PV.str y), [])
open Classical in
noncomputable def sPLine (i1 : List (List PV)) (i2 : List (List PV)) (i3 : List (List PV)) (i4 : List (List PV)) (p5 : List (List PV)) (p6 : List (List PV)) (p7 : List (List PV)) (p8 : List (List PV)) (p9 : List (List PV)) (p10 : List (List PV)) (p11 : Int) (k12 : Int) (n13 : Int) (m14 : Int) (s15 : ByteArray) : Option (ByteArray) := if h : ∃ y : ByteArray, lineP i1 i2 i3 i4 p5 p6 p7 p8 p9 p10 p11 k12 n13 m14 s15 y ∧ ∀ (R : Type) (k : ByteArray → Option R), pLine_b  i1 i2 i3 i4 p5 p6 p7 p8 p9 p10 p11 k12 n13 m14 s15 k = k y then some (Classical.choose h) else none
theorem pLine_pick (i1 : List (List PV)) (i2 : List (List PV)) (i3 : List (List PV)) (i4 : List (List PV)) (p5 : List (List PV)) (p6 : List (List PV)) (p7 : List (List PV)) (p8 : List (List PV)) (p9 : List (List PV)) (p10 : List (List PV)) (p11 : Int) (k12 : Int) (n13 : Int) (m14 : Int) (s15 : ByteArray) (y : ByteArray) (h : sPLine i1 i2 i3 i4 p5 p6 p7 p8 p9 p10 p11 k12 n13 m14 s15 = some y) : lineP i1 i2 i3 i4 p5 p6 p7 p8 p9 p10 p11 k12 n13 m14 s15 y ∧ ∀ (R : Type) (k : ByteArray → Option R), pLine_b  i1 i2 i3 i4 p5 p6 p7 p8 p9 p10 p11 k12 n13 m14 s15 k = k y := by
  unfold sPLine at h
  split at h
  · rename_i hh
    cases h
    exact Classical.choose_spec hh
  · cases h
theorem pLine_ok : ∀ (i1 : List (List PV)) (i2 : List (List PV)) (i3 : List (List PV)) (i4 : List (List PV)) (p5 : List (List PV)) (p6 : List (List PV)) (p7 : List (List PV)) (p8 : List (List PV)) (p9 : List (List PV)) (p10 : List (List PV)) (p11 : Int) (k12 : Int) (n13 : Int) (m14 : Int) (s15 : ByteArray) (y : ByteArray), sPLine i1 i2 i3 i4 p5 p6 p7 p8 p9 p10 p11 k12 n13 m14 s15 = some y → ∀ (R : Type) (k : ByteArray → Option R), pLine_b  i1 i2 i3 i4 p5 p6 p7 p8 p9 p10 p11 k12 n13 m14 s15 k = k y := fun i1 i2 i3 i4 p5 p6 p7 p8 p9 p10 p11 k12 n13 m14 s15 y h => (pLine_pick i1 i2 i3 i4 p5 p6 p7 p8 p9 p10 p11 k12 n13 m14 s15 y h).2
theorem pLine_got (i1 : List (List PV)) (i2 : List (List PV)) (i3 : List (List PV)) (i4 : List (List PV)) (p5 : List (List PV)) (p6 : List (List PV)) (p7 : List (List PV)) (p8 : List (List PV)) (p9 : List (List PV)) (p10 : List (List PV)) (p11 : Int) (k12 : Int) (n13 : Int) (m14 : Int) (s15 : ByteArray) (h : ∃ y : ByteArray, lineP i1 i2 i3 i4 p5 p6 p7 p8 p9 p10 p11 k12 n13 m14 s15 y ∧ ∀ (R : Type) (k : ByteArray → Option R), pLine_b  i1 i2 i3 i4 p5 p6 p7 p8 p9 p10 p11 k12 n13 m14 s15 k = k y) : ∃ y, sPLine i1 i2 i3 i4 p5 p6 p7 p8 p9 p10 p11 k12 n13 m14 s15 = some y ∧ lineP i1 i2 i3 i4 p5 p6 p7 p8 p9 p10 p11 k12 n13 m14 s15 y := by
  unfold sPLine
  rw [dif_pos h]
  exact ⟨_, rfl, (Classical.choose_spec h).1⟩
def pLine_D : List PV → Option (ByteArray)
  | [(PV.agg [(PV.fs i1), (PV.fs i2), (PV.fs i3), (PV.fs i4)]), (PV.agg [(PV.fs p5), (PV.fs p6), (PV.fs p7), (PV.fs p8), (PV.fs p9), (PV.fs p10), (PV.int .i64 p11)]), (PV.int .i64 k12), (PV.int .i64 n13), (PV.int .i64 m14), (PV.str s15)] => sPLine i1 i2 i3 i4 p5 p6 p7 p8 p9 p10 p11 k12 n13 m14 s15
  | _ => none
def pLine_Γ : List (Nat × Cal) := [(16, .ctr within_C), (28, .ctr rDigits_C), (69, .ctr rMate_C), (70, .ctr rFirst_C)]
def pLine_C : Ctr := ⟨[none, none, none, none, none, none], ByteArray, pLine_D, pLine_E, true, .d⟩
def pLine_cfg : List (Nat × LC) := [(4000022, ⟨[3, 4, 5, 6, 13, 14, 15, 16, 18, 143, 144], [], [], []⟩),
  (4000012, ⟨[2, 3, 4, 5, 6, 13, 14, 15, 16, 17, 18], [], [], []⟩),
  (4000010, ⟨[2, 3, 4, 5, 6, 13, 14, 15, 16, 17, 18, 95], [], [], []⟩),
  (4000008, ⟨[2, 3, 4, 5, 6, 13, 14, 15, 16, 17], [], [], []⟩),
  (4000007, ⟨[2, 3, 4, 5, 6, 7, 13, 14, 15, 16, 17, 53], [], [], []⟩),
  (4000005, ⟨[2, 3, 4, 5, 6, 7, 13, 14, 15, 16], [], [], []⟩),
  (5000007, ⟨[2, 3, 4, 5, 6, 13, 14, 15, 16, 17], [], [], []⟩),
  (5000010, ⟨[2, 3, 4, 5, 6, 13, 14, 15, 16, 18], [], [], []⟩),
  (5000012, ⟨[2, 3, 4, 5, 6, 13, 14, 15, 16, 18], [], [], []⟩),
  (4000013, ⟨[2, 3, 4, 5, 6, 13, 14, 15, 16, 18], [], [], []⟩),
  (6000022, ⟨[12], [], [], []⟩),
  (4000025, ⟨[3, 4, 5, 6, 13, 14, 15, 16, 18, 143, 155], [], [], []⟩),
  (6000025, ⟨[12], [], [], []⟩),
  (4000029, ⟨[3, 4, 5, 6, 13, 14, 15, 16, 18, 143, 162], [], [], []⟩),
  (6000029, ⟨[12], [], [], []⟩),
  (4000041, ⟨[3, 4, 5, 6, 13, 14, 16, 143, 192], [], [], []⟩),
  (6000041, ⟨[12], [], [], []⟩),
  (4000048, ⟨[3, 5, 13, 14, 16, 143, 233], [], [], []⟩),
  (6000048, ⟨[12], [], [], []⟩),
  (4000051, ⟨[3, 5, 13, 14, 16, 143, 237], [], [], []⟩),
  (6000051, ⟨[12], [], [], []⟩),
  (5000051, ⟨[5], [], [], []⟩),
  (6000013, ⟨[12], [], [], []⟩),
  (5000048, ⟨[5], [], [], []⟩),
  (6000008, ⟨[12], [], [], []⟩),
  (5000041, ⟨[5], [], [], []⟩),
  (6000005, ⟨[12], [], [], []⟩),
  (5000029, ⟨[5], [], [], []⟩),
  (5000025, ⟨[5], [], [], []⟩),
  (5000022, ⟨[5], [], [], []⟩)]
def pLine_pat : Nat → Option SP
  | _ => none
def pLine_patj : Nat → Option SP
  | 51 => some ⟨sparse .undef [(3, (.val (.int .i64))), (5, (.val .str)), (13, (.val (.fn 16 []))), (14, (.val (.fn 28 []))), (16, (.val (.int .i64))), (143, (.val (.int .i64))), (237, (.val .bool))] 0 259, [], []⟩
  | 48 => some ⟨sparse .undef [(3, (.val (.int .i64))), (5, (.val .str)), (13, (.val (.fn 16 []))), (14, (.val (.fn 28 []))), (16, (.val (.int .i64))), (143, (.val (.int .i64))), (233, (.val .bool))] 0 259, [], []⟩
  | 41 => some ⟨sparse .undef [(3, (.val (.int .i64))), (4, (.val (.int .i64))), (5, (.val .str)), (6, (.ref 0 0)), (13, (.val (.fn 16 []))), (14, (.val (.fn 28 []))), (16, (.val (.int .i64))), (143, (.val (.int .i64))), (192, (.val .bool))] 0 259, [(.pbox (.agg [.fs, .fs, .fs, .fs]) 4)], []⟩
  | 29 => some ⟨sparse .undef [(3, (.val (.int .i64))), (4, (.val (.int .i64))), (5, (.val .str)), (6, (.ref 0 0)), (13, (.val (.fn 16 []))), (14, (.val (.fn 28 []))), (15, (.val (.int .i64))), (16, (.val (.int .i64))), (18, (.val .str)), (143, (.val (.int .i64))), (162, (.val .bool))] 0 259, [(.pbox (.agg [.fs, .fs, .fs, .fs]) 4)], []⟩
  | 25 => some ⟨sparse .undef [(3, (.val (.int .i64))), (4, (.val (.int .i64))), (5, (.val .str)), (6, (.ref 0 0)), (13, (.val (.fn 16 []))), (14, (.val (.fn 28 []))), (15, (.val (.int .i64))), (16, (.val (.int .i64))), (18, (.val .str)), (143, (.val (.int .i64))), (155, (.val .bool))] 0 259, [(.pbox (.agg [.fs, .fs, .fs, .fs]) 4)], []⟩
  | 22 => some ⟨sparse .undef [(3, (.val (.int .i64))), (4, (.val (.int .i64))), (5, (.val .str)), (6, (.ref 0 0)), (13, (.val (.fn 16 []))), (14, (.val (.fn 28 []))), (15, (.val (.int .i64))), (16, (.val (.int .i64))), (18, (.val .str)), (143, (.val (.int .i64))), (144, (.val .bool))] 0 259, [(.pbox (.agg [.fs, .fs, .fs, .fs]) 4)], []⟩
  | 12 => some ⟨sparse .undef [(2, (.val (.int .i64))), (3, (.val (.int .i64))), (4, (.val (.int .i64))), (5, (.val .str)), (6, (.ref 0 0)), (13, (.val (.fn 16 []))), (14, (.val (.fn 28 []))), (15, (.val (.int .i64))), (16, (.val (.int .i64))), (17, (.val (.int .i64))), (18, (.val .str))] 0 259, [(.pbox (.agg [.fs, .fs, .fs, .fs]) 4)], []⟩
  | 10 => some ⟨sparse .undef [(2, (.val (.int .i64))), (3, (.val (.int .i64))), (4, (.val (.int .i64))), (5, (.val .str)), (6, (.ref 0 0)), (13, (.val (.fn 16 []))), (14, (.val (.fn 28 []))), (15, (.val (.int .i64))), (16, (.val (.int .i64))), (17, (.val (.int .i64))), (18, (.val .str)), (95, (.val .bool))] 0 259, [(.pbox (.agg [.fs, .fs, .fs, .fs]) 4)], []⟩
  | 13 => some ⟨sparse .undef [(2, (.val (.int .i64))), (3, (.val (.int .i64))), (4, (.val (.int .i64))), (5, (.val .str)), (6, (.ref 0 0)), (13, (.val (.fn 16 []))), (14, (.val (.fn 28 []))), (15, (.val (.int .i64))), (16, (.val (.int .i64))), (18, (.val .str))] 0 259, [(.pbox (.agg [.fs, .fs, .fs, .fs]) 4)], []⟩
  | 7 => some ⟨sparse .undef [(2, (.val (.int .i64))), (3, (.val (.int .i64))), (4, (.val (.int .i64))), (5, (.val .str)), (6, (.ref 0 0)), (7, (.ref 1 0)), (13, (.val (.fn 16 []))), (14, (.val (.fn 28 []))), (15, (.val (.int .i64))), (16, (.val (.int .i64))), (17, (.val (.int .i64))), (53, (.val .bool))] 0 259, [(.pbox (.agg [.fs, .fs, .fs, .fs]) 4), (.pbox (.agg [.fs, .fs, .fs, .fs, .fs, .fs, (.int .i64)]) 7)], []⟩
  | 8 => some ⟨sparse .undef [(2, (.val (.int .i64))), (3, (.val (.int .i64))), (4, (.val (.int .i64))), (5, (.val .str)), (6, (.ref 0 0)), (13, (.val (.fn 16 []))), (14, (.val (.fn 28 []))), (15, (.val (.int .i64))), (16, (.val (.int .i64))), (17, (.val (.int .i64)))] 0 259, [(.pbox (.agg [.fs, .fs, .fs, .fs]) 4)], []⟩
  | 5 => some ⟨sparse .undef [(2, (.val (.int .i64))), (3, (.val (.int .i64))), (4, (.val (.int .i64))), (5, (.val .str)), (6, (.ref 0 0)), (7, (.ref 1 0)), (13, (.val (.fn 16 []))), (14, (.val (.fn 28 []))), (15, (.val (.int .i64))), (16, (.val (.int .i64)))] 0 259, [(.pbox (.agg [.fs, .fs, .fs, .fs]) 4), (.pbox (.agg [.fs, .fs, .fs, .fs, .fs, .fs, (.int .i64)]) 7)], []⟩
  | _ => none
def pLine_J51 (n : Nat) (ls : List Leaf) (R : Type) (k : Ex → St → Option R) : Option R :=
  match ls with
  | [.int n305, .str s306, .int car307, .int i308, .bool b309] => pLine_q51 n305 s306 car307 i308 b309 (fun y1315 => k .ret ⟨sparse .undef [(12, (TV.val (PV.str y1315)))] 0 259, [], []⟩)
      (fun y1316 => k .normal ⟨sparse .undef [(5, (TV.val (PV.str y1316)))] 0 259, [], []⟩)
  | _ => none
def pLine_J48 (n : Nat) (ls : List Leaf) (R : Type) (k : Ex → St → Option R) : Option R :=
  match ls with
  | [.int n296, .str s297, .int car298, .int i299, .bool b300] => pLine_q48 n296 s297 car298 i299 b300 (fun y2317 => k .ret ⟨sparse .undef [(12, (TV.val (PV.str y2317)))] 0 259, [], []⟩)
      (fun y2318 => k .normal ⟨sparse .undef [(5, (TV.val (PV.str y2318)))] 0 259, [], []⟩)
  | _ => none
def pLine_J41 (n : Nat) (ls : List Leaf) (R : Type) (k : Ex → St → Option R) : Option R :=
  match ls with
  | [.int n272, .int m273, .str s274, .int car275, .int i276, .bool b277, .rows es278, .rows es279, .rows es280, .rows es281] => pLine_q41 n272 m273 s274 car275 i276 b277 es278 es279 es280 es281 (fun y3319 => k .ret ⟨sparse .undef [(12, (TV.val (PV.str y3319)))] 0 259, [], []⟩)
      (fun y3320 => k .normal ⟨sparse .undef [(5, (TV.val (PV.str y3320)))] 0 259, [], []⟩)
  | _ => none
def pLine_J29 (n : Nat) (ls : List Leaf) (R : Type) (k : Ex → St → Option R) : Option R :=
  match ls with
  | [.int n250, .int m251, .str s252, .int stop253, .int car254, .str place255, .int i256, .bool b257, .rows es258, .rows es259, .rows es260, .rows es261] => pLine_q29 n250 m251 s252 stop253 car254 place255 i256 b257 es258 es259 es260 es261 (fun y4321 => k .ret ⟨sparse .undef [(12, (TV.val (PV.str y4321)))] 0 259, [], []⟩)
      (fun y4322 => k .normal ⟨sparse .undef [(5, (TV.val (PV.str y4322)))] 0 259, [], []⟩)
  | _ => none
def pLine_J25 (n : Nat) (ls : List Leaf) (R : Type) (k : Ex → St → Option R) : Option R :=
  match ls with
  | [.int n231, .int m232, .str s233, .int stop234, .int car235, .str place236, .int i237, .bool b238, .rows es239, .rows es240, .rows es241, .rows es242] => pLine_q25 n231 m232 s233 stop234 car235 place236 i237 b238 es239 es240 es241 es242 (fun y5323 => k .ret ⟨sparse .undef [(12, (TV.val (PV.str y5323)))] 0 259, [], []⟩)
      (fun y5324 => k .normal ⟨sparse .undef [(5, (TV.val (PV.str y5324)))] 0 259, [], []⟩)
  | _ => none
def pLine_J22 (n : Nat) (ls : List Leaf) (R : Type) (k : Ex → St → Option R) : Option R :=
  match ls with
  | [.int n215, .int m216, .str s217, .int stop218, .int car219, .str place220, .int i221, .bool b222, .rows es223, .rows es224, .rows es225, .rows es226] => pLine_q22 n215 m216 s217 stop218 car219 place220 i221 b222 es223 es224 es225 es226 (fun y6325 => k .ret ⟨sparse .undef [(12, (TV.val (PV.str y6325)))] 0 259, [], []⟩)
      (fun y6326 => k .normal ⟨sparse .undef [(5, (TV.val (PV.str y6326)))] 0 259, [], []⟩)
  | _ => none
def pLine_J12 (n : Nat) (ls : List Leaf) (R : Type) (k : Ex → St → Option R) : Option R :=
  match ls with
  | [.int k200, .int n201, .int m202, .str s203, .int stop204, .int car205, .int size206, .str place207, .rows es208, .rows es209, .rows es210, .rows es211] => pLine_q12 k200 n201 m202 s203 stop204 car205 size206 place207 es208 es209 es210 es211 (fun y7327 y7328 y7329 y7330 y7331 y7332 y7333 y7334 y7335 y7336 y7337 => k .normal ⟨sparse .undef [(2, (TV.val (PV.int .i64 y7327))), (3, (TV.val (PV.int .i64 y7328))), (4, (TV.val (PV.int .i64 y7329))), (5, (TV.val (PV.str y7330))), (6, (TV.ref 0 0)), (13, (TV.val (PV.fn (Fn.func 16) []))), (14, (TV.val (PV.fn (Fn.func 28) []))), (15, (TV.val (PV.int .i64 y7331))), (16, (TV.val (PV.int .i64 y7332))), (18, (TV.val (PV.str y7333)))] 0 259, [(Ob.pbox (PV.agg [(PV.fs y7334), (PV.fs y7335), (PV.fs y7336), (PV.fs y7337)]) 4)], []⟩)
  | _ => none
def pLine_J10 (n : Nat) (ls : List Leaf) (R : Type) (k : Ex → St → Option R) : Option R :=
  match ls with
  | [.int k159, .int n160, .int m161, .str s162, .int stop163, .int car164, .int size165, .str place166, .bool b167, .rows es168, .rows es169, .rows es170, .rows es171] => pLine_q10 k159 n160 m161 s162 stop163 car164 size165 place166 b167 es168 es169 es170 es171 (fun y8338 y8339 y8340 y8341 y8342 y8343 y8344 y8345 y8346 y8347 y8348 => k .normal ⟨sparse .undef [(2, (TV.val (PV.int .i64 y8338))), (3, (TV.val (PV.int .i64 y8339))), (4, (TV.val (PV.int .i64 y8340))), (5, (TV.val (PV.str y8341))), (6, (TV.ref 0 0)), (13, (TV.val (PV.fn (Fn.func 16) []))), (14, (TV.val (PV.fn (Fn.func 28) []))), (15, (TV.val (PV.int .i64 y8342))), (16, (TV.val (PV.int .i64 y8343))), (18, (TV.val (PV.str y8344)))] 0 259, [(Ob.pbox (PV.agg [(PV.fs y8345), (PV.fs y8346), (PV.fs y8347), (PV.fs y8348)]) 4)], []⟩)
  | _ => none
def pLine_J13 (n : Nat) (ls : List Leaf) (R : Type) (k : Ex → St → Option R) : Option R :=
  match ls with
  | [.int k131, .int n132, .int m133, .str s134, .int stop135, .int car136, .str place137, .rows es138, .rows es139, .rows es140, .rows es141] => pLine_q13 k131 n132 m133 s134 stop135 car136 place137 es138 es139 es140 es141 (fun y9349 => k .ret ⟨sparse .undef [(12, (TV.val (PV.str y9349)))] 0 259, [], []⟩)
  | _ => none
def pLine_J7 (n : Nat) (ls : List Leaf) (R : Type) (k : Ex → St → Option R) : Option R :=
  match ls with
  | [.int k109, .int n110, .int m111, .str s112, .int stop113, .int car114, .int size115, .bool b116, .rows es117, .rows es118, .rows es119, .rows es120, .rows es121, .rows es122, .rows es123, .rows es124, .rows es125, .rows es126, .int i127] => pLine_q7 k109 n110 m111 s112 stop113 car114 size115 b116 es117 es118 es119 es120 es121 es122 es123 es124 es125 es126 i127 (fun y10350 y10351 y10352 y10353 y10354 y10355 y10356 y10357 y10358 y10359 y10360 => k .normal ⟨sparse .undef [(2, (TV.val (PV.int .i64 y10350))), (3, (TV.val (PV.int .i64 y10351))), (4, (TV.val (PV.int .i64 y10352))), (5, (TV.val (PV.str y10353))), (6, (TV.ref 0 0)), (13, (TV.val (PV.fn (Fn.func 16) []))), (14, (TV.val (PV.fn (Fn.func 28) []))), (15, (TV.val (PV.int .i64 y10354))), (16, (TV.val (PV.int .i64 y10355))), (17, (TV.val (PV.int .i64 y10356)))] 0 259, [(Ob.pbox (PV.agg [(PV.fs y10357), (PV.fs y10358), (PV.fs y10359), (PV.fs y10360)]) 4)], []⟩)
  | _ => none
def pLine_J8 (n : Nat) (ls : List Leaf) (R : Type) (k : Ex → St → Option R) : Option R :=
  match ls with
  | [.int k67, .int n68, .int m69, .str s70, .int stop71, .int car72, .int size73, .rows es74, .rows es75, .rows es76, .rows es77] => pLine_q8 k67 n68 m69 s70 stop71 car72 size73 es74 es75 es76 es77 (fun y11361 => k .ret ⟨sparse .undef [(12, (TV.val (PV.str y11361)))] 0 259, [], []⟩)
  | _ => none
def pLine_J5 (n : Nat) (ls : List Leaf) (R : Type) (k : Ex → St → Option R) : Option R :=
  match ls with
  | [.int k26, .int n27, .int m28, .str s29, .int stop30, .int car31, .rows es32, .rows es33, .rows es34, .rows es35, .rows es36, .rows es37, .rows es38, .rows es39, .rows es40, .rows es41, .int i42] => pLine_q5 k26 n27 m28 s29 stop30 car31 es32 es33 es34 es35 es36 es37 es38 es39 es40 es41 i42 (fun y12362 => k .ret ⟨sparse .undef [(12, (TV.val (PV.str y12362)))] 0 259, [], []⟩)
  | _ => none
def pLine_L (n key : Nat) (ls : List Leaf) (R : Type) (k : Ex → St → Option R) : Option R :=
  match key with
  | _ => none
def pLine_J (n key : Nat) (ls : List Leaf) (R : Type) (k : Ex → St → Option R) : Option R :=
  match key with
  | 51 => pLine_J51 n ls R k
  | 48 => pLine_J48 n ls R k
  | 41 => pLine_J41 n ls R k
  | 29 => pLine_J29 n ls R k
  | 25 => pLine_J25 n ls R k
  | 22 => pLine_J22 n ls R k
  | 12 => pLine_J12 n ls R k
  | 10 => pLine_J10 n ls R k
  | 13 => pLine_J13 n ls R k
  | 7 => pLine_J7 n ls R k
  | 8 => pLine_J8 n ls R k
  | 5 => pLine_J5 n ls R k
  | _ => none
def pLine_on : Code → Bool := onKeys [5, 8, 7, 13, 10, 12, 22, 25, 29, 41, 48, 51]
def pLine_Λ : Nat → Loops := patL (normBy pLine_cfg) pLine_pat pLine_L (normJ pLine_cfg) pLine_on pLine_patj pLine_J
theorem pLine_stepq5 (n : Nat) (k26 : Int) (n27 : Int) (m28 : Int) (s29 : ByteArray) (stop30 : Int) (car31 : Int) (es32 : List (List PV)) (es33 : List (List PV)) (es34 : List (List PV)) (es35 : List (List PV)) (es36 : List (List PV)) (es37 : List (List PV)) (es38 : List (List PV)) (es39 : List (List PV)) (es40 : List (List PV)) (es41 : List (List PV)) (i42 : Int)  (R : Type) (k : Ex → St → Option R) :
    joinK T G0 (ctrOf pLine_Γ) (normJ pLine_cfg) (pLine_Λ n) (codeAt [1, 1, 1, 1] (bodyOf Tryd.f45)) (buildSt ⟨sparse .undef [(2, (.val (.int .i64))), (3, (.val (.int .i64))), (4, (.val (.int .i64))), (5, (.val .str)), (6, (.ref 0 0)), (7, (.ref 1 0)), (13, (.val (.fn 16 []))), (14, (.val (.fn 28 []))), (15, (.val (.int .i64))), (16, (.val (.int .i64)))] 0 259, [(.pbox (.agg [.fs, .fs, .fs, .fs]) 4), (.pbox (.agg [.fs, .fs, .fs, .fs, .fs, .fs, (.int .i64)]) 7)], []⟩ [.int k26, .int n27, .int m28, .str s29, .int stop30, .int car31, .rows es32, .rows es33, .rows es34, .rows es35, .rows es36, .rows es37, .rows es38, .rows es39, .rows es40, .rows es41, .int i42]) R k = pLine_J5 n [.int k26, .int n27, .int m28, .str s29, .int stop30, .int car31, .rows es32, .rows es33, .rows es34, .rows es35, .rows es36, .rows es37, .rows es38, .rows es39, .rows es40, .rows es41, .int i42] R k := by kernel_rfl
theorem pLine_stepq8 (n : Nat) (k67 : Int) (n68 : Int) (m69 : Int) (s70 : ByteArray) (stop71 : Int) (car72 : Int) (size73 : Int) (es74 : List (List PV)) (es75 : List (List PV)) (es76 : List (List PV)) (es77 : List (List PV))  (R : Type) (k : Ex → St → Option R) :
    joinK T G0 (ctrOf pLine_Γ) (normJ pLine_cfg) (pLine_Λ n) (codeAt [1, 1, 1, 1, 1, 1] (bodyOf Tryd.f45)) (buildSt ⟨sparse .undef [(2, (.val (.int .i64))), (3, (.val (.int .i64))), (4, (.val (.int .i64))), (5, (.val .str)), (6, (.ref 0 0)), (13, (.val (.fn 16 []))), (14, (.val (.fn 28 []))), (15, (.val (.int .i64))), (16, (.val (.int .i64))), (17, (.val (.int .i64)))] 0 259, [(.pbox (.agg [.fs, .fs, .fs, .fs]) 4)], []⟩ [.int k67, .int n68, .int m69, .str s70, .int stop71, .int car72, .int size73, .rows es74, .rows es75, .rows es76, .rows es77]) R k = pLine_J8 n [.int k67, .int n68, .int m69, .str s70, .int stop71, .int car72, .int size73, .rows es74, .rows es75, .rows es76, .rows es77] R k := by kernel_rfl
theorem pLine_stepq7 (n : Nat) (k109 : Int) (n110 : Int) (m111 : Int) (s112 : ByteArray) (stop113 : Int) (car114 : Int) (size115 : Int) (b116 : Bool) (es117 : List (List PV)) (es118 : List (List PV)) (es119 : List (List PV)) (es120 : List (List PV)) (es121 : List (List PV)) (es122 : List (List PV)) (es123 : List (List PV)) (es124 : List (List PV)) (es125 : List (List PV)) (es126 : List (List PV)) (i127 : Int)  (R : Type) (k : Ex → St → Option R) :
    joinK T G0 (ctrOf pLine_Γ) (normJ pLine_cfg) (pLine_Λ n) (codeAt [1, 1, 1, 1, 1, 0, 1] (bodyOf Tryd.f45)) (buildSt ⟨sparse .undef [(2, (.val (.int .i64))), (3, (.val (.int .i64))), (4, (.val (.int .i64))), (5, (.val .str)), (6, (.ref 0 0)), (7, (.ref 1 0)), (13, (.val (.fn 16 []))), (14, (.val (.fn 28 []))), (15, (.val (.int .i64))), (16, (.val (.int .i64))), (17, (.val (.int .i64))), (53, (.val .bool))] 0 259, [(.pbox (.agg [.fs, .fs, .fs, .fs]) 4), (.pbox (.agg [.fs, .fs, .fs, .fs, .fs, .fs, (.int .i64)]) 7)], []⟩ [.int k109, .int n110, .int m111, .str s112, .int stop113, .int car114, .int size115, .bool b116, .rows es117, .rows es118, .rows es119, .rows es120, .rows es121, .rows es122, .rows es123, .rows es124, .rows es125, .rows es126, .int i127]) R k = pLine_J7 n [.int k109, .int n110, .int m111, .str s112, .int stop113, .int car114, .int size115, .bool b116, .rows es117, .rows es118, .rows es119, .rows es120, .rows es121, .rows es122, .rows es123, .rows es124, .rows es125, .rows es126, .int i127] R k := by kernel_rfl
theorem pLine_stepq13 (n : Nat) (k131 : Int) (n132 : Int) (m133 : Int) (s134 : ByteArray) (stop135 : Int) (car136 : Int) (place137 : ByteArray) (es138 : List (List PV)) (es139 : List (List PV)) (es140 : List (List PV)) (es141 : List (List PV))  (R : Type) (k : Ex → St → Option R) :
    joinK T G0 (ctrOf pLine_Γ) (normJ pLine_cfg) (pLine_Λ n) (codeAt [1, 1, 1, 1, 1, 1, 1, 1] (bodyOf Tryd.f45)) (buildSt ⟨sparse .undef [(2, (.val (.int .i64))), (3, (.val (.int .i64))), (4, (.val (.int .i64))), (5, (.val .str)), (6, (.ref 0 0)), (13, (.val (.fn 16 []))), (14, (.val (.fn 28 []))), (15, (.val (.int .i64))), (16, (.val (.int .i64))), (18, (.val .str))] 0 259, [(.pbox (.agg [.fs, .fs, .fs, .fs]) 4)], []⟩ [.int k131, .int n132, .int m133, .str s134, .int stop135, .int car136, .str place137, .rows es138, .rows es139, .rows es140, .rows es141]) R k = pLine_J13 n [.int k131, .int n132, .int m133, .str s134, .int stop135, .int car136, .str place137, .rows es138, .rows es139, .rows es140, .rows es141] R k := by kernel_rfl
theorem pLine_stepq10 (n : Nat) (k159 : Int) (n160 : Int) (m161 : Int) (s162 : ByteArray) (stop163 : Int) (car164 : Int) (size165 : Int) (place166 : ByteArray) (b167 : Bool) (es168 : List (List PV)) (es169 : List (List PV)) (es170 : List (List PV)) (es171 : List (List PV))  (R : Type) (k : Ex → St → Option R) :
    joinK T G0 (ctrOf pLine_Γ) (normJ pLine_cfg) (pLine_Λ n) (codeAt [1, 1, 1, 1, 1, 1, 1, 0, 1] (bodyOf Tryd.f45)) (buildSt ⟨sparse .undef [(2, (.val (.int .i64))), (3, (.val (.int .i64))), (4, (.val (.int .i64))), (5, (.val .str)), (6, (.ref 0 0)), (13, (.val (.fn 16 []))), (14, (.val (.fn 28 []))), (15, (.val (.int .i64))), (16, (.val (.int .i64))), (17, (.val (.int .i64))), (18, (.val .str)), (95, (.val .bool))] 0 259, [(.pbox (.agg [.fs, .fs, .fs, .fs]) 4)], []⟩ [.int k159, .int n160, .int m161, .str s162, .int stop163, .int car164, .int size165, .str place166, .bool b167, .rows es168, .rows es169, .rows es170, .rows es171]) R k = pLine_J10 n [.int k159, .int n160, .int m161, .str s162, .int stop163, .int car164, .int size165, .str place166, .bool b167, .rows es168, .rows es169, .rows es170, .rows es171] R k := by kernel_rfl
theorem pLine_stepq12 (n : Nat) (k200 : Int) (n201 : Int) (m202 : Int) (s203 : ByteArray) (stop204 : Int) (car205 : Int) (size206 : Int) (place207 : ByteArray) (es208 : List (List PV)) (es209 : List (List PV)) (es210 : List (List PV)) (es211 : List (List PV))  (R : Type) (k : Ex → St → Option R) :
    joinK T G0 (ctrOf pLine_Γ) (normJ pLine_cfg) (pLine_Λ n) (codeAt [1, 1, 1, 1, 1, 1, 1, 0, 1, 0, 1] (bodyOf Tryd.f45)) (buildSt ⟨sparse .undef [(2, (.val (.int .i64))), (3, (.val (.int .i64))), (4, (.val (.int .i64))), (5, (.val .str)), (6, (.ref 0 0)), (13, (.val (.fn 16 []))), (14, (.val (.fn 28 []))), (15, (.val (.int .i64))), (16, (.val (.int .i64))), (17, (.val (.int .i64))), (18, (.val .str))] 0 259, [(.pbox (.agg [.fs, .fs, .fs, .fs]) 4)], []⟩ [.int k200, .int n201, .int m202, .str s203, .int stop204, .int car205, .int size206, .str place207, .rows es208, .rows es209, .rows es210, .rows es211]) R k = pLine_J12 n [.int k200, .int n201, .int m202, .str s203, .int stop204, .int car205, .int size206, .str place207, .rows es208, .rows es209, .rows es210, .rows es211] R k := by kernel_rfl
theorem pLine_stepq22 (n : Nat) (n215 : Int) (m216 : Int) (s217 : ByteArray) (stop218 : Int) (car219 : Int) (place220 : ByteArray) (i221 : Int) (b222 : Bool) (es223 : List (List PV)) (es224 : List (List PV)) (es225 : List (List PV)) (es226 : List (List PV))  (R : Type) (k : Ex → St → Option R) :
    joinK T G0 (ctrOf pLine_Γ) (normJ pLine_cfg) (pLine_Λ n) (codeAt [1, 1, 1, 1, 1, 1, 1, 1, 0, 1, 0, 1] (bodyOf Tryd.f45)) (buildSt ⟨sparse .undef [(3, (.val (.int .i64))), (4, (.val (.int .i64))), (5, (.val .str)), (6, (.ref 0 0)), (13, (.val (.fn 16 []))), (14, (.val (.fn 28 []))), (15, (.val (.int .i64))), (16, (.val (.int .i64))), (18, (.val .str)), (143, (.val (.int .i64))), (144, (.val .bool))] 0 259, [(.pbox (.agg [.fs, .fs, .fs, .fs]) 4)], []⟩ [.int n215, .int m216, .str s217, .int stop218, .int car219, .str place220, .int i221, .bool b222, .rows es223, .rows es224, .rows es225, .rows es226]) R k = pLine_J22 n [.int n215, .int m216, .str s217, .int stop218, .int car219, .str place220, .int i221, .bool b222, .rows es223, .rows es224, .rows es225, .rows es226] R k := by kernel_rfl
theorem pLine_stepq25 (n : Nat) (n231 : Int) (m232 : Int) (s233 : ByteArray) (stop234 : Int) (car235 : Int) (place236 : ByteArray) (i237 : Int) (b238 : Bool) (es239 : List (List PV)) (es240 : List (List PV)) (es241 : List (List PV)) (es242 : List (List PV))  (R : Type) (k : Ex → St → Option R) :
    joinK T G0 (ctrOf pLine_Γ) (normJ pLine_cfg) (pLine_Λ n) (codeAt [1, 1, 1, 1, 1, 1, 1, 1, 0, 1, 0, 1, 1, 1] (bodyOf Tryd.f45)) (buildSt ⟨sparse .undef [(3, (.val (.int .i64))), (4, (.val (.int .i64))), (5, (.val .str)), (6, (.ref 0 0)), (13, (.val (.fn 16 []))), (14, (.val (.fn 28 []))), (15, (.val (.int .i64))), (16, (.val (.int .i64))), (18, (.val .str)), (143, (.val (.int .i64))), (155, (.val .bool))] 0 259, [(.pbox (.agg [.fs, .fs, .fs, .fs]) 4)], []⟩ [.int n231, .int m232, .str s233, .int stop234, .int car235, .str place236, .int i237, .bool b238, .rows es239, .rows es240, .rows es241, .rows es242]) R k = pLine_J25 n [.int n231, .int m232, .str s233, .int stop234, .int car235, .str place236, .int i237, .bool b238, .rows es239, .rows es240, .rows es241, .rows es242] R k := by kernel_rfl
theorem pLine_stepq29 (n : Nat) (n250 : Int) (m251 : Int) (s252 : ByteArray) (stop253 : Int) (car254 : Int) (place255 : ByteArray) (i256 : Int) (b257 : Bool) (es258 : List (List PV)) (es259 : List (List PV)) (es260 : List (List PV)) (es261 : List (List PV))  (R : Type) (k : Ex → St → Option R) :
    joinK T G0 (ctrOf pLine_Γ) (normJ pLine_cfg) (pLine_Λ n) (codeAt [1, 1, 1, 1, 1, 1, 1, 1, 0, 1, 0, 1, 1, 1, 1, 1] (bodyOf Tryd.f45)) (buildSt ⟨sparse .undef [(3, (.val (.int .i64))), (4, (.val (.int .i64))), (5, (.val .str)), (6, (.ref 0 0)), (13, (.val (.fn 16 []))), (14, (.val (.fn 28 []))), (15, (.val (.int .i64))), (16, (.val (.int .i64))), (18, (.val .str)), (143, (.val (.int .i64))), (162, (.val .bool))] 0 259, [(.pbox (.agg [.fs, .fs, .fs, .fs]) 4)], []⟩ [.int n250, .int m251, .str s252, .int stop253, .int car254, .str place255, .int i256, .bool b257, .rows es258, .rows es259, .rows es260, .rows es261]) R k = pLine_J29 n [.int n250, .int m251, .str s252, .int stop253, .int car254, .str place255, .int i256, .bool b257, .rows es258, .rows es259, .rows es260, .rows es261] R k := by kernel_rfl
theorem pLine_stepq41 (n : Nat) (n272 : Int) (m273 : Int) (s274 : ByteArray) (car275 : Int) (i276 : Int) (b277 : Bool) (es278 : List (List PV)) (es279 : List (List PV)) (es280 : List (List PV)) (es281 : List (List PV))  (R : Type) (k : Ex → St → Option R) :
    joinK T G0 (ctrOf pLine_Γ) (normJ pLine_cfg) (pLine_Λ n) (codeAt [1, 1, 1, 1, 1, 1, 1, 1, 0, 1, 0, 1, 1, 1, 1, 1, 1, 1, 1, 1, 1, 1, 1, 1, 1, 1] (bodyOf Tryd.f45)) (buildSt ⟨sparse .undef [(3, (.val (.int .i64))), (4, (.val (.int .i64))), (5, (.val .str)), (6, (.ref 0 0)), (13, (.val (.fn 16 []))), (14, (.val (.fn 28 []))), (16, (.val (.int .i64))), (143, (.val (.int .i64))), (192, (.val .bool))] 0 259, [(.pbox (.agg [.fs, .fs, .fs, .fs]) 4)], []⟩ [.int n272, .int m273, .str s274, .int car275, .int i276, .bool b277, .rows es278, .rows es279, .rows es280, .rows es281]) R k = pLine_J41 n [.int n272, .int m273, .str s274, .int car275, .int i276, .bool b277, .rows es278, .rows es279, .rows es280, .rows es281] R k := by kernel_rfl
theorem pLine_stepq48 (n : Nat) (n296 : Int) (s297 : ByteArray) (car298 : Int) (i299 : Int) (b300 : Bool)  (R : Type) (k : Ex → St → Option R) :
    joinK T G0 (ctrOf pLine_Γ) (normJ pLine_cfg) (pLine_Λ n) (codeAt [1, 1, 1, 1, 1, 1, 1, 1, 0, 1, 0, 1, 1, 1, 1, 1, 1, 1, 1, 1, 1, 1, 1, 1, 1, 1, 1, 1] (bodyOf Tryd.f45)) (buildSt ⟨sparse .undef [(3, (.val (.int .i64))), (5, (.val .str)), (13, (.val (.fn 16 []))), (14, (.val (.fn 28 []))), (16, (.val (.int .i64))), (143, (.val (.int .i64))), (233, (.val .bool))] 0 259, [], []⟩ [.int n296, .str s297, .int car298, .int i299, .bool b300]) R k = pLine_J48 n [.int n296, .str s297, .int car298, .int i299, .bool b300] R k := by kernel_rfl
theorem pLine_stepq51 (n : Nat) (n305 : Int) (s306 : ByteArray) (car307 : Int) (i308 : Int) (b309 : Bool)  (R : Type) (k : Ex → St → Option R) :
    joinK T G0 (ctrOf pLine_Γ) (normJ pLine_cfg) (pLine_Λ n) (codeAt [1, 1, 1, 1, 1, 1, 1, 1, 0, 1, 0, 1, 1, 1, 1, 1, 1, 1, 1, 1, 1, 1, 1, 1, 1, 1, 1, 1, 1, 1] (bodyOf Tryd.f45)) (buildSt ⟨sparse .undef [(3, (.val (.int .i64))), (5, (.val .str)), (13, (.val (.fn 16 []))), (14, (.val (.fn 28 []))), (16, (.val (.int .i64))), (143, (.val (.int .i64))), (237, (.val .bool))] 0 259, [], []⟩ [.int n305, .str s306, .int car307, .int i308, .bool b309]) R k = pLine_J51 n [.int n305, .str s306, .int car307, .int i308, .bool b309] R k := by kernel_rfl
theorem pLine_eq (i1 : List (List PV)) (i2 : List (List PV)) (i3 : List (List PV)) (i4 : List (List PV)) (p5 : List (List PV)) (p6 : List (List PV)) (p7 : List (List PV)) (p8 : List (List PV)) (p9 : List (List PV)) (p10 : List (List PV)) (p11 : Int) (k12 : Int) (n13 : Int) (m14 : Int) (s15 : ByteArray) :
    funK T G0 (ctrOf pLine_Γ) (pLine_Λ 0) .d true [none, none, none, none, none, none] (funOf Tryd.f45) [(PV.agg [(PV.fs i1), (PV.fs i2), (PV.fs i3), (PV.fs i4)]), (PV.agg [(PV.fs p5), (PV.fs p6), (PV.fs p7), (PV.fs p8), (PV.fs p9), (PV.fs p10), (PV.int .i64 p11)]), (PV.int .i64 k12), (PV.int .i64 n13), (PV.int .i64 m14), (PV.str s15)] = pLine_b  i1 i2 i3 i4 p5 p6 p7 p8 p9 p10 p11 k12 n13 m14 s15 (fun a0 => some (pLine_E a0)) := by kernel_rfl
theorem pLine_inv {ps : List PV} {y : ByteArray} (h : pLine_D ps = some y) : ∃ (i1 : List (List PV)) (i2 : List (List PV)) (i3 : List (List PV)) (i4 : List (List PV)) (p5 : List (List PV)) (p6 : List (List PV)) (p7 : List (List PV)) (p8 : List (List PV)) (p9 : List (List PV)) (p10 : List (List PV)) (p11 : Int) (k12 : Int) (n13 : Int) (m14 : Int) (s15 : ByteArray), ps = [(PV.agg [(PV.fs i1), (PV.fs i2), (PV.fs i3), (PV.fs i4)]), (PV.agg [(PV.fs p5), (PV.fs p6), (PV.fs p7), (PV.fs p8), (PV.fs p9), (PV.fs p10), (PV.int .i64 p11)]), (PV.int .i64 k12), (PV.int .i64 n13), (PV.int .i64 m14), (PV.str s15)] := by
  unfold pLine_D at h
  split at h
  · exact ⟨_, _, _, _, _, _, _, _, _, _, _, _, _, _, _, rfl⟩
  · cases h
theorem pLine_loops : loopsOf (bodyOf Tryd.f45) = [] := by kernel_rfl
theorem pLine_joins : (joinsOf (bodyOf Tryd.f45)).filter pLine_on = [codeAt [1, 1, 1, 1] (bodyOf Tryd.f45), codeAt [1, 1, 1, 1, 1, 1] (bodyOf Tryd.f45), codeAt [1, 1, 1, 1, 1, 0, 1] (bodyOf Tryd.f45), codeAt [1, 1, 1, 1, 1, 1, 1, 1] (bodyOf Tryd.f45), codeAt [1, 1, 1, 1, 1, 1, 1, 0, 1] (bodyOf Tryd.f45), codeAt [1, 1, 1, 1, 1, 1, 1, 0, 1, 0, 1] (bodyOf Tryd.f45), codeAt [1, 1, 1, 1, 1, 1, 1, 1, 0, 1, 0, 1] (bodyOf Tryd.f45), codeAt [1, 1, 1, 1, 1, 1, 1, 1, 0, 1, 0, 1, 1, 1] (bodyOf Tryd.f45), codeAt [1, 1, 1, 1, 1, 1, 1, 1, 0, 1, 0, 1, 1, 1, 1, 1] (bodyOf Tryd.f45), codeAt [1, 1, 1, 1, 1, 1, 1, 1, 0, 1, 0, 1, 1, 1, 1, 1, 1, 1, 1, 1, 1, 1, 1, 1, 1, 1] (bodyOf Tryd.f45), codeAt [1, 1, 1, 1, 1, 1, 1, 1, 0, 1, 0, 1, 1, 1, 1, 1, 1, 1, 1, 1, 1, 1, 1, 1, 1, 1, 1, 1] (bodyOf Tryd.f45), codeAt [1, 1, 1, 1, 1, 1, 1, 1, 0, 1, 0, 1, 1, 1, 1, 1, 1, 1, 1, 1, 1, 1, 1, 1, 1, 1, 1, 1, 1, 1] (bodyOf Tryd.f45)] := by kernel_rfl
theorem pLine_holds (hΓ : HoldsAll Tryd.prog G0 pLine_Γ) (hok : ∀ (i1 : List (List PV)) (i2 : List (List PV)) (i3 : List (List PV)) (i4 : List (List PV)) (p5 : List (List PV)) (p6 : List (List PV)) (p7 : List (List PV)) (p8 : List (List PV)) (p9 : List (List PV)) (p10 : List (List PV)) (p11 : Int) (k12 : Int) (n13 : Int) (m14 : Int) (s15 : ByteArray) (y : ByteArray), sPLine i1 i2 i3 i4 p5 p6 p7 p8 p9 p10 p11 k12 n13 m14 s15 = some y → ∀ (R : Type) (k : ByteArray → Option R), pLine_b  i1 i2 i3 i4 p5 p6 p7 p8 p9 p10 p11 k12 n13 m14 s15 k = k y) : Holds Tryd.prog G0 45 pLine_C := by
  refine fun_pat mixed tOk (ctrOf_ok hΓ) Tryd.func45 rfl rfl rfl rfl (F := funOf Tryd.f45) (normBy_ok pLine_cfg) (pat := pLine_pat) (L := pLine_L) (normJ_ok pLine_cfg) (on := pLine_on) (patj := pLine_patj) (J := pLine_J) (fun c hc ls R k => ?_) (fun c hc p hp m ls R k r h => ?_) (fun c hc p hp m ls R k r h => ?_) (fun ps x h => ?_)
  · rw [show (funOf Tryd.f45).code = bodyOf Tryd.f45 from rfl, pLine_loops] at hc
    cases hc
  · rw [show (funOf Tryd.f45).code = bodyOf Tryd.f45 from rfl, pLine_loops] at hc
    cases hc
  · rw [show (funOf Tryd.f45).code = bodyOf Tryd.f45 from rfl, pLine_joins] at hc
    simp only [List.mem_cons, List.not_mem_nil, or_false] at hc
    rcases hc with rfl | rfl | rfl | rfl | rfl | rfl | rfl | rfl | rfl | rfl | rfl | rfl
    · have hp' : p = ⟨sparse .undef [(2, (.val (.int .i64))), (3, (.val (.int .i64))), (4, (.val (.int .i64))), (5, (.val .str)), (6, (.ref 0 0)), (7, (.ref 1 0)), (13, (.val (.fn 16 []))), (14, (.val (.fn 28 []))), (15, (.val (.int .i64))), (16, (.val (.int .i64)))] 0 259, [(.pbox (.agg [.fs, .fs, .fs, .fs]) 4), (.pbox (.agg [.fs, .fs, .fs, .fs, .fs, .fs, (.int .i64)]) 7)], []⟩ := (Option.some.inj (hp : some _ = some p)).symm
      subst hp'
      change pLine_J5 m ls R k = some r at h
      have h' := h
      unfold pLine_J5 at h'
      split at h'
      · exact (pLine_stepq5 m _ _ _ _ _ _ _ _ _ _ _ _ _ _ _ _ _ R k).trans h
      · cases h'
    · have hp' : p = ⟨sparse .undef [(2, (.val (.int .i64))), (3, (.val (.int .i64))), (4, (.val (.int .i64))), (5, (.val .str)), (6, (.ref 0 0)), (13, (.val (.fn 16 []))), (14, (.val (.fn 28 []))), (15, (.val (.int .i64))), (16, (.val (.int .i64))), (17, (.val (.int .i64)))] 0 259, [(.pbox (.agg [.fs, .fs, .fs, .fs]) 4)], []⟩ := (Option.some.inj (hp : some _ = some p)).symm
      subst hp'
      change pLine_J8 m ls R k = some r at h
      have h' := h
      unfold pLine_J8 at h'
      split at h'
      · exact (pLine_stepq8 m _ _ _ _ _ _ _ _ _ _ _ R k).trans h
      · cases h'
    · have hp' : p = ⟨sparse .undef [(2, (.val (.int .i64))), (3, (.val (.int .i64))), (4, (.val (.int .i64))), (5, (.val .str)), (6, (.ref 0 0)), (7, (.ref 1 0)), (13, (.val (.fn 16 []))), (14, (.val (.fn 28 []))), (15, (.val (.int .i64))), (16, (.val (.int .i64))), (17, (.val (.int .i64))), (53, (.val .bool))] 0 259, [(.pbox (.agg [.fs, .fs, .fs, .fs]) 4), (.pbox (.agg [.fs, .fs, .fs, .fs, .fs, .fs, (.int .i64)]) 7)], []⟩ := (Option.some.inj (hp : some _ = some p)).symm
      subst hp'
      change pLine_J7 m ls R k = some r at h
      have h' := h
      unfold pLine_J7 at h'
      split at h'
      · exact (pLine_stepq7 m _ _ _ _ _ _ _ _ _ _ _ _ _ _ _ _ _ _ _ R k).trans h
      · cases h'
    · have hp' : p = ⟨sparse .undef [(2, (.val (.int .i64))), (3, (.val (.int .i64))), (4, (.val (.int .i64))), (5, (.val .str)), (6, (.ref 0 0)), (13, (.val (.fn 16 []))), (14, (.val (.fn 28 []))), (15, (.val (.int .i64))), (16, (.val (.int .i64))), (18, (.val .str))] 0 259, [(.pbox (.agg [.fs, .fs, .fs, .fs]) 4)], []⟩ := (Option.some.inj (hp : some _ = some p)).symm
      subst hp'
      change pLine_J13 m ls R k = some r at h
      have h' := h
      unfold pLine_J13 at h'
      split at h'
      · exact (pLine_stepq13 m _ _ _ _ _ _ _ _ _ _ _ R k).trans h
      · cases h'
    · have hp' : p = ⟨sparse .undef [(2, (.val (.int .i64))), (3, (.val (.int .i64))), (4, (.val (.int .i64))), (5, (.val .str)), (6, (.ref 0 0)), (13, (.val (.fn 16 []))), (14, (.val (.fn 28 []))), (15, (.val (.int .i64))), (16, (.val (.int .i64))), (17, (.val (.int .i64))), (18, (.val .str)), (95, (.val .bool))] 0 259, [(.pbox (.agg [.fs, .fs, .fs, .fs]) 4)], []⟩ := (Option.some.inj (hp : some _ = some p)).symm
      subst hp'
      change pLine_J10 m ls R k = some r at h
      have h' := h
      unfold pLine_J10 at h'
      split at h'
      · exact (pLine_stepq10 m _ _ _ _ _ _ _ _ _ _ _ _ _ R k).trans h
      · cases h'
    · have hp' : p = ⟨sparse .undef [(2, (.val (.int .i64))), (3, (.val (.int .i64))), (4, (.val (.int .i64))), (5, (.val .str)), (6, (.ref 0 0)), (13, (.val (.fn 16 []))), (14, (.val (.fn 28 []))), (15, (.val (.int .i64))), (16, (.val (.int .i64))), (17, (.val (.int .i64))), (18, (.val .str))] 0 259, [(.pbox (.agg [.fs, .fs, .fs, .fs]) 4)], []⟩ := (Option.some.inj (hp : some _ = some p)).symm
      subst hp'
      change pLine_J12 m ls R k = some r at h
      have h' := h
      unfold pLine_J12 at h'
      split at h'
      · exact (pLine_stepq12 m _ _ _ _ _ _ _ _ _ _ _ _ R k).trans h
      · cases h'
    · have hp' : p = ⟨sparse .undef [(3, (.val (.int .i64))), (4, (.val (.int .i64))), (5, (.val .str)), (6, (.ref 0 0)), (13, (.val (.fn 16 []))), (14, (.val (.fn 28 []))), (15, (.val (.int .i64))), (16, (.val (.int .i64))), (18, (.val .str)), (143, (.val (.int .i64))), (144, (.val .bool))] 0 259, [(.pbox (.agg [.fs, .fs, .fs, .fs]) 4)], []⟩ := (Option.some.inj (hp : some _ = some p)).symm
      subst hp'
      change pLine_J22 m ls R k = some r at h
      have h' := h
      unfold pLine_J22 at h'
      split at h'
      · exact (pLine_stepq22 m _ _ _ _ _ _ _ _ _ _ _ _ R k).trans h
      · cases h'
    · have hp' : p = ⟨sparse .undef [(3, (.val (.int .i64))), (4, (.val (.int .i64))), (5, (.val .str)), (6, (.ref 0 0)), (13, (.val (.fn 16 []))), (14, (.val (.fn 28 []))), (15, (.val (.int .i64))), (16, (.val (.int .i64))), (18, (.val .str)), (143, (.val (.int .i64))), (155, (.val .bool))] 0 259, [(.pbox (.agg [.fs, .fs, .fs, .fs]) 4)], []⟩ := (Option.some.inj (hp : some _ = some p)).symm
      subst hp'
      change pLine_J25 m ls R k = some r at h
      have h' := h
      unfold pLine_J25 at h'
      split at h'
      · exact (pLine_stepq25 m _ _ _ _ _ _ _ _ _ _ _ _ R k).trans h
      · cases h'
    · have hp' : p = ⟨sparse .undef [(3, (.val (.int .i64))), (4, (.val (.int .i64))), (5, (.val .str)), (6, (.ref 0 0)), (13, (.val (.fn 16 []))), (14, (.val (.fn 28 []))), (15, (.val (.int .i64))), (16, (.val (.int .i64))), (18, (.val .str)), (143, (.val (.int .i64))), (162, (.val .bool))] 0 259, [(.pbox (.agg [.fs, .fs, .fs, .fs]) 4)], []⟩ := (Option.some.inj (hp : some _ = some p)).symm
      subst hp'
      change pLine_J29 m ls R k = some r at h
      have h' := h
      unfold pLine_J29 at h'
      split at h'
      · exact (pLine_stepq29 m _ _ _ _ _ _ _ _ _ _ _ _ R k).trans h
      · cases h'
    · have hp' : p = ⟨sparse .undef [(3, (.val (.int .i64))), (4, (.val (.int .i64))), (5, (.val .str)), (6, (.ref 0 0)), (13, (.val (.fn 16 []))), (14, (.val (.fn 28 []))), (16, (.val (.int .i64))), (143, (.val (.int .i64))), (192, (.val .bool))] 0 259, [(.pbox (.agg [.fs, .fs, .fs, .fs]) 4)], []⟩ := (Option.some.inj (hp : some _ = some p)).symm
      subst hp'
      change pLine_J41 m ls R k = some r at h
      have h' := h
      unfold pLine_J41 at h'
      split at h'
      · exact (pLine_stepq41 m _ _ _ _ _ _ _ _ _ _ R k).trans h
      · cases h'
    · have hp' : p = ⟨sparse .undef [(3, (.val (.int .i64))), (5, (.val .str)), (13, (.val (.fn 16 []))), (14, (.val (.fn 28 []))), (16, (.val (.int .i64))), (143, (.val (.int .i64))), (233, (.val .bool))] 0 259, [], []⟩ := (Option.some.inj (hp : some _ = some p)).symm
      subst hp'
      change pLine_J48 m ls R k = some r at h
      have h' := h
      unfold pLine_J48 at h'
      split at h'
      · exact (pLine_stepq48 m _ _ _ _ _ R k).trans h
      · cases h'
    · have hp' : p = ⟨sparse .undef [(3, (.val (.int .i64))), (5, (.val .str)), (13, (.val (.fn 16 []))), (14, (.val (.fn 28 []))), (16, (.val (.int .i64))), (143, (.val (.int .i64))), (237, (.val .bool))] 0 259, [], []⟩ := (Option.some.inj (hp : some _ = some p)).symm
      subst hp'
      change pLine_J51 m ls R k = some r at h
      have h' := h
      unfold pLine_J51 at h'
      split at h'
      · exact (pLine_stepq51 m _ _ _ _ _ R k).trans h
      · cases h'
  · obtain ⟨y, hy, hx⟩ := bind_inv h
    cases hx
    obtain ⟨i1, i2, i3, i4, p5, p6, p7, p8, p9, p10, p11, k12, n13, m14, s15, rfl⟩ := pLine_inv hy
    exact ⟨0, (pLine_eq i1 i2 i3 i4 p5 p6 p7 p8 p9 p10 p11 k12 n13 m14 s15).trans (hok i1 i2 i3 i4 p5 p6 p7 p8 p9 p10 p11 k12 n13 m14 s15 y hy _ _)⟩
def acts24_q9 {R : Type} (n : Nat) (l101 : List (List PV)) (s102 : ByteArray) (k103 : Int) (es104 : List (List PV)) (es105 : List (List PV)) (es106 : List (List PV)) (es107 : List (List PV)) (es108 : List (List PV)) (es109 : List (List PV)) (es110 : List (List PV)) (es111 : List (List PV)) (es112 : List (List PV)) (es113 : List (List PV)) (i114 : Int) (es115 : List (List PV)) (i116 : Int) (i117 : Int) (s118 : ByteArray) (k0 : List (List PV) → ByteArray → Int → List (List PV) → List (List PV) → List (List PV) → List (List PV) → List (List PV) → List (List PV) → List (List PV) → List (List PV) → List (List PV) → List (List PV) → Int → List (List PV) → Option R) : Option R :=
  cond (i116 == (3 : Int)) (
    Option.bind (idx l101 k103) fun e119 =>
    if e119.length = 1 then
      Option.bind (e119[0]?) fun c120 =>
      Option.bind (PV.asI .i64 c120) fun n121 =>
      Option.bind (idx l101 (IntKind.i64.wrap (k103 + (1 : Int)))) fun e122 =>
      if e122.length = 1 then
        Option.bind (e122[0]?) fun c123 =>
        Option.bind (PV.asI .i64 c123) fun n124 =>
        Option.bind (idx l101 (IntKind.i64.wrap (k103 + (2 : Int)))) fun e125 =>
        if e125.length = 1 then
          Option.bind (e125[0]?) fun c126 =>
          Option.bind (PV.asI .i64 c126) fun n127 =>
          meet (
            Option.bind (sPLine es104 es105 es106 es107 es108 es109 es110 es111 es112 es113 i114 (IntKind.i64.wrap (Int.tdiv n121 (11 : Int))) (IntKind.i64.wrap (Int.tdiv n124 (4 : Int))) n127 s102) fun y128 =>
            if (es115.length + ([[(PV.int .i64 i116), (PV.int .i64 i117), (PV.str y128)]] : List (List PV)).length) * 32 ≤ maxBytes then
              k0 l101 s102 k103 es104 es105 es106 es107 es108 es109 es110 es111 es112 es113 i114 (es115 ++ [[(PV.int .i64 i116), (PV.int .i64 i117), (PV.str y128)]])
            else none) (
            Option.bind (sPLine es104 es105 es106 es107 es108 es109 es110 es111 es112 es113 i114 (IntKind.i64.wrap (Int.tdiv n121 (11 : Int))) (IntKind.i64.wrap (Int.tdiv n124 (4 : Int))) n127 s102) fun y129 =>
            if (es115.length + ([[(PV.int .i64 i116), (PV.int .i64 i117), (PV.str y129)]] : List (List PV)).length) * 32 ≤ maxBytes then
              k0 l101 s102 k103 es104 es105 es106 es107 es108 es109 es110 es111 es112 es113 i114 (es115 ++ [[(PV.int .i64 i116), (PV.int .i64 i117), (PV.str y129)]])
            else none)
        else none
      else none
    else none) (
    cond (i116 == (4 : Int)) (
      if (es115.length + ([[(PV.int .i64 i116), (PV.int .i64 i117), (PV.str s102)]] : List (List PV)).length) * 32 ≤ maxBytes then
        k0 l101 s102 k103 es104 es105 es106 es107 es108 es109 es110 es111 es112 es113 i114 (es115 ++ [[(PV.int .i64 i116), (PV.int .i64 i117), (PV.str s102)]])
      else none) (
      cond (i116 == (6 : Int)) (
        Option.bind (idx l101 (IntKind.i64.wrap (k103 + (2 : Int)))) fun e130 =>
        if e130.length = 1 then
          Option.bind (e130[0]?) fun c131 =>
          Option.bind (PV.asI .i64 c131) fun n132 =>
          Option.bind (within_d n132 40) fun y133 =>
          if (es115.length + ([[(PV.int .i64 i116), (PV.int .i64 y133), (PV.str s118)]] : List (List PV)).length) * 32 ≤ maxBytes then
            k0 l101 s102 k103 es104 es105 es106 es107 es108 es109 es110 es111 es112 es113 i114 (es115 ++ [[(PV.int .i64 i116), (PV.int .i64 y133), (PV.str s118)]])
          else none
        else none) (
        if (es115.length + ([[(PV.int .i64 i116), (PV.int .i64 i117), (PV.str s118)]] : List (List PV)).length) * 32 ≤ maxBytes then
          k0 l101 s102 k103 es104 es105 es106 es107 es108 es109 es110 es111 es112 es113 i114 (es115 ++ [[(PV.int .i64 i116), (PV.int .i64 i117), (PV.str s118)]])
        else none)))
def acts24_l5 {R : Type} : Nat → List (List PV) → ByteArray → Int → List (List PV) → List (List PV) → List (List PV) → List (List PV) → List (List PV) → List (List PV) → List (List PV) → List (List PV) → List (List PV) → List (List PV) → Int → List (List PV) → (List (List PV) → Option R) → Option R
  | 0, _, _, _, _, _, _, _, _, _, _, _, _, _, _, _, _ => none
  | n + 1, l9, s10, k11, es12, es13, es14, es15, es16, es17, es18, es19, es20, es21, i22, es23, k0 =>
    cond (decide ((IntKind.i64.wrap (k11 + (2 : Int))) < (l9.length : Int))) (
      cond (decide (k11 < (60 : Int))) (
        Option.bind (idx l9 k11) fun e24 =>
        if e24.length = 1 then
          Option.bind (e24[0]?) fun c25 =>
          Option.bind (PV.asI .i64 c25) fun n26 =>
          Option.bind (within_d n26 11) fun y27 =>
          Option.bind (idx l9 (IntKind.i64.wrap (k11 + (1 : Int)))) fun e28 =>
          if e28.length = 1 then
            Option.bind (e28[0]?) fun c29 =>
            Option.bind (PV.asI .i64 c29) fun n30 =>
            Option.bind (within_d n30 4) fun y31 =>
            meet (
              if 0 ≤ y27 ∧ y27 < (11 : Int) then
                meet (
                  Option.bind (([[(PV.int .i64 1)], [(PV.int .i64 3)], [(PV.int .i64 3)], [(PV.int .i64 3)], [(PV.int .i64 3)], [(PV.int .i64 5)], [(PV.int .i64 5)], [(PV.int .i64 5)], [(PV.int .i64 4)], [(PV.int .i64 2)], [(PV.int .i64 6)]] : List (List PV))[(Int.toNat y27)]?) fun e32 =>
                  Option.bind (e32[0]?) fun c33 =>
                  Option.bind (PV.asI .i64 c33) fun n34 =>
                  meet (
                    acts24_q9 n l9 s10 k11 es12 es13 es14 es15 es16 es17 es18 es19 es20 es21 i22 es23 n34 y31 (ByteArray.mk #[])
                      (fun (l35 : List (List PV)) (s36 : ByteArray) (k37 : Int) (es38 : List (List PV)) (es39 : List (List PV)) (es40 : List (List PV)) (es41 : List (List PV)) (es42 : List (List PV)) (es43 : List (List PV)) (es44 : List (List PV)) (es45 : List (List PV)) (es46 : List (List PV)) (es47 : List (List PV)) (i48 : Int) (es49 : List (List PV)) =>
                        acts24_l5 n l35 s36 (IntKind.i64.wrap (k37 + (3 : Int))) es38 es39 es40 es41 es42 es43 es44 es45 es46 es47 i48 es49 k0)) (
                    acts24_q9 n l9 s10 k11 es12 es13 es14 es15 es16 es17 es18 es19 es20 es21 i22 es23 n34 y31 (ByteArray.mk #[])
                      (fun (l50 : List (List PV)) (s51 : ByteArray) (k52 : Int) (es53 : List (List PV)) (es54 : List (List PV)) (es55 : List (List PV)) (es56 : List (List PV)) (es57 : List (List PV)) (es58 : List (List PV)) (es59 : List (List PV)) (es60 : List (List PV)) (es61 : List (List PV)) (es62 : List (List PV)) (i63 : Int) (es64 : List (List PV)) =>
                        acts24_l5 n l50 s51 (IntKind.i64.wrap (k52 + (3 : Int))) es53 es54 es55 es56 es57 es58 es59 es60 es61 es62 i63 es64 k0))) (
                  Option.bind (([[(PV.int .i64 1)], [(PV.int .i64 3)], [(PV.int .i64 3)], [(PV.int .i64 3)], [(PV.int .i64 3)], [(PV.int .i64 5)], [(PV.int .i64 5)], [(PV.int .i64 5)], [(PV.int .i64 4)], [(PV.int .i64 2)], [(PV.int .i64 6)]] : List (List PV))[(Int.toNat y27)]?) fun e65 =>
                  Option.bind (e65[0]?) fun c66 =>
                  Option.bind (PV.asI .i64 c66) fun n67 =>
                  acts24_q9 n l9 s10 k11 es12 es13 es14 es15 es16 es17 es18 es19 es20 es21 i22 es23 n67 y31 (ByteArray.mk #[])
                    (fun (l68 : List (List PV)) (s69 : ByteArray) (k70 : Int) (es71 : List (List PV)) (es72 : List (List PV)) (es73 : List (List PV)) (es74 : List (List PV)) (es75 : List (List PV)) (es76 : List (List PV)) (es77 : List (List PV)) (es78 : List (List PV)) (es79 : List (List PV)) (es80 : List (List PV)) (i81 : Int) (es82 : List (List PV)) =>
                      acts24_l5 n l68 s69 (IntKind.i64.wrap (k70 + (3 : Int))) es71 es72 es73 es74 es75 es76 es77 es78 es79 es80 i81 es82 k0))
              else none) (
              if 0 ≤ y27 ∧ y27 < (11 : Int) then
                Option.bind (([[(PV.int .i64 1)], [(PV.int .i64 3)], [(PV.int .i64 3)], [(PV.int .i64 3)], [(PV.int .i64 3)], [(PV.int .i64 5)], [(PV.int .i64 5)], [(PV.int .i64 5)], [(PV.int .i64 4)], [(PV.int .i64 2)], [(PV.int .i64 6)]] : List (List PV))[(Int.toNat y27)]?) fun e83 =>
                Option.bind (e83[0]?) fun c84 =>
                Option.bind (PV.asI .i64 c84) fun n85 =>
                acts24_q9 n l9 s10 k11 es12 es13 es14 es15 es16 es17 es18 es19 es20 es21 i22 es23 n85 y31 (ByteArray.mk #[])
                  (fun (l86 : List (List PV)) (s87 : ByteArray) (k88 : Int) (es89 : List (List PV)) (es90 : List (List PV)) (es91 : List (List PV)) (es92 : List (List PV)) (es93 : List (List PV)) (es94 : List (List PV)) (es95 : List (List PV)) (es96 : List (List PV)) (es97 : List (List PV)) (es98 : List (List PV)) (i99 : Int) (es100 : List (List PV)) =>
                    acts24_l5 n l86 s87 (IntKind.i64.wrap (k88 + (3 : Int))) es89 es90 es91 es92 es93 es94 es95 es96 es97 es98 i99 es100 k0)
              else none)
          else none
        else none) (
        k0 es23)) (
      k0 es23)
def acts24_b {R : Type} (n : Nat) (i1 : List (List PV)) (i2 : List (List PV)) (i3 : List (List PV)) (i4 : List (List PV)) (l5 : List (List PV)) (s6 : ByteArray) (k : List (List PV) → Option R) : Option R :=
  Option.bind (sNewPlan i1 i2 i3 i4) fun y7 =>
  acts24_l5 n l5 s6 0 i1 i2 i3 i4 y7.1 y7.2.1 y7.2.2.1 y7.2.2.2.1 y7.2.2.2.2.1 y7.2.2.2.2.2.1 y7.2.2.2.2.2.2 [] k
def acts24_E (y : (List (List PV))) : PV × List PV := ((PV.os y 3), [])
open Classical in
noncomputable def sActs24 (i1 : List (List PV)) (i2 : List (List PV)) (i3 : List (List PV)) (i4 : List (List PV)) (l5 : List (List PV)) (s6 : ByteArray) : Option ((List (List PV))) := if h : ∃ y : (List (List PV)), actsP i1 i2 i3 i4 l5 s6 y ∧ ∃ n, ∀ (R : Type) (k : List (List PV) → Option R), acts24_b n  i1 i2 i3 i4 l5 s6 k = k y then some (Classical.choose h) else none
theorem acts24_pick (i1 : List (List PV)) (i2 : List (List PV)) (i3 : List (List PV)) (i4 : List (List PV)) (l5 : List (List PV)) (s6 : ByteArray) (y : (List (List PV))) (h : sActs24 i1 i2 i3 i4 l5 s6 = some y) : actsP i1 i2 i3 i4 l5 s6 y ∧ ∃ n, ∀ (R : Type) (k : List (List PV) → Option R), acts24_b n  i1 i2 i3 i4 l5 s6 k = k y := by
  unfold sActs24 at h
  split at h
  · rename_i hh
    cases h
    exact Classical.choose_spec hh
  · cases h
theorem acts24_ok : ∀ (i1 : List (List PV)) (i2 : List (List PV)) (i3 : List (List PV)) (i4 : List (List PV)) (l5 : List (List PV)) (s6 : ByteArray) (y : (List (List PV))), sActs24 i1 i2 i3 i4 l5 s6 = some y → ∃ n, ∀ (R : Type) (k : List (List PV) → Option R), acts24_b n  i1 i2 i3 i4 l5 s6 k = k y := fun i1 i2 i3 i4 l5 s6 y h => (acts24_pick i1 i2 i3 i4 l5 s6 y h).2
theorem acts24_got (i1 : List (List PV)) (i2 : List (List PV)) (i3 : List (List PV)) (i4 : List (List PV)) (l5 : List (List PV)) (s6 : ByteArray) (h : ∃ y : (List (List PV)), actsP i1 i2 i3 i4 l5 s6 y ∧ ∃ n, ∀ (R : Type) (k : List (List PV) → Option R), acts24_b n  i1 i2 i3 i4 l5 s6 k = k y) : ∃ y, sActs24 i1 i2 i3 i4 l5 s6 = some y ∧ actsP i1 i2 i3 i4 l5 s6 y := by
  unfold sActs24
  rw [dif_pos h]
  exact ⟨_, rfl, (Classical.choose_spec h).1⟩
def acts24_D : List PV → Option ((List (List PV)))
  | [(PV.agg [(PV.fs i1), (PV.fs i2), (PV.fs i3), (PV.fs i4)]), (PV.fs l5), (PV.str s6)] => sActs24 i1 i2 i3 i4 l5 s6
  | _ => none
def acts24_Γ : List (Nat × Cal) := [(44, .ctr rNewPlan_C), (16, .ctr within_C), (45, .ctr pLine_C)]
def acts24_C : Ctr := ⟨[none, none, none], (List (List PV)), acts24_D, acts24_E, true, .s⟩
def acts24_cfg : List (Nat × LC) := [(5, ⟨[1, 2, 3, 7, 8, 9, 10], [9], [], []⟩),
  (4000009, ⟨[1, 2, 3, 7, 8, 9, 10, 11], [], [], []⟩),
  (1005000, ⟨[9], [], [], []⟩),
  (5000009, ⟨[1, 2, 3, 7, 8, 9, 10], [], [], []⟩)]
def acts24_pat : Nat → Option SP
  | 5 => some ⟨sparse .undef [(1, (.val .fs)), (2, (.val .str)), (3, (.ref 0 0)), (7, (.val (.fn 16 []))), (8, (.ref 1 0)), (9, (.ow 2)), (10, (.val (.int .i64)))] 0 86, [(.pbox (.agg [.fs, .fs, .fs, .fs]) 4), (.pbox (.agg [.fs, .fs, .fs, .fs, .fs, .fs, (.int .i64)]) 7), (.row 3)], []⟩
  | _ => none
def acts24_patj : Nat → Option SP
  | 9 => some ⟨sparse .undef [(1, (.val .fs)), (2, (.val .str)), (3, (.ref 0 0)), (7, (.val (.fn 16 []))), (8, (.ref 1 0)), (9, (.ow 2)), (10, (.val (.int .i64))), (11, (.ref 3 0))] 0 86, [(.pbox (.agg [.fs, .fs, .fs, .fs]) 4), (.pbox (.agg [.fs, .fs, .fs, .fs, .fs, .fs, (.int .i64)]) 7), (.row 3), (.pbox (.agg [(.int .i64), (.int .i64), .str]) 3)], []⟩
  | _ => none
def acts24_J9 (n : Nat) (ls : List Leaf) (R : Type) (k : Ex → St → Option R) : Option R :=
  match ls with
  | [.rows l101, .str s102, .int k103, .rows es104, .rows es105, .rows es106, .rows es107, .rows es108, .rows es109, .rows es110, .rows es111, .rows es112, .rows es113, .int i114, .rows es115, .int i116, .int i117, .str s118] => acts24_q9 n l101 s102 k103 es104 es105 es106 es107 es108 es109 es110 es111 es112 es113 i114 es115 i116 i117 s118 (fun y1134 y1135 y1136 y1137 y1138 y1139 y1140 y1141 y1142 y1143 y1144 y1145 y1146 y1147 y1148 => k .normal ⟨sparse .undef [(1, (TV.val (PV.fs y1134))), (2, (TV.val (PV.str y1135))), (3, (TV.ref 0 0)), (7, (TV.val (PV.fn (Fn.func 16) []))), (8, (TV.ref 1 0)), (9, (TV.ow 2)), (10, (TV.val (PV.int .i64 y1136)))] 0 86, [(Ob.pbox (PV.agg [(PV.fs y1137), (PV.fs y1138), (PV.fs y1139), (PV.fs y1140)]) 4), (Ob.pbox (PV.agg [(PV.fs y1141), (PV.fs y1142), (PV.fs y1143), (PV.fs y1144), (PV.fs y1145), (PV.fs y1146), (PV.int .i64 y1147)]) 7), (Ob.row y1148 3)], []⟩)
  | _ => none
def acts24_L5 (n : Nat) (ls : List Leaf) (R : Type) (k : Ex → St → Option R) : Option R :=
  match ls with
  | [.rows l9, .str s10, .int k11, .rows es12, .rows es13, .rows es14, .rows es15, .rows es16, .rows es17, .rows es18, .rows es19, .rows es20, .rows es21, .int i22, .rows es23] => acts24_l5 n l9 s10 k11 es12 es13 es14 es15 es16 es17 es18 es19 es20 es21 i22 es23 (fun y2149 => k (.exit 0) ⟨sparse .undef [(9, (TV.ow 0))] 0 86, [(Ob.row y2149 3)], []⟩)
  | _ => none
def acts24_L (n key : Nat) (ls : List Leaf) (R : Type) (k : Ex → St → Option R) : Option R :=
  match key with
  | 5 => acts24_L5 n ls R k
  | _ => none
def acts24_J (n key : Nat) (ls : List Leaf) (R : Type) (k : Ex → St → Option R) : Option R :=
  match key with
  | 9 => acts24_J9 n ls R k
  | _ => none
def acts24_on : Code → Bool := onKeys [9]
def acts24_Λ : Nat → Loops := patL (normBy acts24_cfg) acts24_pat acts24_L (normJ acts24_cfg) acts24_on acts24_patj acts24_J
theorem acts24_step5 (n : Nat) (l9 : List (List PV)) (s10 : ByteArray) (k11 : Int) (es12 : List (List PV)) (es13 : List (List PV)) (es14 : List (List PV)) (es15 : List (List PV)) (es16 : List (List PV)) (es17 : List (List PV)) (es18 : List (List PV)) (es19 : List (List PV)) (es20 : List (List PV)) (es21 : List (List PV)) (i22 : Int) (es23 : List (List PV))  (R : Type) (k : Ex → St → Option R) :
    roundK T G0 (ctrOf acts24_Γ) (normBy acts24_cfg) (acts24_Λ n) (codeAt [1, 1, 1, 1, 0, 1, 0, 0] (bodyOf Tryd.f23)) (buildSt ⟨sparse .undef [(1, (.val .fs)), (2, (.val .str)), (3, (.ref 0 0)), (7, (.val (.fn 16 []))), (8, (.ref 1 0)), (9, (.ow 2)), (10, (.val (.int .i64)))] 0 86, [(.pbox (.agg [.fs, .fs, .fs, .fs]) 4), (.pbox (.agg [.fs, .fs, .fs, .fs, .fs, .fs, (.int .i64)]) 7), (.row 3)], []⟩ [.rows l9, .str s10, .int k11, .rows es12, .rows es13, .rows es14, .rows es15, .rows es16, .rows es17, .rows es18, .rows es19, .rows es20, .rows es21, .int i22, .rows es23]) R k = acts24_L5 (n + 1) [.rows l9, .str s10, .int k11, .rows es12, .rows es13, .rows es14, .rows es15, .rows es16, .rows es17, .rows es18, .rows es19, .rows es20, .rows es21, .int i22, .rows es23] R k := by kernel_rfl
theorem acts24_stepq9 (n : Nat) (l101 : List (List PV)) (s102 : ByteArray) (k103 : Int) (es104 : List (List PV)) (es105 : List (List PV)) (es106 : List (List PV)) (es107 : List (List PV)) (es108 : List (List PV)) (es109 : List (List PV)) (es110 : List (List PV)) (es111 : List (List PV)) (es112 : List (List PV)) (es113 : List (List PV)) (i114 : Int) (es115 : List (List PV)) (i116 : Int) (i117 : Int) (s118 : ByteArray)  (R : Type) (k : Ex → St → Option R) :
    joinK T G0 (ctrOf acts24_Γ) (normJ acts24_cfg) (acts24_Λ n) (codeAt [1, 1, 1, 1, 0, 1, 0, 0, 1, 0, 0, 1] (bodyOf Tryd.f23)) (buildSt ⟨sparse .undef [(1, (.val .fs)), (2, (.val .str)), (3, (.ref 0 0)), (7, (.val (.fn 16 []))), (8, (.ref 1 0)), (9, (.ow 2)), (10, (.val (.int .i64))), (11, (.ref 3 0))] 0 86, [(.pbox (.agg [.fs, .fs, .fs, .fs]) 4), (.pbox (.agg [.fs, .fs, .fs, .fs, .fs, .fs, (.int .i64)]) 7), (.row 3), (.pbox (.agg [(.int .i64), (.int .i64), .str]) 3)], []⟩ [.rows l101, .str s102, .int k103, .rows es104, .rows es105, .rows es106, .rows es107, .rows es108, .rows es109, .rows es110, .rows es111, .rows es112, .rows es113, .int i114, .rows es115, .int i116, .int i117, .str s118]) R k = acts24_J9 n [.rows l101, .str s102, .int k103, .rows es104, .rows es105, .rows es106, .rows es107, .rows es108, .rows es109, .rows es110, .rows es111, .rows es112, .rows es113, .int i114, .rows es115, .int i116, .int i117, .str s118] R k := by kernel_rfl
theorem acts24_eq (n : Nat) (i1 : List (List PV)) (i2 : List (List PV)) (i3 : List (List PV)) (i4 : List (List PV)) (l5 : List (List PV)) (s6 : ByteArray) :
    funK T G0 (ctrOf acts24_Γ) (acts24_Λ n) .s true [none, none, none] (funOf Tryd.f23) [(PV.agg [(PV.fs i1), (PV.fs i2), (PV.fs i3), (PV.fs i4)]), (PV.fs l5), (PV.str s6)] = acts24_b n  i1 i2 i3 i4 l5 s6 (fun a0 => if (noMem (acts24_E a0).1 && noMemL (acts24_E a0).2) = true then some (acts24_E a0) else none) := by kernel_rfl
theorem acts24_inv {ps : List PV} {y : (List (List PV))} (h : acts24_D ps = some y) : ∃ (i1 : List (List PV)) (i2 : List (List PV)) (i3 : List (List PV)) (i4 : List (List PV)) (l5 : List (List PV)) (s6 : ByteArray), ps = [(PV.agg [(PV.fs i1), (PV.fs i2), (PV.fs i3), (PV.fs i4)]), (PV.fs l5), (PV.str s6)] := by
  unfold acts24_D at h
  split at h
  · exact ⟨_, _, _, _, _, _, rfl⟩
  · cases h
theorem acts24_loops : loopsOf (bodyOf Tryd.f23) = [codeAt [1, 1, 1, 1, 0, 1, 0, 0] (bodyOf Tryd.f23)] := by kernel_rfl
theorem acts24_joins : (joinsOf (bodyOf Tryd.f23)).filter acts24_on = [codeAt [1, 1, 1, 1, 0, 1, 0, 0, 1, 0, 0, 1] (bodyOf Tryd.f23)] := by kernel_rfl
theorem acts24_holds (hΓ : HoldsAll Tryd.prog G0 acts24_Γ) (hok : ∀ (i1 : List (List PV)) (i2 : List (List PV)) (i3 : List (List PV)) (i4 : List (List PV)) (l5 : List (List PV)) (s6 : ByteArray) (y : (List (List PV))), sActs24 i1 i2 i3 i4 l5 s6 = some y → ∃ n, ∀ (R : Type) (k : List (List PV) → Option R), acts24_b n  i1 i2 i3 i4 l5 s6 k = k y) (hno : ∀ (i1 : List (List PV)) (i2 : List (List PV)) (i3 : List (List PV)) (i4 : List (List PV)) (l5 : List (List PV)) (s6 : ByteArray) (y : (List (List PV))), sActs24 i1 i2 i3 i4 l5 s6 = some y → (noMem (acts24_E y).1 && noMemL (acts24_E y).2) = true) : Holds Tryd.prog G0 23 acts24_C := by
  refine fun_pat mixed tOk (ctrOf_ok hΓ) Tryd.func23 rfl rfl rfl rfl (F := funOf Tryd.f23) (normBy_ok acts24_cfg) (pat := acts24_pat) (L := acts24_L) (normJ_ok acts24_cfg) (on := acts24_on) (patj := acts24_patj) (J := acts24_J) (fun c hc ls R k => ?_) (fun c hc p hp m ls R k r h => ?_) (fun c hc p hp m ls R k r h => ?_) (fun ps x h => ?_)
  · rw [show (funOf Tryd.f23).code = bodyOf Tryd.f23 from rfl, acts24_loops] at hc
    simp only [List.mem_cons, List.not_mem_nil, or_false] at hc
    rcases hc with rfl
    · show acts24_L5 0 ls R k = none
      unfold acts24_L5
      split
      · rfl
      · rfl
  · rw [show (funOf Tryd.f23).code = bodyOf Tryd.f23 from rfl, acts24_loops] at hc
    simp only [List.mem_cons, List.not_mem_nil, or_false] at hc
    rcases hc with rfl
    · have hp' : p = ⟨sparse .undef [(1, (.val .fs)), (2, (.val .str)), (3, (.ref 0 0)), (7, (.val (.fn 16 []))), (8, (.ref 1 0)), (9, (.ow 2)), (10, (.val (.int .i64)))] 0 86, [(.pbox (.agg [.fs, .fs, .fs, .fs]) 4), (.pbox (.agg [.fs, .fs, .fs, .fs, .fs, .fs, (.int .i64)]) 7), (.row 3)], []⟩ := (Option.some.inj (hp : some _ = some p)).symm
      subst hp'
      change acts24_L5 (m + 1) ls R k = some r at h
      have h' := h
      unfold acts24_L5 at h'
      split at h'
      · exact (acts24_step5 m _ _ _ _ _ _ _ _ _ _ _ _ _ _ _ R k).trans h
      · cases h'
  · rw [show (funOf Tryd.f23).code = bodyOf Tryd.f23 from rfl, acts24_joins] at hc
    simp only [List.mem_cons, List.not_mem_nil, or_false] at hc
    rcases hc with rfl
    · have hp' : p = ⟨sparse .undef [(1, (.val .fs)), (2, (.val .str)), (3, (.ref 0 0)), (7, (.val (.fn 16 []))), (8, (.ref 1 0)), (9, (.ow 2)), (10, (.val (.int .i64))), (11, (.ref 3 0))] 0 86, [(.pbox (.agg [.fs, .fs, .fs, .fs]) 4), (.pbox (.agg [.fs, .fs, .fs, .fs, .fs, .fs, (.int .i64)]) 7), (.row 3), (.pbox (.agg [(.int .i64), (.int .i64), .str]) 3)], []⟩ := (Option.some.inj (hp : some _ = some p)).symm
      subst hp'
      change acts24_J9 m ls R k = some r at h
      have h' := h
      unfold acts24_J9 at h'
      split at h'
      · exact (acts24_stepq9 m _ _ _ _ _ _ _ _ _ _ _ _ _ _ _ _ _ _ R k).trans h
      · cases h'
  · obtain ⟨y, hy, hx⟩ := bind_inv h
    cases hx
    obtain ⟨i1, i2, i3, i4, l5, s6, rfl⟩ := acts24_inv hy
    obtain ⟨n, hn⟩ := hok i1 i2 i3 i4 l5 s6 y hy
    exact ⟨n, (acts24_eq n i1 i2 i3 i4 l5 s6).trans ((hn _ _).trans (if_pos (hno i1 i2 i3 i4 l5 s6 y hy)))⟩
end
end Go.Proofs.YtkeklbicmfhemaaDoorV
namespace Go.Proofs.YtkeklbicmfhemaaDoorV
open Go
set_option maxRecDepth 20000
set_option linter.unusedSimpArgs false
def okT (n : Nat) (t : ByteArray) : Prop := t.size ≤ n ∧ 10 ∉ t.data.toList
theorem okT_mono {n m : Nat} {t : ByteArray} (h : okT n t) (hm : n ≤ m) : okT m t := ⟨Nat.le_trans h.1 hm, h.2⟩
theorem okT_text {n : Nat} {l : List UInt8} (h : l.length ≤ n) (h10 : 10 ∉ l) : okT n (text l) := ⟨by rw [text_size]; exact h, by rw [text_data]; exact h10⟩
theorem okT_add {n m : Nat} {s t : ByteArray} (h : okT n s) (k : okT m t) : okT (n + m) (s ++ t) := by
  refine ⟨by rw [ByteArray.size_append]; have := h.1; have := k.1; omega, ?_⟩
  rw [ByteArray.data_append, Array.toList_append, List.mem_append]
  exact fun e => e.elim h.2 k.2
theorem okT_dig {x : Int} (h : inI x = true) : okT 20 (text (dig x)) := by
  refine okT_text (dig_length h).2 fun e => ?_
  rcases dig_chars h 10 e with h' | h'
  · exact absurd h' (by decide)
  · exact absurd h' (by decide)
theorem okT_beside {n : Nat} {s t : ByteArray} (h : okT n t) (hn : n ≤ 400) : beside s t := ⟨by have := h.1; omega, fun e => absurd e h.2⟩
theorem okT_room {n m : Nat} {s t : ByteArray} (h : okT n s) (k : okT m t) (hn : n + m ≤ 100000) : s.size + t.size ≤ 140737488355328 := by
  have := h.1
  have := k.1
  omega
theorem rdig {x : Int} (h : inI x = true) : sRDigits x = some (text (dig x)) := sItoa_in h
theorem inI_of {n : Int} (h1 : -9223372036854775808 ≤ n) (h2 : n < 9223372036854775808) : inI n = true := (inI_iff n).2 ⟨h1, h2⟩
theorem inI_wrapped (n : Int) : inI (IntKind.i64.wrap n) = true := by
  have h1 := Int.emod_nonneg n (b := 18446744073709551616) (by omega)
  have h2 := Int.emod_lt_of_pos n (b := 18446744073709551616) (by omega)
  rw [inI_iff, wrap_i64_eq]
  split <;> omega
def lineTab : List (List UInt8) := [[], [32], [97, 100, 100], [100, 101, 108], [100, 101, 108, 32, 120], [100, 101, 108, 32, 45, 49], [100, 101, 108, 32, 48, 49], [100, 101, 108, 32, 49, 48, 48, 48], [108, 111, 99, 107, 32, 49, 32, 50], [111, 112, 116, 32, 48, 32, 49, 32, 48], [111, 112, 116, 32, 50, 49, 32, 49, 32, 48], [117, 110, 100, 111, 32, 49], [80, 111, 111, 108], [32, 32, 99, 111, 115, 116, 32], [115, 104, 111, 119, 32, 32, 48], [109, 111, 118, 32, 49, 32, 48, 32, 48, 32, 48, 32, 48], [119, 104, 97, 116]]
theorem lineTab_ok : ∀ l ∈ lineTab, l.length ≤ 20 ∧ 10 ∉ l := by decide
theorem lineQ51 (n car i : Int) (s : ByteArray) (b : Bool) (hc : inI car = true) : ∃ t, beside s t ∧ ∀ (R : Type) (k0 : ByteArray → Option R), pLine_q51 n s car i b k0 k0 = k0 t := by
  unfold pLine_q51
  cases b with
  | true => exact ⟨_, okT_beside (n := 20) (okT_text (l := [114, 101, 100, 111]) (by decide) (by decide)) (by omega), fun R k0 => rfl⟩
  | false =>
    by_cases h1 : i = 25
    · subst h1
      have o : okT 5 (ByteArray.mk #[115, 104, 111, 119, 32]) := okT_text (l := [115, 104, 111, 119, 32]) (by decide) (by decide)
      refine ⟨_, okT_beside (okT_add o (okT_dig hc)) (by omega), fun R k0 => ?_⟩
      rw [cond_false, beq_self_eq_true, cond_true, rdig hc, Option.bind_some, if_pos (okT_room o (okT_dig hc) (by omega))]
    by_cases h2 : i = 26
    · subst h2
      exact ⟨_, okT_beside (n := 20) (okT_text (l := [112, 111, 111, 108]) (by decide) (by decide)) (by omega), fun R k0 => rfl⟩
    by_cases h3 : i = 27
    · subst h3
      exact ⟨_, okT_beside (n := 20) (okT_text (l := [99, 111, 115, 116]) (by decide) (by decide)) (by omega), fun R k0 => rfl⟩
    have e1 : (i == 25) = false := by simpa using h1
    have e2 : (i == 26) = false := by simpa using h2
    have e3 : (i == 27) = false := by simpa using h3
    by_cases h4 : i = 28
    · have hb := wn_bounds n (m := 17) (by omega)
      have hj : (wn n 17).toNat < lineTab.length := by show (wn n 17).toNat < 17; omega
      have hm := lineTab_ok _ (List.getElem_mem hj)
      refine ⟨text lineTab[(wn n 17).toNat], okT_beside (okT_text hm.1 hm.2) (by omega), fun R k0 => ?_⟩
      have ht : ∀ j : Nat, j < 17 → ([[(PV.str (ByteArray.mk #[]))], [(PV.str (ByteArray.mk #[32]))], [(PV.str (ByteArray.mk #[97, 100, 100]))], [(PV.str (ByteArray.mk #[100, 101, 108]))], [(PV.str (ByteArray.mk #[100, 101, 108, 32, 120]))], [(PV.str (ByteArray.mk #[100, 101, 108, 32, 45, 49]))], [(PV.str (ByteArray.mk #[100, 101, 108, 32, 48, 49]))], [(PV.str (ByteArray.mk #[100, 101, 108, 32, 49, 48, 48, 48]))], [(PV.str (ByteArray.mk #[108, 111, 99, 107, 32, 49, 32, 50]))], [(PV.str (ByteArray.mk #[111, 112, 116, 32, 48, 32, 49, 32, 48]))], [(PV.str (ByteArray.mk #[111, 112, 116, 32, 50, 49, 32, 49, 32, 48]))], [(PV.str (ByteArray.mk #[117, 110, 100, 111, 32, 49]))], [(PV.str (ByteArray.mk #[80, 111, 111, 108]))], [(PV.str (ByteArray.mk #[32, 32, 99, 111, 115, 116, 32]))], [(PV.str (ByteArray.mk #[115, 104, 111, 119, 32, 32, 48]))], [(PV.str (ByteArray.mk #[109, 111, 118, 32, 49, 32, 48, 32, 48, 32, 48, 32, 48]))], [(PV.str (ByteArray.mk #[119, 104, 97, 116]))]] : List (List PV))[j]? = some [PV.str (text (lineTab.getD j []))] := by
        intro j hj
        have : j = 0 ∨ j = 1 ∨ j = 2 ∨ j = 3 ∨ j = 4 ∨ j = 5 ∨ j = 6 ∨ j = 7 ∨ j = 8 ∨ j = 9 ∨ j = 10 ∨ j = 11 ∨ j = 12 ∨ j = 13 ∨ j = 14 ∨ j = 15 ∨ j = 16 := by omega
        rcases this with rfl | rfl | rfl | rfl | rfl | rfl | rfl | rfl | rfl | rfl | rfl | rfl | rfl | rfl | rfl | rfl | rfl <;> rfl
      have e4 : (i == 28) = true := by simpa using h4
      rw [cond_false, e1, cond_false, e2, cond_false, e3, cond_false, e4, cond_true, w_17, Option.bind_some, if_pos (by omega), ht _ hj]
      have hg : lineTab.getD (wn n 17).toNat [] = lineTab[(wn n 17).toNat] := by rw [List.getD_eq_getElem?_getD, List.getElem?_eq_getElem hj]; rfl
      rw [hg]
      rfl
    · have e4 : (i == 28) = false := by simpa using h4
      refine ⟨s, ⟨by omega, id⟩, fun R k0 => ?_⟩
      rw [cond_false, e1, cond_false, e2, cond_false, e3, cond_false, e4, cond_false]
theorem lineQ48 (n car i : Int) (s : ByteArray) (b : Bool) (hc : inI car = true) : ∃ t, beside s t ∧ ∀ (R : Type) (k0 : ByteArray → Option R), pLine_q48 n s car i b k0 k0 = k0 t := by
  unfold pLine_q48
  cases b with
  | true => exact ⟨_, okT_beside (n := 20) (okT_text (l := [117, 110, 100, 111]) (by decide) (by decide)) (by omega), fun R k0 => rfl⟩
  | false =>
    cases h : (i == 23) with
    | true => exact lineQ51 n car i s true hc
    | false => exact lineQ51 n car i s (i == 24) hc
theorem lineQ41 (n m car i : Int) (s : ByteArray) (b : Bool) (cs : List Car) (hcs : cs.length ≤ big) (a2 a3 a4 : List (List PV)) (hc : inI car = true) : ∃ t, beside s t ∧ ∀ (R : Type) (k0 : ByteArray → Option R), pLine_q41 n m s car i b (carRow cs) a2 a3 a4 k0 k0 = k0 t := by
  unfold pLine_q41
  cases b with
  | true =>
    unfold big at hcs
    have o1 : okT 4 (ByteArray.mk #[111, 112, 116, 32]) := okT_text (l := [111, 112, 116, 32]) (by decide) (by decide)
    have o2 : okT 1 (ByteArray.mk #[32]) := okT_text (l := [32]) (by decide) (by decide)
    have b1 := wn_bounds n (m := 12) (by omega)
    have b2 := wn_bounds m (m := 1000) (by omega)
    have i1 : inI (IntKind.i64.wrap (1 + wn n 12)) = true := inI_wrapped _
    have i2 : inI (wn m 1000) = true := inI_of (by omega) (by omega)
    have w4 : within_d (IntKind.i64.wrap (Int.tdiv m 7)) (IntKind.i64.wrap ((cs.length : Int) + 1)) = some (IntKind.i64.wrap (Int.tdiv m 7) % ((cs.length : Int) + 1)) := by
      rw [wrapN (n := (cs.length : Int) + 1) (by omega) (by omega)]
      exact within_val _ (by omega) (by omega)
    have b4 := Int.emod_nonneg (IntKind.i64.wrap (Int.tdiv m 7)) (b := (cs.length : Int) + 1) (by omega)
    have b5 := Int.emod_lt_of_pos (IntKind.i64.wrap (Int.tdiv m 7)) (b := (cs.length : Int) + 1) (by omega)
    have i4 : inI (IntKind.i64.wrap (Int.tdiv m 7) % ((cs.length : Int) + 1)) = true := inI_of (by omega) (by omega)
    have t1 := okT_add o1 (okT_dig i1)
    have t2 := okT_add t1 o2
    have t3 := okT_add t2 (okT_dig i2)
    have t4 := okT_add t3 o2
    have t5 := okT_add t4 (okT_dig hc)
    have t6 := okT_add o2 (okT_dig i4)
    have t7 := okT_add t5 t6
    by_cases h : wn n 3 > 0
    · refine ⟨_, okT_beside t7 (by omega), fun R k0 => ?_⟩
      rw [cond_true, w_12, Option.bind_some, rdig i1, Option.bind_some, if_pos (okT_room o1 (okT_dig i1) (by omega)), if_pos (okT_room t1 o2 (by omega)), w_1000, Option.bind_some, rdig i2, Option.bind_some, if_pos (okT_room t2 (okT_dig i2) (by omega)), if_pos (okT_room t3 o2 (by omega)), rdig hc, Option.bind_some, if_pos (okT_room t4 (okT_dig hc) (by omega)), w_3, Option.bind_some, decide_eq_true h, cond_true, carRow_length, w4, Option.bind_some, rdig i4, Option.bind_some, if_pos (okT_room o2 (okT_dig i4) (by omega)), if_pos (okT_room t5 t6 (by omega))]
    · refine ⟨_, okT_beside t5 (by omega), fun R k0 => ?_⟩
      rw [cond_true, w_12, Option.bind_some, rdig i1, Option.bind_some, if_pos (okT_room o1 (okT_dig i1) (by omega)), if_pos (okT_room t1 o2 (by omega)), w_1000, Option.bind_some, rdig i2, Option.bind_some, if_pos (okT_room t2 (okT_dig i2) (by omega)), if_pos (okT_room t3 o2 (by omega)), rdig hc, Option.bind_some, if_pos (okT_room t4 (okT_dig hc) (by omega)), w_3, Option.bind_some, decide_eq_false h, cond_false]
  | false =>
    cases h1 : (i == 20) with
    | true => exact lineQ48 n car i s true hc
    | false =>
      cases h2 : (i == 21) with
      | true => exact lineQ48 n car i s true hc
      | false => exact lineQ48 n car i s (i == 22) hc
theorem lineQ29 (n m stop car i : Int) (s place : ByteArray) (b : Bool) (cs : List Car) (hcs : cs.length ≤ big) (a2 a3 a4 : List (List PV)) (hst : inI stop = true) (hc : inI car = true) (hp : okT 200 place) : ∃ t, beside s t ∧ ∀ (R : Type) (k0 : ByteArray → Option R), pLine_q29 n m s stop car place i b (carRow cs) a2 a3 a4 k0 k0 = k0 t := by
  unfold pLine_q29
  have one : ∀ (l : List UInt8) (x : Int), l.length ≤ 10 → 10 ∉ l → inI x = true → ∃ t, beside s t ∧ ∀ (R : Type) (k0 : ByteArray → Option R), (Option.bind (sRDigits x) fun y => if (text l).size + y.size ≤ 140737488355328 then k0 (text l ++ y) else none) = k0 t := by
    intro l x hl h10 hx
    have o : okT 10 (text l) := okT_text hl h10
    exact ⟨_, okT_beside (okT_add o (okT_dig hx)) (by omega), fun R k0 => by rw [rdig hx, Option.bind_some, if_pos (okT_room o (okT_dig hx) (by omega))]⟩
  cases b with
  | true =>
    have o : okT 3 (ByteArray.mk #[109, 111, 118]) := okT_text (l := [109, 111, 118]) (by decide) (by decide)
    exact ⟨_, okT_beside (okT_add o hp) (by omega), fun R k0 => by rw [cond_true, if_pos (okT_room o hp (by omega))]⟩
  | false =>
    cases h1 : (i == 13) with
    | true => exact one [108, 111, 99, 107, 32] stop (by decide) (by decide) hst
    | false =>
      cases h2 : (i == 14) with
      | true => exact one [102, 114, 101, 101, 32] stop (by decide) (by decide) hst
      | false =>
        cases h3 : (i == 15) with
        | true => exact one [105, 99, 101, 32] car (by decide) (by decide) hc
        | false =>
          cases h4 : (i == 16) with
          | true => exact one [116, 104, 97, 119, 32] car (by decide) (by decide) hc
          | false =>
            cases h5 : (i == 17) with
            | true => exact lineQ41 n m car i s true cs hcs a2 a3 a4 hc
            | false =>
              cases h6 : (i == 18) with
              | true => exact lineQ41 n m car i s true cs hcs a2 a3 a4 hc
              | false => exact lineQ41 n m car i s (i == 19) cs hcs a2 a3 a4 hc
theorem lineQ25 (n m stop car i : Int) (s place : ByteArray) (b : Bool) (cs : List Car) (hcs : cs.length ≤ big) (a2 a3 a4 : List (List PV)) (hst : inI stop = true) (hc : inI car = true) (hp : okT 200 place) : ∃ t, beside s t ∧ ∀ (R : Type) (k0 : ByteArray → Option R), pLine_q25 n m s stop car place i b (carRow cs) a2 a3 a4 k0 k0 = k0 t := by
  unfold pLine_q25
  cases b with
  | true =>
    have o : okT 4 (ByteArray.mk #[100, 101, 108, 32]) := okT_text (l := [100, 101, 108, 32]) (by decide) (by decide)
    exact ⟨_, okT_beside (okT_add o (okT_dig hst)) (by omega), fun R k0 => by rw [cond_true, rdig hst, Option.bind_some, if_pos (okT_room o (okT_dig hst) (by omega))]⟩
  | false =>
    cases h1 : (i == 10) with
    | true => exact lineQ29 n m stop car i s place true cs hcs a2 a3 a4 hst hc hp
    | false =>
      cases h2 : (i == 11) with
      | true => exact lineQ29 n m stop car i s place true cs hcs a2 a3 a4 hst hc hp
      | false => exact lineQ29 n m stop car i s place (i == 12) cs hcs a2 a3 a4 hst hc hp
theorem lineQ22 (n m stop car i : Int) (s place : ByteArray) (b : Bool) (cs : List Car) (hcs : cs.length ≤ big) (a2 a3 a4 : List (List PV)) (hst : inI stop = true) (hc : inI car = true) (hp : okT 200 place) : ∃ t, beside s t ∧ ∀ (R : Type) (k0 : ByteArray → Option R), pLine_q22 n m s stop car place i b (carRow cs) a2 a3 a4 k0 k0 = k0 t := by
  unfold pLine_q22
  cases b with
  | true =>
    have o : okT 3 (ByteArray.mk #[97, 100, 100]) := okT_text (l := [97, 100, 100]) (by decide) (by decide)
    exact ⟨_, okT_beside (okT_add o hp) (by omega), fun R k0 => by rw [cond_true, if_pos (okT_room o hp (by omega))]⟩
  | false =>
    cases h1 : (i == 8) with
    | true => exact lineQ25 n m stop car i s place true cs hcs a2 a3 a4 hst hc hp
    | false => exact lineQ25 n m stop car i s place (i == 9) cs hcs a2 a3 a4 hst hc hp
theorem lineQ13 (k n m stop car : Int) (s place : ByteArray) (cs : List Car) (hcs : cs.length ≤ big) (a2 a3 a4 : List (List PV)) (hst : inI stop = true) (hc : inI car = true) (hp : okT 200 place) : ∃ t, beside s t ∧ ∀ (R : Type) (k0 : ByteArray → Option R), pLine_q13 k n m s stop car place (carRow cs) a2 a3 a4 k0 = k0 t := by
  unfold pLine_q13
  simp only [w_30, Option.bind_some]
  generalize wn k 30 = y
  have q := fun b => lineQ22 n m stop car y s place b cs hcs a2 a3 a4 hst hc hp
  cases y == (0 : Int) with
  | true => exact q true
  | false =>
    cases y == (1 : Int) with
    | true => exact q true
    | false =>
      cases y == (2 : Int) with
      | true => exact q true
      | false =>
        cases y == (3 : Int) with
        | true => exact q true
        | false =>
          cases y == (4 : Int) with
          | true => exact q true
          | false =>
            cases y == (5 : Int) with
            | true => exact q true
            | false =>
              cases y == (6 : Int) with
              | true => exact q true
              | false => exact q (y == 7)
theorem within_size (n : Int) {size : Int} (h0 : 0 ≤ size) (h1 : size ≤ 1099511627776) : within_d n (IntKind.i64.wrap (size + 1)) = some (n % (size + 1)) ∧ 0 ≤ n % (size + 1) ∧ n % (size + 1) ≤ size := by
  have b1 := Int.emod_nonneg n (b := size + 1) (by omega)
  have b2 := Int.emod_lt_of_pos n (b := size + 1) (by omega)
  refine ⟨?_, b1, by omega⟩
  rw [wrapN (n := size + 1) (by omega) (by omega)]
  exact within_val n (by omega) (by omega)
theorem lineQ12 (k n m stop car size : Int) (s place : ByteArray) (a1 a2 a3 a4 : List (List PV)) (h0 : 0 ≤ size) (h1 : size ≤ 1099511627776) (hp : okT 150 place) : ∃ p, okT 200 p ∧ ∀ (R : Type) (k0 : Int → Int → Int → ByteArray → Int → Int → ByteArray → List (List PV) → List (List PV) → List (List PV) → List (List PV) → Option R), pLine_q12 k n m s stop car size place a1 a2 a3 a4 k0 = k0 k n m s stop car p a1 a2 a3 a4 := by
  unfold pLine_q12
  have o2 : okT 1 (ByteArray.mk #[32]) := okT_text (l := [32]) (by decide) (by decide)
  obtain ⟨w1, _, _⟩ := within_size (IntKind.i64.wrap (Int.tdiv n 11)) h0 h1
  obtain ⟨w2, _, _⟩ := within_size (IntKind.i64.wrap (Int.tdiv m 5)) h0 h1
  have hz := inI_wrapped (IntKind.i64.wrap (IntKind.i64.wrap (Int.tdiv n 11) % (size + 1) + 1) + IntKind.i64.wrap (Int.tdiv (IntKind.i64.wrap (Int.tdiv m 5) % (size + 1)) 2))
  have t1 := okT_add o2 (okT_dig hz)
  have t2 := okT_add hp t1
  refine ⟨_, okT_mono t2 (by omega), fun R k0 => ?_⟩
  rw [w1, Option.bind_some, w2, Option.bind_some, rdig hz, Option.bind_some, if_pos (okT_room o2 (okT_dig hz) (by omega)), if_pos (okT_room hp t1 (by omega))]
structure Given (i : Inst) (a b c d : List (List PV)) : Prop where
  un : unInst a b c d = some i
  small : smallI i = true
theorem Given.mate {i : Inst} {a b c d : List (List PV)} (h : Given i a b c d) (s : Int) : sMate a b c d s = some (mateOf i.pairs s) := by
  unfold sMate
  rw [h.un, Option.bind_some, if_pos h.small]
theorem Given.first {i : Inst} {a b c d : List (List PV)} (h : Given i a b c d) (s : Int) : sFirst a b c d s = some (firstOf i.pairs s) := by
  unfold sFirst
  rw [h.un, Option.bind_some, if_pos h.small]
theorem mateOf_in : ∀ {l : List (Int × Int)} {s : Int}, (∀ c ∈ l, inI c.1 = true ∧ inI c.2 = true) → inI (mateOf l s) = true
  | [], _, _ => rfl
  | p :: r, s, h => by
    unfold mateOf
    split
    · exact (h p (by simp)).2
    · split
      · exact (h p (by simp)).1
      · exact mateOf_in fun c hc => h c (by simp [hc])
theorem lineQ10 (k n m stop car size : Int) (s place : ByteArray) (b : Bool) {i : Inst} {a1 a2 a3 a4 : List (List PV)} (g : Given i a1 a2 a3 a4) (h0 : 0 ≤ size) (h1 : size ≤ 1099511627776) (hc : inI car = true) (hp : okT 100 place) : ∃ p, okT 200 p ∧ ∀ (R : Type) (k0 : Int → Int → Int → ByteArray → Int → Int → ByteArray → List (List PV) → List (List PV) → List (List PV) → List (List PV) → Option R), pLine_q10 k n m s stop car size place b a1 a2 a3 a4 k0 = k0 k n m s stop car p a1 a2 a3 a4 := by
  unfold pLine_q10
  cases b with
  | false => exact ⟨place, okT_mono hp (by omega), fun R k0 => rfl⟩
  | true =>
    cases hf : firstOf i.pairs stop with
    | true =>
      obtain ⟨p, p1, p2⟩ := lineQ12 k n m stop car size s place a1 a2 a3 a4 h0 h1 (okT_mono hp (by omega))
      refine ⟨p, p1, fun R k0 => ?_⟩
      rw [cond_true, g.first, Option.bind_some, hf, Bool.not_true, cond_false]
      exact p2 R k0
    | false =>
      have hm : inI (mateOf i.pairs stop) = true := mateOf_in (unInst_inv g.un).2.2.2.2.2.2.1
      have o2 : okT 1 (ByteArray.mk #[32]) := okT_text (l := [32]) (by decide) (by decide)
      obtain ⟨w1, b1, b2⟩ := within_size (IntKind.i64.wrap (Int.tdiv n 11)) h0 h1
      have hz : inI (IntKind.i64.wrap (Int.tdiv n 11) % (size + 1)) = true := inI_of (by omega) (by omega)
      have t1 := okT_add o2 (okT_dig hm)
      have t2 := okT_add t1 o2
      have t3 := okT_add t2 (okT_dig hc)
      have t4 := okT_add t3 o2
      have t5 := okT_add t4 (okT_dig hz)
      obtain ⟨p, p1, p2⟩ := lineQ12 k n m stop car size s _ a1 a2 a3 a4 h0 h1 (okT_mono t5 (by omega))
      refine ⟨p, p1, fun R k0 => ?_⟩
      rw [cond_true, g.first, Option.bind_some, hf, Bool.not_false, cond_true, g.mate, Option.bind_some, rdig hm, Option.bind_some, if_pos (okT_room o2 (okT_dig hm) (by omega)), if_pos (okT_room t1 o2 (by omega)), rdig hc, Option.bind_some, if_pos (okT_room t2 (okT_dig hc) (by omega)), if_pos (okT_room t3 o2 (by omega)), w1, Option.bind_some, rdig hz, Option.bind_some, if_pos (okT_room t4 (okT_dig hz) (by omega))]
      exact p2 R k0
theorem lineQ8 (k n m stop car size : Int) (s : ByteArray) {i : Inst} {a1 a2 a3 a4 : List (List PV)} (g : Given i a1 a2 a3 a4) (h0 : 0 ≤ size) (h1 : size ≤ 1099511627776) (hst : inI stop = true) (hc : inI car = true) : ∃ t, beside s t ∧ ∀ (R : Type) (k0 : ByteArray → Option R), pLine_q8 k n m s stop car size a1 a2 a3 a4 k0 = k0 t := by
  unfold pLine_q8
  have o2 : okT 1 (ByteArray.mk #[32]) := okT_text (l := [32]) (by decide) (by decide)
  obtain ⟨w1, _, _⟩ := within_size (IntKind.i64.wrap (Int.tdiv n 11)) h0 h1
  have hz := inI_wrapped (IntKind.i64.wrap (Int.tdiv n 11) % (size + 1) + IntKind.i64.wrap (Int.tdiv (wn (IntKind.i64.wrap (Int.tdiv n 67)) 20) 19))
  have t1 := okT_add o2 (okT_dig hst)
  have t2 := okT_add t1 o2
  have t3 := okT_add t2 (okT_dig hc)
  have t4 := okT_add t3 o2
  have t5 := okT_add t4 (okT_dig hz)
  have hcs : i.cars.length ≤ big := by
    have := g.small
    simp only [smallI, Bool.and_eq_true, decide_eq_true_eq] at this
    exact this.1
  have hrow : a1 = carRow i.cars := (unInst_inv g.un).1
  have fin : ∀ b, ∃ t, beside s t ∧ ∀ (R : Type) (k0 : ByteArray → Option R), pLine_q10 k n m s stop car size (ByteArray.mk #[32] ++ text (dig stop) ++ ByteArray.mk #[32] ++ text (dig car) ++ ByteArray.mk #[32] ++ text (dig (IntKind.i64.wrap (IntKind.i64.wrap (Int.tdiv n 11) % (size + 1) + IntKind.i64.wrap (Int.tdiv (wn (IntKind.i64.wrap (Int.tdiv n 67)) 20) 19))))) b a1 a2 a3 a4
      (fun (k : Int) (n : Int) (m : Int) (s : ByteArray) (stop : Int) (car : Int) (place : ByteArray) (e1 e2 e3 e4 : List (List PV)) => pLine_q13 k n m s stop car place e1 e2 e3 e4 k0) = k0 t := by
    intro b
    obtain ⟨p, p1, p2⟩ := lineQ10 k n m stop car size s _ b g h0 h1 hc (okT_mono t5 (by omega))
    obtain ⟨t, q1, q2⟩ := lineQ13 k n m stop car s p i.cars hcs a2 a3 a4 hst hc p1
    refine ⟨t, q1, fun R k0 => ?_⟩
    rw [p2 R]
    rw [hrow]
    exact q2 R k0
  have pre : ∀ (R : Type) (K : ByteArray → Option R), (Option.bind (sRDigits stop) fun y78 =>
      if ((ByteArray.mk #[32])).size + (y78).size ≤ 140737488355328 then
        if (((ByteArray.mk #[32]) ++ y78)).size + ((ByteArray.mk #[32])).size ≤ 140737488355328 then
          Option.bind (sRDigits car) fun y79 =>
          if ((((ByteArray.mk #[32]) ++ y78) ++ (ByteArray.mk #[32]))).size + (y79).size ≤ 140737488355328 then
            if (((((ByteArray.mk #[32]) ++ y78) ++ (ByteArray.mk #[32])) ++ y79)).size + ((ByteArray.mk #[32])).size ≤ 140737488355328 then
              Option.bind (within_d (IntKind.i64.wrap (Int.tdiv n (11 : Int))) (IntKind.i64.wrap (size + (1 : Int)))) fun y80 =>
              Option.bind (within_d (IntKind.i64.wrap (Int.tdiv n (67 : Int))) 20) fun y81 =>
              Option.bind (sRDigits (IntKind.i64.wrap (y80 + (IntKind.i64.wrap (Int.tdiv y81 (19 : Int)))))) fun y82 =>
              if ((((((ByteArray.mk #[32]) ++ y78) ++ (ByteArray.mk #[32])) ++ y79) ++ (ByteArray.mk #[32]))).size + (y82).size ≤ 140737488355328 then K ((((((ByteArray.mk #[32]) ++ y78) ++ (ByteArray.mk #[32])) ++ y79) ++ (ByteArray.mk #[32])) ++ y82) else none
            else none
          else none
        else none
      else none) = K (ByteArray.mk #[32] ++ text (dig stop) ++ ByteArray.mk #[32] ++ text (dig car) ++ ByteArray.mk #[32] ++ text (dig (IntKind.i64.wrap (IntKind.i64.wrap (Int.tdiv n 11) % (size + 1) + IntKind.i64.wrap (Int.tdiv (wn (IntKind.i64.wrap (Int.tdiv n 67)) 20) 19))))) := by
    intro R K
    rw [rdig hst, Option.bind_some, if_pos (okT_room o2 (okT_dig hst) (by omega)), if_pos (okT_room t1 o2 (by omega)), rdig hc, Option.bind_some, if_pos (okT_room t2 (okT_dig hc) (by omega)), if_pos (okT_room t3 o2 (by omega)), w1, Option.bind_some, w_20, Option.bind_some, rdig hz, Option.bind_some, if_pos (okT_room t4 (okT_dig hz) (by omega))]
  by_cases hm : mateOf i.pairs stop > 0
  · obtain ⟨t, f1, f2⟩ := fin (decide (wn (IntKind.i64.wrap (Int.tdiv n 5)) 9 < 8))
    refine ⟨t, f1, fun R k0 => ?_⟩
    have := pre R (fun y => Option.bind (sMate a1 a2 a3 a4 stop) fun y83 =>
            cond (decide (y83 > (0 : Int))) (
              Option.bind (within_d (IntKind.i64.wrap (Int.tdiv n (5 : Int))) 9) fun y84 =>
              pLine_q10 k n m s stop car size y (decide (y84 < (8 : Int))) a1 a2 a3 a4
                (fun (k85 : Int) (n86 : Int) (m87 : Int) (s88 : ByteArray) (stop89 : Int) (car90 : Int) (place91 : ByteArray) (es92 : List (List PV)) (es93 : List (List PV)) (es94 : List (List PV)) (es95 : List (List PV)) =>
                  pLine_q13 k85 n86 m87 s88 stop89 car90 place91 es92 es93 es94 es95 k0)) (
              pLine_q10 k n m s stop car size y false a1 a2 a3 a4
                (fun (k97 : Int) (n98 : Int) (m99 : Int) (s100 : ByteArray) (stop101 : Int) (car102 : Int) (place103 : ByteArray) (es104 : List (List PV)) (es105 : List (List PV)) (es106 : List (List PV)) (es107 : List (List PV)) =>
                  pLine_q13 k97 n98 m99 s100 stop101 car102 place103 es104 es105 es106 es107 k0)))
    refine this.trans ?_
    rw [g.mate, Option.bind_some, decide_eq_true hm, cond_true, w_9, Option.bind_some]
    exact f2 R k0
  · obtain ⟨t, f1, f2⟩ := fin false
    refine ⟨t, f1, fun R k0 => ?_⟩
    have := pre R (fun y => Option.bind (sMate a1 a2 a3 a4 stop) fun y83 =>
            cond (decide (y83 > (0 : Int))) (
              Option.bind (within_d (IntKind.i64.wrap (Int.tdiv n (5 : Int))) 9) fun y84 =>
              pLine_q10 k n m s stop car size y (decide (y84 < (8 : Int))) a1 a2 a3 a4
                (fun (k85 : Int) (n86 : Int) (m87 : Int) (s88 : ByteArray) (stop89 : Int) (car90 : Int) (place91 : ByteArray) (es92 : List (List PV)) (es93 : List (List PV)) (es94 : List (List PV)) (es95 : List (List PV)) =>
                  pLine_q13 k85 n86 m87 s88 stop89 car90 place91 es92 es93 es94 es95 k0)) (
              pLine_q10 k n m s stop car size y false a1 a2 a3 a4
                (fun (k97 : Int) (n98 : Int) (m99 : Int) (s100 : ByteArray) (stop101 : Int) (car102 : Int) (place103 : ByteArray) (es104 : List (List PV)) (es105 : List (List PV)) (es106 : List (List PV)) (es107 : List (List PV)) =>
                  pLine_q13 k97 n98 m99 s100 stop101 car102 place103 es104 es105 es106 es107 k0)))
    refine this.trans ?_
    rw [g.mate, Option.bind_some, decide_eq_false hm, cond_false]
    exact f2 R k0
theorem lineQ5 (k n m stop car : Int) (s : ByteArray) {i : Inst} {a1 a2 a3 a4 : List (List PV)} (g : Given i a1 a2 a3 a4) {routes : List (List Int)} (hr : routes.length ≤ big) (hr' : ∀ r ∈ routes, r.length ≤ big) (p6 p7 p8 p9 p10 : List (List PV)) (p11 : Int) (hst : inI stop = true) (hc : inI car = true) : ∃ t, beside s t ∧ ∀ (R : Type) (k0 : ByteArray → Option R), pLine_q5 k n m s stop car a1 a2 a3 a4 (trRow routes) p6 p7 p8 p9 p10 p11 k0 = k0 t := by
  unfold pLine_q5 pLine_q7
  rw [trRow_length]
  have zero := lineQ8 k n m stop car 0 s g (by omega) (by omega) hst hc
  by_cases h0 : car ≥ 0
  · by_cases h1 : car < (routes.length : Int)
    · have hj : car.toNat < routes.length := by omega
      have hidx : idx (trRow routes) car = some [.fs (iRow routes[car.toNat])] := by
        have e : idx (trRow routes) ((car.toNat : Nat) : Int) = some [.fs (iRow routes[car.toNat])] := by
          rw [idx_nat, trRow, List.getElem?_map, List.getElem?_eq_getElem hj]
          rfl
        rwa [show ((car.toNat : Nat) : Int) = car by omega] at e
      have hl := hr' _ (List.getElem_mem hj)
      unfold big at hl
      obtain ⟨t, f1, f2⟩ := lineQ8 k n m stop car (routes[car.toNat].length : Int) s g (by omega) (by omega) hst hc
      refine ⟨t, f1, fun R k0 => ?_⟩
      have e0 : ([PV.fs (iRow routes[car.toNat])] : List PV)[0]? = some (PV.fs (iRow routes[car.toNat])) := rfl
      rw [decide_eq_true h0, cond_true, decide_eq_true h1, cond_true, hidx]
      simp only [Option.bind_some, List.length_singleton, if_true, e0, asFs_fs, iRow_length]
      exact f2 R k0
    · obtain ⟨t, f1, f2⟩ := zero
      refine ⟨t, f1, fun R k0 => ?_⟩
      rw [decide_eq_true h0, cond_true, decide_eq_false h1, cond_false]
      exact f2 R k0
  · obtain ⟨t, f1, f2⟩ := zero
    refine ⟨t, f1, fun R k0 => ?_⟩
    rw [decide_eq_false h0, cond_false, cond_false]
    exact f2 R k0
theorem pLine_some (k n m : Int) (s : ByteArray) {i : Inst} {a1 a2 a3 a4 : List (List PV)} (g : Given i a1 a2 a3 a4) {routes : List (List Int)} (hr : routes.length ≤ big) (hr' : ∀ r ∈ routes, r.length ≤ big) (p6 p7 p8 p9 p10 : List (List PV)) (p11 : Int) (hcars : 1 ≤ i.cars.length) :
    ∃ t, sPLine a1 a2 a3 a4 (trRow routes) p6 p7 p8 p9 p10 p11 k n m s = some t ∧ beside s t := by
  refine pLine_got a1 a2 a3 a4 (trRow routes) p6 p7 p8 p9 p10 p11 k n m s ?_
  have hs := g.small
  simp only [smallI, Bool.and_eq_true, decide_eq_true_eq] at hs
  have hcs := hs.1
  have hss := hs.2.1
  unfold big at hcs hss
  have hrow1 : a1.length = i.cars.length := by rw [(unInst_inv g.un).1, carRow_length]
  have hrow2 : a2.length = i.stops.length := by rw [(unInst_inv g.un).2.1, stpRow_length]
  obtain ⟨w1, _, _⟩ := within_size n (size := (i.stops.length : Int)) (by omega) (by omega)
  have b8 := wn_bounds (IntKind.i64.wrap (Int.tdiv n 31)) (m := 8) (by omega)
  have h7 : IntKind.i64.wrap (Int.tdiv (wn (IntKind.i64.wrap (Int.tdiv n 31)) 8) 7) = Int.tdiv (wn (IntKind.i64.wrap (Int.tdiv n 31)) 8) 7 := wrapN (by rw [Int.tdiv_eq_ediv_of_nonneg (by omega)]; omega) (by rw [Int.tdiv_eq_ediv_of_nonneg (by omega)]; omega)
  have h7b : 0 ≤ Int.tdiv (wn (IntKind.i64.wrap (Int.tdiv n 31)) 8) 7 ∧ Int.tdiv (wn (IntKind.i64.wrap (Int.tdiv n 31)) 8) 7 ≤ 1 := by rw [Int.tdiv_eq_ediv_of_nonneg (by omega)]; omega
  generalize hq : Int.tdiv (wn (IntKind.i64.wrap (Int.tdiv n 31)) 8) 7 = q at h7 h7b
  have w4 : within_d m (IntKind.i64.wrap ((i.cars.length : Int) + q)) = some (m % ((i.cars.length : Int) + q)) := by
    rw [wrapN (by omega) (by omega)]
    exact within_val _ (by omega) (by omega)
  have c1 := Int.emod_nonneg m (b := (i.cars.length : Int) + q) (by omega)
  have c2 := Int.emod_lt_of_pos m (b := (i.cars.length : Int) + q) (by omega)
  obtain ⟨t, f1, f2⟩ := lineQ5 k n m (IntKind.i64.wrap (n % ((i.stops.length : Int) + 1) + IntKind.i64.wrap (Int.tdiv (wn (IntKind.i64.wrap (Int.tdiv n 50)) 20) 18))) (m % ((i.cars.length : Int) + q)) s g hr hr' p6 p7 p8 p9 p10 p11 (inI_wrapped _) (inI_of (by omega) (by omega))
  refine ⟨t, f1, fun R k0 => ?_⟩
  unfold pLine_b
  rw [hrow1, hrow2]
  simp only [w1, w_20, w_8, Option.bind_some, hq, h7, w4, meet_self]
  exact f2 R k0
end Go.Proofs.YtkeklbicmfhemaaDoorV
namespace Go.Proofs.YtkeklbicmfhemaaDoorV
open Go
set_option maxRecDepth 20000
set_option linter.unusedSimpArgs false
theorem unCar_row : ∀ {l : List Car}, (∀ c ∈ l, inI c.1 = true ∧ inI c.2.1 = true ∧ inI c.2.2 = true) → unCar (carRow l) = some l
  | [], _ => rfl
  | c :: l, h => by
    have ih := unCar_row (l := l) fun x hx => h x (by simp [hx])
    have hc := h c (by simp)
    have h1 : unCar1 [.int .i64 c.1, .int .i64 c.2.1, .int .i64 c.2.2] = some c := if_pos hc
    unfold carRow at ih ⊢
    simp only [List.map_cons, unCar, h1, ih, Option.bind_some]
theorem unStp_row : ∀ {l : List Stp}, (∀ c ∈ l, inI c.1 = true ∧ inI c.2.1 = true ∧ inI c.2.2.1 = true ∧ inI c.2.2.2 = true) → unStp (stpRow l) = some l
  | [], _ => rfl
  | c :: l, h => by
    have ih := unStp_row (l := l) fun x hx => h x (by simp [hx])
    have hc := h c (by simp)
    have h1 : unStp1 [.int .i64 c.1, .int .i64 c.2.1, .int .i64 c.2.2.1, .int .i64 c.2.2.2] = some c := if_pos hc
    unfold stpRow at ih ⊢
    simp only [List.map_cons, unStp, h1, ih, Option.bind_some]
theorem unPr_row : ∀ {l : List (Int × Int)}, (∀ c ∈ l, inI c.1 = true ∧ inI c.2 = true) → unPr (prRow l) = some l
  | [], _ => rfl
  | c :: l, h => by
    have ih := unPr_row (l := l) fun x hx => h x (by simp [hx])
    have hc := h c (by simp)
    have h1 : unPr1 [.int .i64 c.1, .int .i64 c.2] = some c := if_pos hc
    unfold prRow at ih ⊢
    simp only [List.map_cons, unPr, h1, ih, Option.bind_some]
theorem unTr_row : ∀ {l : List (List Int)}, (∀ r ∈ l, ∀ n ∈ r, -9223372036854775808 ≤ n ∧ n < 9223372036854775808) → unTr (trRow l) = some l
  | [], _ => rfl
  | r :: l, h => by
    have ih := unTr_row (l := l) fun x hx => h x (by simp [hx])
    have h1 : unTr1 [.fs (iRow r)] = some r := unI_row (h r (by simp))
    unfold trRow at ih ⊢
    simp only [List.map_cons, unTr, h1, ih, Option.bind_some]
theorem getD_in {l : List Int} (h : l.all (fun x => inI x) = true) (j : Nat) : inI (l.getD j 0) = true := by
  rw [List.getD_eq_getElem?_getD]
  cases hj : l[j]? with
  | none => decide
  | some x => exact List.all_eq_true.1 h x (List.mem_of_getElem? hj)
def okStp (c : Stp) : Prop := inI c.1 = true ∧ inI c.2.1 = true ∧ inI c.2.2.1 = true ∧ inI c.2.2.2 = true
theorem stopAt_in (l : List Int) (k : Nat) : okStp (stopAt l k) := by
  have b0 := wn_bounds (numV l (5 + k)) (m := 8) (by omega)
  have b1 := wn_bounds (w64 (Int.tdiv (numV l (5 + k)) 8)) (m := 30) (by omega)
  have b2 := wn_bounds (w64 (Int.tdiv (numV l (5 + k)) 240)) (m := 6) (by omega)
  have b4 := wn_bounds (w64 (Int.tdiv (numV l (5 + k)) 9)) (m := 4) (by omega)
  have hc := close_small (wn (w64 (Int.tdiv (numV l (5 + k)) 7)) 4)
  unfold okStp stopAt
  refine ⟨?_, inI_of (by simp only; omega) (by simp only; omega), ?_, inI_of (by simp only; omega) (by simp only; omega)⟩
  · simp only
    split
    · exact inI_of (by omega) (by omega)
    · exact inI_of (by omega) (by omega)
  · simp only
    split
    · decide
    · exact inI_of (by omega) (by omega)
theorem setDemand_in {s : List Stp} (h : ∀ c ∈ s, okStp c) (j : Nat) {d : Int} (hd : inI d = true) : ∀ c ∈ setDemand s j d, okStp c := by
  intro c hc
  unfold setDemand at hc
  rcases List.mem_or_eq_of_mem_set hc with h' | rfl
  · exact h c h'
  · have : okStp (s.getD j (0, 0, 0, 0)) := by
      rw [List.getD_eq_getElem?_getD]
      cases hj : s[j]? with
      | none => exact ⟨by decide, by decide, by decide, by decide⟩
      | some x => exact h x (List.mem_of_getElem? hj)
    exact ⟨hd, this.2⟩
theorem pairStep_in {s : List Stp} (h : ∀ c ∈ s, okStp c) (l : List Int) (k : Nat) : ∀ c ∈ pairStep l k s, okStp c := by
  have b := wn_bounds (numV l (16 + k)) (m := 9) (by omega)
  unfold pairStep
  exact setDemand_in (setDemand_in h _ (inI_of (by omega) (by omega))) _ (inI_of (by omega) (by omega))
theorem pairsFrom_in (l : List Int) (size : Nat) (hs : size ≤ 8) : ∀ (f k : Nat) (s : List Stp) (p : List (Int × Int)), (∀ c ∈ s, okStp c) → (∀ c ∈ p, 0 ≤ c.1 ∧ c.1 ≤ 8 ∧ 0 ≤ c.2 ∧ c.2 ≤ 8) →
    (∀ c ∈ (pairsFrom l size f k s p).1, okStp c) ∧ (∀ c ∈ (pairsFrom l size f k s p).2, 0 ≤ c.1 ∧ c.1 ≤ 8 ∧ 0 ≤ c.2 ∧ c.2 ≤ 8) ∧ (pairsFrom l size f k s p).1.length = s.length ∧ (pairsFrom l size f k s p).2.length ≤ p.length + f
  | 0, k, s, p, h1, h2 => ⟨h1, h2, rfl, by simp [pairsFrom]⟩
  | f + 1, k, s, p, h1, h2 => by
    unfold pairsFrom
    split
    · rename_i hk
      obtain ⟨i1, i2, i3, i4⟩ := pairsFrom_in l size hs f (k + 1) (pairStep l k s) (p ++ [(((pairOf l k).1 : Int), ((pairOf l k).2 : Int))]) (pairStep_in h1 l k) (fun c hc => by
        rcases List.mem_append.1 hc with hc | hc
        · exact h2 c hc
        · simp only [List.mem_singleton] at hc
          subst hc
          unfold pairOf
          split <;> simp only <;> omega)
      refine ⟨i1, i2, by rw [i3, pairStep_length], ?_⟩
      rw [List.length_append, List.length_singleton] at i4
      omega
    · exact ⟨h1, h2, rfl, Nat.le_add_right _ _⟩
theorem instOf_given (l : List Int) : Given (instOf l) (carRow (instOf l).cars) (stpRow (instOf l).stops) (prRow (instOf l).pairs) (trRow (instOf l).travel) ∧ 1 ≤ (instOf l).cars.length := by
  have hb := wn_bounds (numV l 4) (m := 7) (by omega)
  have hb0 := wn_bounds (numV l 0) (m := 3) (by omega)
  have hsz8 : sizeOf' l ≤ 8 := by unfold sizeOf'; omega
  obtain ⟨p1, p2, p3, p4⟩ := pairsFrom_in l (sizeOf' l) hsz8 4 0 (stopsOf l) [] (fun c hc => by
    unfold stopsOf at hc
    obtain ⟨k, _, rfl⟩ := List.mem_map.1 hc
    exact stopAt_in l k) (fun c hc => by cases hc)
  have hcl : (instOf l).cars.length = 1 + (wn (numV l 0) 3).toNat := by simp [instOf, carsOf]
  have hsl : (instOf l).stops.length = sizeOf' l := by
    show (pairsFrom l (sizeOf' l) 4 0 (stopsOf l) []).1.length = _
    rw [p3]
    simp [stopsOf]
  have hpl : (instOf l).pairs.length ≤ 4 := by
    have h := p4
    rw [List.length_nil, Nat.zero_add] at h
    exact h
  have htl : (instOf l).travel.length = sizeOf' l + 1 := by simp [instOf, travelOf]
  refine ⟨⟨?_, ?_⟩, by omega⟩
  · unfold unInst
    rw [unCar_row, unStp_row, unPr_row, unTr_row]
    · rfl
    · intro r hr n hn
      simp only [instOf, travelOf] at hr
      obtain ⟨a, _, rfl⟩ := List.mem_map.1 hr
      obtain ⟨b, _, rfl⟩ := List.mem_map.1 hn
      have hw := wn_bounds (numV l (20 + 3 * a + 5 * b)) (m := 14) (by omega)
      unfold tripAt
      split <;> omega
    · intro c hc
      have := p2 c hc
      exact ⟨inI_of (by omega) (by omega), inI_of (by omega) (by omega)⟩
    · exact p1
    · intro c hc
      simp only [instOf, carsOf] at hc
      obtain ⟨k, _, rfl⟩ := List.mem_map.1 hc
      have b2 := wn_bounds (w64 (Int.tdiv (numV l (1 + k)) 4)) (m := 9) (by omega)
      unfold carAt
      exact ⟨getD_in (by decide) _, inI_of (by simp only; omega) (by simp only; omega), getD_in (by decide) _⟩
  · simp only [smallI, Bool.and_eq_true, decide_eq_true_eq, List.all_eq_true]
    unfold big
    refine ⟨by omega, by omega, by omega, by omega, fun r hr => ?_⟩
    simp only [instOf, travelOf] at hr
    obtain ⟨a, _, rfl⟩ := List.mem_map.1 hr
    simp
    omega
theorem sPInst_of {l : List Int} (h1 : ∀ n ∈ l, -9223372036854775808 ≤ n ∧ n < 9223372036854775808) (h2 : l.length ≤ big) : sPInst (iRow l) = some (carRow (instOf l).cars, stpRow (instOf l).stops, prRow (instOf l).pairs, trRow (instOf l).travel) := by
  unfold sPInst
  rw [unI_row h1, Option.bind_some, if_pos h2]
theorem beside_nil (s : ByteArray) : beside s (text []) := ⟨by rw [text_size]; simp, by rw [text_data]; simp⟩
theorem beside_self (s : ByteArray) : beside s s := ⟨by omega, id⟩
theorem newPlan_routes (i : Inst) : (newPlan i).routes.length ≤ big ∧ ∀ r ∈ (newPlan i).routes, r.length ≤ big := by
  unfold newPlan
  split
  · rename_i h
    have := checkI_small h
    refine ⟨by simp only [List.length_replicate]; unfold big; omega, fun r hr => ?_⟩
    rw [List.eq_of_mem_replicate hr]
    simp
  · exact ⟨by simp, fun r hr => by cases hr⟩
theorem actQ9 {L : List Int} (hL : L.length ≤ big) {k : Nat} (hk : k + 2 < L.length) (s : ByteArray) {i : Inst} {a1 a2 a3 a4 : List (List PV)} (g : Given i a1 a2 a3 a4) (hcars : 1 ≤ i.cars.length) {routes : List (List Int)} (hr : routes.length ≤ big) (hr' : ∀ r ∈ routes, r.length ≤ big) (p6 p7 p8 p9 p10 : List (List PV)) (p11 : Int) (n : Nat) (acc : List Act) (hacc : acc.length ≤ 20) {c y : Int} (hc : 1 ≤ c ∧ c ≤ 6) (hy : 0 ≤ y ∧ y ≤ 3) :
    ∃ a, actP s a ∧ ∀ (R : Type) (k0 : List (List PV) → ByteArray → Int → List (List PV) → List (List PV) → List (List PV) → List (List PV) → List (List PV) → List (List PV) → List (List PV) → List (List PV) → List (List PV) → List (List PV) → Int → List (List PV) → Option R),
      acts24_q9 n (iRow L) s (k : Int) a1 a2 a3 a4 (trRow routes) p6 p7 p8 p9 p10 p11 (aRow acc) c y (text []) k0 = k0 (iRow L) s (k : Int) a1 a2 a3 a4 (trRow routes) p6 p7 p8 p9 p10 p11 (aRow (acc ++ [a])) := by
  have hroom : ∀ x y z : PV, ((aRow acc).length + ([[x, y, z]] : List (List PV)).length) * 32 ≤ maxBytes := by
    intro x y z
    rw [aRow_length]
    unfold maxBytes
    simp
    omega
  have hroom' : ((aRow acc).length + 1) * 32 ≤ maxBytes := hroom (.int .i64 0) (.int .i64 0) (.int .i64 0)
  have hpush : ∀ a : Act, aRow acc ++ [[.int .i64 a.1, .int .i64 a.2.1, .str a.2.2]] = aRow (acc ++ [a]) := fun a => by rw [aRow_append]; rfl
  unfold big at hL
  have k1 : IntKind.i64.wrap ((k : Int) + 1) = ((k + 1 : Nat) : Int) := (wrapN (by omega) (by omega)).trans (by omega)
  have k2 : IntKind.i64.wrap ((k : Int) + 2) = ((k + 2 : Nat) : Int) := (wrapN (by omega) (by omega)).trans (by omega)
  have g0 := idx_iAt (l := L) (j := k) (by omega)
  have g1 := idx_iAt (l := L) (j := k + 1) (by omega)
  have g2 := idx_iAt (l := L) (j := k + 2) (by omega)
  have e0 : ∀ n : Int, ([PV.int .i64 n] : List PV)[0]? = some (PV.int .i64 n) := fun _ => rfl
  unfold acts24_q9
  by_cases h3 : c = 3
  · subst h3
    obtain ⟨t, t1, t2⟩ := pLine_some (IntKind.i64.wrap (Int.tdiv (L.getD k 0) 11)) (IntKind.i64.wrap (Int.tdiv (L.getD (k + 1) 0) 4)) (L.getD (k + 2) 0) s g hr hr' p6 p7 p8 p9 p10 p11 hcars
    refine ⟨(3, y, t), ⟨(by decide : (1 : Int) ≤ 3), (by decide : (3 : Int) ≤ 6), hy.1, by simp only; omega, fun h => by simp [textK] at h, t2⟩, fun R k0 => ?_⟩
    rw [beq_self_eq_true, cond_true, k1, k2, g0, g1, g2]
    simp only [Option.bind_some, List.length_singleton, if_true, e0, asI_int, t1, hroom', meet_self]
    rw [← hpush (3, y, t)]
  by_cases h4 : c = 4
  · subst h4
    refine ⟨(4, y, s), ⟨(by decide : (1 : Int) ≤ 4), (by decide : (4 : Int) ≤ 6), hy.1, by simp only; omega, fun h => by simp [textK] at h, beside_self s⟩, fun R k0 => ?_⟩
    rw [show ((4 : Int) == 3) = false from rfl, cond_false, beq_self_eq_true, cond_true, if_pos (hroom _ _ _), ← hpush (4, y, s)]
  have e3 : (c == 3) = false := by simpa using h3
  have e4 : (c == 4) = false := by simpa using h4
  by_cases h6 : c = 6
  · subst h6
    have hb := wn_bounds (L.getD (k + 2) 0) (m := 40) (by omega)
    refine ⟨(6, wn (L.getD (k + 2) 0) 40, text []), ⟨(by decide : (1 : Int) ≤ 6), (by decide : (6 : Int) ≤ 6), hb.1, by simp only; omega, fun _ => rfl, beside_nil s⟩, fun R k0 => ?_⟩
    rw [e3, cond_false, e4, cond_false, beq_self_eq_true, cond_true, k2, g2]
    simp only [Option.bind_some, List.length_singleton, if_true, e0, asI_int, w_40, hroom']
    rw [← hpush (6, wn (L.getD (k + 2) 0) 40, text [])]
  · have e6 : (c == 6) = false := by simpa using h6
    refine ⟨(c, y, text []), ⟨hc.1, hc.2, hy.1, by simp only; omega, fun _ => rfl, beside_nil s⟩, fun R k0 => ?_⟩
    rw [e3, cond_false, e4, cond_false, e6, cond_false, if_pos (hroom _ _ _), ← hpush (c, y, text [])]
def kindTab : List Int := [1, 3, 3, 3, 3, 5, 5, 5, 4, 2, 6]
theorem tab_kind : ∀ y : Int, 0 ≤ y → y < 11 → (([[(PV.int .i64 1)], [(PV.int .i64 3)], [(PV.int .i64 3)], [(PV.int .i64 3)], [(PV.int .i64 3)], [(PV.int .i64 5)], [(PV.int .i64 5)], [(PV.int .i64 5)], [(PV.int .i64 4)], [(PV.int .i64 2)], [(PV.int .i64 6)]] : List (List PV))[Int.toNat y]?) = some [PV.int .i64 (kindTab.getD y.toNat 0)] ∧ 1 ≤ kindTab.getD y.toNat 0 ∧ kindTab.getD y.toNat 0 ≤ 6 := by
  intro y h0 h4
  have : y = 0 ∨ y = 1 ∨ y = 2 ∨ y = 3 ∨ y = 4 ∨ y = 5 ∨ y = 6 ∨ y = 7 ∨ y = 8 ∨ y = 9 ∨ y = 10 := by omega
  rcases this with rfl | rfl | rfl | rfl | rfl | rfl | rfl | rfl | rfl | rfl | rfl <;> exact ⟨rfl, by decide, by decide⟩
theorem acts_rounds {L : List Int} (hL : L.length ≤ big) (s : ByteArray) {i : Inst} {a1 a2 a3 a4 : List (List PV)} (g : Given i a1 a2 a3 a4) (hcars : 1 ≤ i.cars.length) {routes : List (List Int)} (hr : routes.length ≤ big) (hr' : ∀ r ∈ routes, r.length ≤ big) (p6 p7 p8 p9 p10 : List (List PV)) (p11 : Int) : ∀ (f n : Nat) (acc : List Act), acc.length + f = 20 → f < n → (∀ a ∈ acc, actP s a) →
    ∃ l : List Act, l.length ≤ 20 ∧ (∀ a ∈ l, actP s a) ∧ ∀ (R : Type) (k0 : List (List PV) → Option R), acts24_l5 n (iRow L) s ((3 * acc.length : Nat) : Int) a1 a2 a3 a4 (trRow routes) p6 p7 p8 p9 p10 p11 (aRow acc) k0 = k0 (aRow l)
  | f, n, acc, hf, hn, hacc => by
    obtain ⟨m, rfl⟩ : ∃ m, n = m + 1 := ⟨n - 1, by omega⟩
    have hbig := hL
    unfold big at hbig
    have k2 : IntKind.i64.wrap (((3 * acc.length : Nat) : Int) + 2) = ((3 * acc.length + 2 : Nat) : Int) := (wrapN (by omega) (by omega)).trans (by omega)
    by_cases h1 : 3 * acc.length + 2 < L.length
    · cases f with
      | zero =>
        refine ⟨acc, by omega, hacc, fun R k0 => ?_⟩
        unfold acts24_l5
        rw [k2, iRow_length, decide_eq_true (by omega), cond_true, decide_eq_false (by omega), cond_false]
      | succ f =>
        have k1 : IntKind.i64.wrap (((3 * acc.length : Nat) : Int) + 1) = ((3 * acc.length + 1 : Nat) : Int) := (wrapN (by omega) (by omega)).trans (by omega)
        have g0 := idx_iAt (l := L) (j := 3 * acc.length) (by omega)
        have g1 := idx_iAt (l := L) (j := 3 * acc.length + 1) (by omega)
        have b0 := wn_bounds (L.getD (3 * acc.length) 0) (m := 11) (by omega)
        have b1 := wn_bounds (L.getD (3 * acc.length + 1) 0) (m := 4) (by omega)
        obtain ⟨t1, t2, t3⟩ := tab_kind (wn (L.getD (3 * acc.length) 0) 11) b0.1 b0.2
        obtain ⟨a, q1, q2⟩ := actQ9 hL h1 s g hcars hr hr' p6 p7 p8 p9 p10 p11 m acc (by omega) (c := kindTab.getD (wn (L.getD (3 * acc.length) 0) 11).toNat 0) (y := wn (L.getD (3 * acc.length + 1) 0) 4) ⟨t2, t3⟩ ⟨b1.1, by omega⟩
        obtain ⟨l, l1, l2, l3⟩ := acts_rounds hL s g hcars hr hr' p6 p7 p8 p9 p10 p11 f m (acc ++ [a]) (by simp; omega) (by omega) (fun x hx => by
          rcases List.mem_append.1 hx with hx | hx
          · exact hacc x hx
          · simp only [List.mem_singleton] at hx; subst hx; exact q1)
        refine ⟨l, l1, l2, fun R k0 => ?_⟩
        have e0 : ∀ n : Int, ([PV.int .i64 n] : List PV)[0]? = some (PV.int .i64 n) := fun _ => rfl
        have c11 : 0 ≤ wn (L.getD (3 * acc.length) 0) 11 ∧ wn (L.getD (3 * acc.length) 0) 11 < (11 : Int) := b0
        have k3 : IntKind.i64.wrap (((3 * acc.length : Nat) : Int) + 3) = ((3 * (acc ++ [a]).length : Nat) : Int) := (wrapN (by omega) (by omega)).trans (by simp; omega)
        unfold acts24_l5
        rw [k2, k1, iRow_length, decide_eq_true (by omega), cond_true, decide_eq_true (by omega), cond_true, g0, g1]
        rw [mk_nil]
        simp only [Option.bind_some, List.length_singleton, if_true, e0, asI_int, w_11, w_4, if_pos c11, t1, q2, k3, l3, meet_self]
    · refine ⟨acc, by omega, hacc, fun R k0 => ?_⟩
      unfold acts24_l5
      rw [k2, iRow_length, decide_eq_false (by omega), cond_false]
theorem acts_some {L : List Int} (hL : L.length ≤ big) (s : ByteArray) {i : Inst} {a1 a2 a3 a4 : List (List PV)} (g : Given i a1 a2 a3 a4) (hcars : 1 ≤ i.cars.length) : ∃ l : List Act, sActs24 a1 a2 a3 a4 (iRow L) s = some (aRow l) ∧ l.length ≤ 20 ∧ ∀ a ∈ l, actP s a := by
  have hp : sNewPlan a1 a2 a3 a4 = some (trRow (newPlan i).routes, iRow (newPlan i).lock, iRow (newPlan i).ice, iRow (newPlan i).rv, iRow (newPlan i).sv, iRow (newPlan i).iv, (newPlan i).pv) := by
    unfold sNewPlan
    rw [g.un, Option.bind_some, if_pos g.small]
  obtain ⟨r1, r2⟩ := newPlan_routes i
  obtain ⟨l, l1, l2, l3⟩ := acts_rounds hL s g hcars r1 r2 (iRow (newPlan i).lock) (iRow (newPlan i).ice) (iRow (newPlan i).rv) (iRow (newPlan i).sv) (iRow (newPlan i).iv) (newPlan i).pv 20 25 [] rfl (by omega) (fun a ha => by cases ha)
  obtain ⟨y, y1, y2⟩ := acts24_got a1 a2 a3 a4 (iRow L) s ⟨aRow l, ⟨l, rfl, l1, l2⟩, 25, fun R k => by
    unfold acts24_b
    rw [hp, Option.bind_some]
    exact l3 R k⟩
  obtain ⟨l', rfl, h1, h2⟩ := y2
  exact ⟨l', y1, h1, h2⟩
end Go.Proofs.YtkeklbicmfhemaaDoorV
namespace Go.Proofs.YtkeklbicmfhemaaDoorV
open Go
set_option maxRecDepth 20000
set_option linter.unusedSimpArgs false
theorem cutAt_hit {c : UInt8} : ∀ {w : List UInt8} (r : List UInt8), c ∉ w → cutAt c (w ++ c :: r) = (w, r, true)
  | [], r, _ => by simp [cutAt]
  | x :: w, r, h => by
    have hx : ¬ x = c := fun e => h (by simp [e])
    have ih := cutAt_hit (w := w) r (fun e => h (List.mem_cons_of_mem _ e))
    rw [List.cons_append, cutAt, if_neg hx, ih]
theorem cutAt_miss {c : UInt8} : ∀ {w : List UInt8}, c ∉ w → cutAt c w = (w, [], false)
  | [], _ => rfl
  | x :: w, h => by
    have hx : ¬ x = c := fun e => h (by simp [e])
    have ih := cutAt_miss (w := w) (fun e => h (List.mem_cons_of_mem _ e))
    rw [cutAt, if_neg hx, ih]
theorem kind_facts : ∀ k : Fin 6, (kindWords.getD k.val []).contains 32 = false ∧ (kindWords.getD k.val []).contains 10 = false ∧ kindFrom 0 kindWords (kindWords.getD k.val []) = some k.val := by decide
theorem dig_no {n : Int} (h : inI n = true) {c : UInt8} (hc : isDig c = false) (hc' : c ≠ 45) : c ∉ dig n := fun e => by
  rcases dig_chars h c e with h' | h'
  · rw [hc] at h'; cases h'
  · exact hc' h'
theorem line_back {s : ByteArray} {a : Act} (h : actP s a) : actV (lineV a) = (a, true) ∧ ((lineV a).contains 10 = true → 10 ∈ a.2.2.data.toList) := by
  obtain ⟨a1, a2, a3⟩ := a
  obtain ⟨h1, h2, h3, h4, h5, h6⟩ := h
  simp only at h1 h2 h3 h4 h5 h6
  have hi : inI a2 = true := inI_of (by omega) (by omega)
  have hs : small18 a2 = true := by simp only [small18, decide_eq_true_eq]; omega
  obtain ⟨f1, f2, f3⟩ := kind_facts ⟨(a1 - 1).toNat, by omega⟩
  simp only at f1 f2 f3
  rw [lineV_in ⟨h1, h2⟩]
  generalize kindWords.getD (a1 - 1).toNat [] = w at f1 f2 f3
  have g32 : (32 : UInt8) ∉ w := fun e => by rw [List.contains_iff_mem.2 e] at f1; cases f1
  have g10 : (10 : UInt8) ∉ w := fun e => by rw [List.contains_iff_mem.2 e] at f2; cases f2
  have d32 : (32 : UInt8) ∉ dig a2 := dig_no hi (by decide) (by decide)
  have d10 : (10 : UInt8) ∉ dig a2 := dig_no hi (by decide) (by decide)
  have hk : ((a1 - 1).toNat : Int) + 1 = a1 := by omega
  have hv : intV (dig a2) = (a2, true) := by rw [intV_dig hi, if_pos hs]
  constructor
  · unfold actV
    rw [List.append_assoc, List.cons_append, cutAt_hit _ g32]
    simp only [if_true, f3]
    unfold actOf
    rw [hk]
    cases ht : textK a1 with
    | true =>
      rw [if_pos rfl, cutAt_hit _ d32]
      simp only [hv, text_of, ht]
      simp [h3, h4]
    | false =>
      rw [if_neg (by simp), List.append_nil, cutAt_miss d32]
      simp only [hv, ht, h5 ht]
      simp [h3, h4]
  · intro hc
    have hm := List.contains_iff_mem.1 hc
    rw [List.append_assoc, List.cons_append, List.mem_append, List.mem_cons, List.mem_append] at hm
    rcases hm with hm | hm | hm | hm
    · exact absurd hm g10
    · exact absurd hm (by decide)
    · exact absurd hm d10
    · split at hm
      · rcases List.mem_cons.1 hm with hm | hm
        · exact absurd hm (by decide)
        · exact hm
      · cases hm
def lines (l : List Act) : List UInt8 := (l.map fun a => lineV a ++ [10]).flatten
theorem lines_cons (a : Act) (l : List Act) : lines (a :: l) = lineV a ++ 10 :: lines l := by simp [lines]
theorem printF_lines : ∀ (l : List Act) (out : List UInt8), printF l out = if l.all goodA = true then some (out ++ lines l) else none
  | [], out => by simp [printF, lines]
  | a :: l, out => by
    rw [printF]
    cases hg : goodA a with
    | false => rw [if_neg (by simp), if_neg (by simp [hg])]
    | true =>
      rw [if_pos rfl, printF_lines l]
      simp only [List.all_cons, hg, Bool.true_and, lines_cons, List.append_assoc, List.singleton_append]
theorem goodA_inv {a : Act} (h : goodA a = true) : actV (lineV a) = (a, true) ∧ (10 : UInt8) ∉ lineV a := by
  simp only [goodA, Bool.and_eq_true, decide_eq_true_eq, Bool.not_eq_true'] at h
  refine ⟨Prod.ext h.2.1 h.1, fun e => ?_⟩
  rw [List.contains_iff_mem.2 e] at h
  cases h.2.2
theorem lines_small : ∀ {l : List Act}, l.all okA = true → (lines l).length ≤ l.length * (2 * mega + 41)
  | [], _ => by simp [lines]
  | a :: l, h => by
    simp only [List.all_cons, Bool.and_eq_true] at h
    have h1 := lineV_length h.1
    have h2 := lines_small h.2
    rw [lines_cons, List.length_append, List.length_cons, List.length_cons, Nat.add_mul]
    omega
theorem actP_ok {s : ByteArray} (hs : s.size ≤ mega) {a : Act} (h : actP s a) : okA a = true := by
  obtain ⟨h1, h2, h3, h4, h5, h6⟩ := h
  have hm := h6.1
  unfold mega at hs
  simp only [okA, Bool.and_eq_true, decide_eq_true_eq]
  unfold mega
  exact ⟨inI_of (by omega) (by omega), inI_of (by omega) (by omega), by omega⟩
theorem acts24_no : ∀ (i1 i2 i3 i4 l5 : List (List PV)) (s6 : ByteArray) (y : List (List PV)), sActs24 i1 i2 i3 i4 l5 s6 = some y → (noMem (acts24_E y).1 && noMemL (acts24_E y).2) = true := by
  intro i1 i2 i3 i4 l5 s6 y h
  obtain ⟨⟨l, rfl, _, _⟩, _⟩ := acts24_pick i1 i2 i3 i4 l5 s6 y h
  simp [acts24_E, noMem, noMemL, noMem_aRow]
end Go.Proofs.YtkeklbicmfhemaaDoorV
namespace Go.Proofs.YtkeklbicmfhemaaDoorV
open Go
set_option maxRecDepth 100000
theorem pNum_all : Holds Tryd.prog G0 43 pNum_C := pNum_holds trivial
theorem pInst_all : Holds Tryd.prog G0 22 pInst_C := pInst_holds (by simp only [pInst_Γ, HoldsAll, CalOk]; exact ⟨pNum_all, within_all, trivial⟩) pInst_ok
theorem rWithin_all : Holds Tryd.prog G0 85 rWithin_C := rWithin_holds trivial
theorem rCheckInst_all : Holds Tryd.prog G0 67 rCheckInst_C := rCheckInst_holds (by simp only [rCheckInst_Γ, HoldsAll, CalOk]; exact ⟨rWithin_all, trivial⟩) rCheckInst_ok
theorem rFilled_all : Holds Tryd.prog G0 68 rFilled_C := rFilled_holds trivial rFilled_ok rFilled_no
theorem rNewPlan_all : Holds Tryd.prog G0 44 rNewPlan_C := rNewPlan_holds (by simp only [rNewPlan_Γ, HoldsAll, CalOk]; exact ⟨rCheckInst_all, rFilled_all, trivial⟩) rNewPlan_ok
theorem rMate_all : Holds Tryd.prog G0 69 rMate_C := rMate_holds trivial rMate_ok
theorem rFirst_all : Holds Tryd.prog G0 70 rFirst_C := rFirst_holds trivial rFirst_ok
theorem pLine_all : Holds Tryd.prog G0 45 pLine_C := pLine_holds (by simp only [pLine_Γ, HoldsAll, CalOk]; exact ⟨within_all, rDigits_all, rMate_all, rFirst_all, trivial⟩) pLine_ok
theorem acts24_all : Holds Tryd.prog G0 23 acts24_C := acts24_holds (by simp only [acts24_Γ, HoldsAll, CalOk]; exact ⟨rNewPlan_all, within_all, pLine_all, trivial⟩) acts24_ok acts24_no
end Go.Proofs.YtkeklbicmfhemaaDoorV
