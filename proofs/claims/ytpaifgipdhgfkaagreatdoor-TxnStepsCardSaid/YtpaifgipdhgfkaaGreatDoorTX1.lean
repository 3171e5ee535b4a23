/- What the functions of the program come to, as the reading machine has it: printed by auto.py. -/
import Derived.Test.YtpaifgipdhgfkaaGreatDoorVTab
import Derived.Test.YtpaifgipdhgfkaaGreatDoorAS
import Derived.Test.YtpaifgipdhgfkaaGreatDoorDL
import Derived.Test.YtpaifgipdhgfkaaGreatDoorTX0
namespace Go.Proofs.YtpaifgipdhgfkaaGreatDoorV
open Go
set_option maxRecDepth 100000
set_option linter.unusedVariables false
set_option linter.unusedSimpArgs false
noncomputable section
/-! ## drayman/draymanref01.CheckInst -/
def aRCheckInst_l36 {R : Type} : Nat → Cs → Int → Rs → Int → Int → Rs → Int → Int → (Bool → Option R) → (Cs → Rs → Int → Int → Option R) → Option R
  | 0, _, _, _, _, _, _, _, _, _, _ => none
  | n + 1, i113, a114, es115, i116, i117, es118, i119, i120, k0, k1 =>
    cond (decide (i120 < i119)) (
      Option.bind (idx es118 i120) fun e121 =>
      if e121.length = 1 then
        Option.bind (e121[0]?) fun c122 =>
        Option.bind (PV.asI .i64 c122) fun n123 =>
        Option.bind (aRWithin_d n123 0 1000) fun y124 =>
        cond (!y124) (
          k0 false) (
          cond (a114 == i120) (
            cond (n123 != (0 : Int)) (
              k0 false) (
              aRCheckInst_l36 n i113 a114 es115 i116 i117 es118 i119 (IntKind.i64.wrap (i120 + (1 : Int))) k0 k1)) (
            aRCheckInst_l36 n i113 a114 es115 i116 i117 es118 i119 (IntKind.i64.wrap (i120 + (1 : Int))) k0 k1))
      else none) (
      k1 i113 es115 i116 i117)
def aRCheckInst_l20 {R : Type} : Nat → Cs → Rs → Int → Int → PV → Int → Kv → PV → (Bool → Option R) → (Cs → Rs → Int → Int → Kv → PV → Option R) → Option R
  | 0, _, _, _, _, _, _, _, _, _, _ => none
  | n + 1, i82, es83, i84, i85, p86, i87, kv88, p89, k0, k1 =>
    cond (decide (i87 < (2 : Int))) (
      Option.bind (PV.asAgg p86) fun cs90 =>
      if 0 ≤ i87 ∧ i87 < 2 then
        Option.bind (cs90[(Int.toNat i87)]?) fun c91 =>
        Option.bind (PV.asI .i64 c91) fun n92 =>
        Option.bind (i82[1]?) fun c93 =>
        Option.bind (PV.asFs c93) fun es94 =>
        Option.bind (aRWithin_d n92 1 (es94.length : Int)) fun y95 =>
        cond (!y95) (
          k0 false) (
          Option.bind (mget T 3 (PV.int .i64 n92) kv88) fun r96 =>
          Option.bind (PV.asB (Option.getD r96 (PV.bool false))) fun b97 =>
          cond b97 (
            k0 false) (
            Option.bind (mset T 3 (PV.int .i64 n92) (PV.bool true) kv88) fun r98 =>
            aRCheckInst_l20 n i82 es83 i84 i85 p86 (IntKind.i64.wrap (i87 + (1 : Int))) r98 p89 k0 k1))
      else none) (
      k1 i82 es83 i84 i85 kv88 p89)
def aRCheckInst_l31 {R : Type} : Nat → Cs → Rs → Int → Int → (Bool → Option R) → (Unit → Option R) → Option R
  | 0, _, _, _, _, _, _ => none
  | n + 1, i99, es100, i101, i102, k0, k1 =>
    cond (decide (i102 < i101)) (
      Option.bind (idx es100 i102) fun e103 =>
      if e103.length = 1 then
        Option.bind (e103[0]?) fun c104 =>
        Option.bind (PV.asFs c104) fun es105 =>
        Option.bind (i99[3]?) fun c106 =>
        Option.bind (PV.asFs c106) fun es107 =>
        cond ((es105.length : Int) != (es107.length : Int)) (
          k0 false) (
          aRCheckInst_l36 n i99 i102 es100 i101 i102 es105 (es105.length : Int) 0 k0
            (fun (i109 : Cs) (es110 : Rs) (i111 : Int) (i112 : Int) =>
              aRCheckInst_l31 n i109 es110 i111 (IntKind.i64.wrap (i112 + (1 : Int))) k0 k1))
      else none) (
      k1 ())
def aRCheckInst_l17 {R : Type} : Nat → Cs → Rs → Int → Int → Kv → (Cs → Option R) → (Bool → Option R) → Option R
  | 0, _, _, _, _, _, _, _ => none
  | n + 1, i54, es55, i56, i57, kv58, k0, k1 =>
    cond (decide (i57 < i56)) (
      Option.bind (idx es55 i57) fun e59 =>
      if e59.length = 2 then
        Option.bind (subAgg e59 0 2) fun p60 =>
        if (PV.isAgg p60 2) = true then
          aRCheckInst_l20 n i54 es55 i56 i57 p60 0 kv58 p60 k1
            (fun (i62 : Cs) (es63 : Rs) (i64 : Int) (i65 : Int) (kv66 : Kv) (p67 : PV) =>
              Option.bind (i62[1]?) fun c68 =>
              Option.bind (PV.asFs c68) fun es69 =>
              Option.bind ((PV.cells p67)[0]?) fun c70 =>
              Option.bind (PV.asI .i64 c70) fun n71 =>
              Option.bind (idx es69 (IntKind.i64.wrap (n71 - (1 : Int)))) fun e72 =>
              if e72.length = 4 then
                Option.bind (e72[0]?) fun c73 =>
                Option.bind (PV.asI .i64 c73) fun n74 =>
                cond (decide (n74 < (0 : Int))) (
                  k1 false) (
                  Option.bind (i62[1]?) fun c75 =>
                  Option.bind (PV.asFs c75) fun es76 =>
                  Option.bind ((PV.cells p67)[1]?) fun c77 =>
                  Option.bind (PV.asI .i64 c77) fun n78 =>
                  Option.bind (idx es76 (IntKind.i64.wrap (n78 - (1 : Int)))) fun e79 =>
                  if e79.length = 4 then
                    Option.bind (e79[0]?) fun c80 =>
                    Option.bind (PV.asI .i64 c80) fun n81 =>
                    cond (n81 != (IntKind.i64.wrap (0 - n74))) (
                      k1 false) (
                      aRCheckInst_l17 n i62 es63 i64 (IntKind.i64.wrap (i65 + (1 : Int))) kv66 k0 k1)
                  else none)
              else none)
        else none
      else none) (
      k0 i54)
def aRCheckInst_l10 {R : Type} : Nat → Cs → Rs → Int → Int → (Bool → Option R) → (Cs → Option R) → Option R
  | 0, _, _, _, _, _, _ => none
  | n + 1, i35, es36, i37, i38, k0, k1 =>
    cond (decide (i38 < i37)) (
      Option.bind (idx es36 i38) fun e39 =>
      if e39.length = 4 then
        Option.bind (subAgg e39 0 4) fun p40 =>
        if (PV.isAgg p40 4) = true then
          Option.bind ((PV.cells p40)[0]?) fun c41 =>
          Option.bind (PV.asI .i64 c41) fun n42 =>
          Option.bind (aRWithin_d n42 (-20) 20) fun y43 =>
          cond (!y43) (
            k0 false) (
            Option.bind ((PV.cells p40)[1]?) fun c44 =>
            Option.bind (PV.asI .i64 c44) fun n45 =>
            Option.bind ((PV.cells p40)[2]?) fun c46 =>
            Option.bind (PV.asI .i64 c46) fun n47 =>
            Option.bind (aRWithin_d n45 0 n47) fun y48 =>
            cond (!y48) (
              k0 false) (
              Option.bind ((PV.cells p40)[2]?) fun c49 =>
              Option.bind (PV.asI .i64 c49) fun n50 =>
              cond (decide (n50 > (1000 : Int))) (
                k0 false) (
                Option.bind ((PV.cells p40)[3]?) fun c51 =>
                Option.bind (PV.asI .i64 c51) fun n52 =>
                Option.bind (aRWithin_d n52 0 1000) fun y53 =>
                cond (!y53) (
                  k0 false) (
                  aRCheckInst_l10 n i35 es36 i37 (IntKind.i64.wrap (i38 + (1 : Int))) k0 k1))))
        else none
      else none) (
      k1 i35)
def aRCheckInst_l4 {R : Type} : Nat → Cs → Rs → Int → Int → (Bool → Option R) → (Cs → Option R) → Option R
  | 0, _, _, _, _, _, _ => none
  | n + 1, i19, es20, i21, i22, k0, k1 =>
    cond (decide (i22 < i21)) (
      Option.bind (idx es20 i22) fun e23 =>
      if e23.length = 3 then
        Option.bind (subAgg e23 0 3) fun p24 =>
        if (PV.isAgg p24 3) = true then
          Option.bind ((PV.cells p24)[0]?) fun c25 =>
          Option.bind (PV.asI .i64 c25) fun n26 =>
          Option.bind (aRWithin_d n26 0 60) fun y27 =>
          cond (!y27) (
            k0 false) (
            Option.bind ((PV.cells p24)[1]?) fun c28 =>
            Option.bind (PV.asI .i64 c28) fun n29 =>
            Option.bind ((PV.cells p24)[2]?) fun c30 =>
            Option.bind (PV.asI .i64 c30) fun n31 =>
            Option.bind (aRWithin_d n29 0 n31) fun y32 =>
            cond (!y32) (
              k0 false) (
              Option.bind ((PV.cells p24)[2]?) fun c33 =>
              Option.bind (PV.asI .i64 c33) fun n34 =>
              cond (decide (n34 > (1000 : Int))) (
                k0 false) (
                aRCheckInst_l4 n i19 es20 i21 (IntKind.i64.wrap (i22 + (1 : Int))) k0 k1)))
        else none
      else none) (
      k1 i19)
def aRCheckInst_b {R : Type} (n : Nat) (i1 : Rs) (i2 : Rs) (i3 : Rs) (i4 : Rs) (k : Bool → Option R) : Option R :=
  Option.bind (aRWithin_d (i1.length : Int) 1 3) fun y5 =>
  cond (!y5) (
    k false) (
    cond (decide ((i2.length : Int) > (10 : Int))) (
      k false) (
      cond ((i4.length : Int) != (IntKind.i64.wrap ((i2.length : Int) + (1 : Int)))) (
        k false) (
        aRCheckInst_l4 n [(PV.fs i1), (PV.fs i2), (PV.fs i3), (PV.fs i4)] i1 (i1.length : Int) 0 k
          (fun (i7 : Cs) =>
            Option.bind (i7[1]?) fun c8 =>
            Option.bind (PV.asFs c8) fun es9 =>
            aRCheckInst_l10 n i7 es9 (es9.length : Int) 0 k
              (fun (i11 : Cs) =>
                Option.bind (i11[2]?) fun c12 =>
                Option.bind (PV.asFs c12) fun es13 =>
                aRCheckInst_l17 n i11 es13 (es13.length : Int) 0 ([] : Kv)
                  (fun (i14 : Cs) =>
                    Option.bind (i14[3]?) fun c15 =>
                    Option.bind (PV.asFs c15) fun es16 =>
                    aRCheckInst_l31 n i14 es16 (es16.length : Int) 0 k
                      (fun (_ : Unit) =>
                        k true)) k)))))
def aRCheckInst_E (y : Bool) : PV × Cs := ((PV.bool y), [])
def aRCheckInst_tl36 : Nat → Cs → Int → Rs → Int → Int → Rs → Int → Int → Option ((Bool) ⊕ ((Cs) × Rs × Int × Int))
  | 0, _, _, _, _, _, _, _, _ => none
  | n + 1, i113, a114, es115, i116, i117, es118, i119, i120 =>
    cond (decide (i120 < i119)) (
      Option.bind (idx es118 i120) fun e121 =>
      if e121.length = 1 then
        Option.bind (e121[0]?) fun c122 =>
        Option.bind (PV.asI .i64 c122) fun n123 =>
        Option.bind (aRWithin_d n123 0 1000) fun y124 =>
        cond (!y124) (
          some (Sum.inl false)) (
          cond (a114 == i120) (
            cond (n123 != (0 : Int)) (
              some (Sum.inl false)) (
              aRCheckInst_tl36 n i113 a114 es115 i116 i117 es118 i119 (IntKind.i64.wrap (i120 + (1 : Int))))) (
            aRCheckInst_tl36 n i113 a114 es115 i116 i117 es118 i119 (IntKind.i64.wrap (i120 + (1 : Int)))))
      else none) (
      some (Sum.inr (i113, es115, i116, i117)))
theorem aRCheckInst_twl36 {R : Type} (n : Nat) (i113 : Cs) (a114 : Int) (es115 : Rs) (i116 : Int) (i117 : Int) (es118 : Rs) (i119 : Int) (i120 : Int) (k0 : Bool → Option R) (k1 : Cs → Rs → Int → Int → Option R) : Tw (aRCheckInst_tl36 n i113 a114 es115 i116 i117 es118 i119 i120) (aRCheckInst_l36 n i113 a114 es115 i116 i117 es118 i119 i120 k0 k1) (fun s => match s with | (Sum.inl a0) => k0 a0 | (Sum.inr (a0, a1, a2, a3)) => k1 a0 a1 a2 a3) := by
  induction n generalizing i113 a114 es115 i116 i117 es118 i119 i120 with
  | zero => exact tw_none
  | succ n ih =>
    unfold aRCheckInst_tl36 aRCheckInst_l36
    refine tw_cond (fun _ => ?_) (fun _ => ?_)
    · refine tw_bind fun e121 _ => ?_
      refine tw_ite fun _ => ?_
      refine tw_bind fun c122 _ => ?_
      refine tw_bind fun n123 _ => ?_
      refine tw_bind fun y124 _ => ?_
      refine tw_cond (fun _ => ?_) (fun _ => ?_)
      · exact tw_some rfl
      · refine tw_cond (fun _ => ?_) (fun _ => ?_)
        · refine tw_cond (fun _ => ?_) (fun _ => ?_)
          · exact tw_some rfl
          · exact ih _ _ _ _ _ _ _ _
        · exact ih _ _ _ _ _ _ _ _
    · exact tw_some rfl
def aRCheckInst_tl20 : Nat → Cs → Rs → Int → Int → PV → Int → Kv → PV → Option ((Bool) ⊕ ((Cs) × Rs × Int × Int × (Kv) × PV))
  | 0, _, _, _, _, _, _, _, _ => none
  | n + 1, i82, es83, i84, i85, p86, i87, kv88, p89 =>
    cond (decide (i87 < (2 : Int))) (
      Option.bind (PV.asAgg p86) fun cs90 =>
      if 0 ≤ i87 ∧ i87 < 2 then
        Option.bind (cs90[(Int.toNat i87)]?) fun c91 =>
        Option.bind (PV.asI .i64 c91) fun n92 =>
        Option.bind (i82[1]?) fun c93 =>
        Option.bind (PV.asFs c93) fun es94 =>
        Option.bind (aRWithin_d n92 1 (es94.length : Int)) fun y95 =>
        cond (!y95) (
          some (Sum.inl false)) (
          Option.bind (mget T 3 (PV.int .i64 n92) kv88) fun r96 =>
          Option.bind (PV.asB (Option.getD r96 (PV.bool false))) fun b97 =>
          cond b97 (
            some (Sum.inl false)) (
            Option.bind (mset T 3 (PV.int .i64 n92) (PV.bool true) kv88) fun r98 =>
            aRCheckInst_tl20 n i82 es83 i84 i85 p86 (IntKind.i64.wrap (i87 + (1 : Int))) r98 p89))
      else none) (
      some (Sum.inr (i82, es83, i84, i85, kv88, p89)))
theorem aRCheckInst_twl20 {R : Type} (n : Nat) (i82 : Cs) (es83 : Rs) (i84 : Int) (i85 : Int) (p86 : PV) (i87 : Int) (kv88 : Kv) (p89 : PV) (k0 : Bool → Option R) (k1 : Cs → Rs → Int → Int → Kv → PV → Option R) : Tw (aRCheckInst_tl20 n i82 es83 i84 i85 p86 i87 kv88 p89) (aRCheckInst_l20 n i82 es83 i84 i85 p86 i87 kv88 p89 k0 k1) (fun s => match s with | (Sum.inl a0) => k0 a0 | (Sum.inr (a0, a1, a2, a3, a4, a5)) => k1 a0 a1 a2 a3 a4 a5) := by
  induction n generalizing i82 es83 i84 i85 p86 i87 kv88 p89 with
  | zero => exact tw_none
  | succ n ih =>
    unfold aRCheckInst_tl20 aRCheckInst_l20
    refine tw_cond (fun _ => ?_) (fun _ => ?_)
    · refine tw_bind fun cs90 _ => ?_
      refine tw_ite fun _ => ?_
      refine tw_bind fun c91 _ => ?_
      refine tw_bind fun n92 _ => ?_
      refine tw_bind fun c93 _ => ?_
      refine tw_bind fun es94 _ => ?_
      refine tw_bind fun y95 _ => ?_
      refine tw_cond (fun _ => ?_) (fun _ => ?_)
      · exact tw_some rfl
      · refine tw_bind fun r96 _ => ?_
        refine tw_bind fun b97 _ => ?_
        refine tw_cond (fun _ => ?_) (fun _ => ?_)
        · exact tw_some rfl
        · refine tw_bind fun r98 _ => ?_
          exact ih _ _ _ _ _ _ _ _
    · exact tw_some rfl
def aRCheckInst_tl31 : Nat → Cs → Rs → Int → Int → Option ((Bool) ⊕ (Unit))
  | 0, _, _, _, _ => none
  | n + 1, i99, es100, i101, i102 =>
    cond (decide (i102 < i101)) (
      Option.bind (idx es100 i102) fun e103 =>
      if e103.length = 1 then
        Option.bind (e103[0]?) fun c104 =>
        Option.bind (PV.asFs c104) fun es105 =>
        Option.bind (i99[3]?) fun c106 =>
        Option.bind (PV.asFs c106) fun es107 =>
        cond ((es105.length : Int) != (es107.length : Int)) (
          some (Sum.inl false)) (
          Option.bind (aRCheckInst_tl36 n i99 i102 es100 i101 i102 es105 (es105.length : Int) 0) fun s => match s with
            | (Sum.inl b108) =>
              some (Sum.inl b108)
            | (Sum.inr (i109, es110, i111, i112)) =>
              aRCheckInst_tl31 n i109 es110 i111 (IntKind.i64.wrap (i112 + (1 : Int))))
      else none) (
      some (Sum.inr ()))
theorem aRCheckInst_twl31 {R : Type} (n : Nat) (i99 : Cs) (es100 : Rs) (i101 : Int) (i102 : Int) (k0 : Bool → Option R) (k1 : Unit → Option R) : Tw (aRCheckInst_tl31 n i99 es100 i101 i102) (aRCheckInst_l31 n i99 es100 i101 i102 k0 k1) (fun s => match s with | (Sum.inl a0) => k0 a0 | (Sum.inr _) => k1 ()) := by
  induction n generalizing i99 es100 i101 i102 with
  | zero => exact tw_none
  | succ n ih =>
    unfold aRCheckInst_tl31 aRCheckInst_l31
    refine tw_cond (fun _ => ?_) (fun _ => ?_)
    · refine tw_bind fun e103 _ => ?_
      refine tw_ite fun _ => ?_
      refine tw_bind fun c104 _ => ?_
      refine tw_bind fun es105 _ => ?_
      refine tw_bind fun c106 _ => ?_
      refine tw_bind fun es107 _ => ?_
      refine tw_cond (fun _ => ?_) (fun _ => ?_)
      · exact tw_some rfl
      · refine tw_call (aRCheckInst_twl36 _ _ _ _ _ _ _ _ _ _ _) (fun s => ?_)
        rcases s with b108 | ⟨i109, es110, i111, i112⟩
        · exact tw_some rfl
        · exact ih _ _ _ _
    · exact tw_some rfl
def aRCheckInst_tl17 : Nat → Cs → Rs → Int → Int → Kv → Option (((Cs)) ⊕ (Bool))
  | 0, _, _, _, _, _ => none
  | n + 1, i54, es55, i56, i57, kv58 =>
    cond (decide (i57 < i56)) (
      Option.bind (idx es55 i57) fun e59 =>
      if e59.length = 2 then
        Option.bind (subAgg e59 0 2) fun p60 =>
        if (PV.isAgg p60 2) = true then
          Option.bind (aRCheckInst_tl20 n i54 es55 i56 i57 p60 0 kv58 p60) fun s => match s with
            | (Sum.inl b61) =>
              some (Sum.inr b61)
            | (Sum.inr (i62, es63, i64, i65, kv66, p67)) =>
              Option.bind (i62[1]?) fun c68 =>
              Option.bind (PV.asFs c68) fun es69 =>
              Option.bind ((PV.cells p67)[0]?) fun c70 =>
              Option.bind (PV.asI .i64 c70) fun n71 =>
              Option.bind (idx es69 (IntKind.i64.wrap (n71 - (1 : Int)))) fun e72 =>
              if e72.length = 4 then
                Option.bind (e72[0]?) fun c73 =>
                Option.bind (PV.asI .i64 c73) fun n74 =>
                cond (decide (n74 < (0 : Int))) (
                  some (Sum.inr false)) (
                  Option.bind (i62[1]?) fun c75 =>
                  Option.bind (PV.asFs c75) fun es76 =>
                  Option.bind ((PV.cells p67)[1]?) fun c77 =>
                  Option.bind (PV.asI .i64 c77) fun n78 =>
                  Option.bind (idx es76 (IntKind.i64.wrap (n78 - (1 : Int)))) fun e79 =>
                  if e79.length = 4 then
                    Option.bind (e79[0]?) fun c80 =>
                    Option.bind (PV.asI .i64 c80) fun n81 =>
                    cond (n81 != (IntKind.i64.wrap (0 - n74))) (
                      some (Sum.inr false)) (
                      aRCheckInst_tl17 n i62 es63 i64 (IntKind.i64.wrap (i65 + (1 : Int))) kv66)
                  else none)
              else none
        else none
      else none) (
      some (Sum.inl i54))
theorem aRCheckInst_twl17 {R : Type} (n : Nat) (i54 : Cs) (es55 : Rs) (i56 : Int) (i57 : Int) (kv58 : Kv) (k0 : Cs → Option R) (k1 : Bool → Option R) : Tw (aRCheckInst_tl17 n i54 es55 i56 i57 kv58) (aRCheckInst_l17 n i54 es55 i56 i57 kv58 k0 k1) (fun s => match s with | (Sum.inl a0) => k0 a0 | (Sum.inr a0) => k1 a0) := by
  induction n generalizing i54 es55 i56 i57 kv58 with
  | zero => exact tw_none
  | succ n ih =>
    unfold aRCheckInst_tl17 aRCheckInst_l17
    refine tw_cond (fun _ => ?_) (fun _ => ?_)
    · refine tw_bind fun e59 _ => ?_
      refine tw_ite fun _ => ?_
      refine tw_bind fun p60 _ => ?_
      refine tw_ite fun _ => ?_
      refine tw_call (aRCheckInst_twl20 _ _ _ _ _ _ _ _ _ _ _) (fun s => ?_)
      rcases s with b61 | ⟨i62, es63, i64, i65, kv66, p67⟩
      · exact tw_some rfl
      · refine tw_bind fun c68 _ => ?_
        refine tw_bind fun es69 _ => ?_
        refine tw_bind fun c70 _ => ?_
        refine tw_bind fun n71 _ => ?_
        refine tw_bind fun e72 _ => ?_
        refine tw_ite fun _ => ?_
        refine tw_bind fun c73 _ => ?_
        refine tw_bind fun n74 _ => ?_
        refine tw_cond (fun _ => ?_) (fun _ => ?_)
        · exact tw_some rfl
        · refine tw_bind fun c75 _ => ?_
          refine tw_bind fun es76 _ => ?_
          refine tw_bind fun c77 _ => ?_
          refine tw_bind fun n78 _ => ?_
          refine tw_bind fun e79 _ => ?_
          refine tw_ite fun _ => ?_
          refine tw_bind fun c80 _ => ?_
          refine tw_bind fun n81 _ => ?_
          refine tw_cond (fun _ => ?_) (fun _ => ?_)
          · exact tw_some rfl
          · exact ih _ _ _ _ _
    · exact tw_some rfl
def aRCheckInst_tl10 : Nat → Cs → Rs → Int → Int → Option ((Bool) ⊕ ((Cs)))
  | 0, _, _, _, _ => none
  | n + 1, i35, es36, i37, i38 =>
    cond (decide (i38 < i37)) (
      Option.bind (idx es36 i38) fun e39 =>
      if e39.length = 4 then
        Option.bind (subAgg e39 0 4) fun p40 =>
        if (PV.isAgg p40 4) = true then
          Option.bind ((PV.cells p40)[0]?) fun c41 =>
          Option.bind (PV.asI .i64 c41) fun n42 =>
          Option.bind (aRWithin_d n42 (-20) 20) fun y43 =>
          cond (!y43) (
            some (Sum.inl false)) (
            Option.bind ((PV.cells p40)[1]?) fun c44 =>
            Option.bind (PV.asI .i64 c44) fun n45 =>
            Option.bind ((PV.cells p40)[2]?) fun c46 =>
            Option.bind (PV.asI .i64 c46) fun n47 =>
            Option.bind (aRWithin_d n45 0 n47) fun y48 =>
            cond (!y48) (
              some (Sum.inl false)) (
              Option.bind ((PV.cells p40)[2]?) fun c49 =>
              Option.bind (PV.asI .i64 c49) fun n50 =>
              cond (decide (n50 > (1000 : Int))) (
                some (Sum.inl false)) (
                Option.bind ((PV.cells p40)[3]?) fun c51 =>
                Option.bind (PV.asI .i64 c51) fun n52 =>
                Option.bind (aRWithin_d n52 0 1000) fun y53 =>
                cond (!y53) (
                  some (Sum.inl false)) (
                  aRCheckInst_tl10 n i35 es36 i37 (IntKind.i64.wrap (i38 + (1 : Int)))))))
        else none
      else none) (
      some (Sum.inr i35))
theorem aRCheckInst_twl10 {R : Type} (n : Nat) (i35 : Cs) (es36 : Rs) (i37 : Int) (i38 : Int) (k0 : Bool → Option R) (k1 : Cs → Option R) : Tw (aRCheckInst_tl10 n i35 es36 i37 i38) (aRCheckInst_l10 n i35 es36 i37 i38 k0 k1) (fun s => match s with | (Sum.inl a0) => k0 a0 | (Sum.inr a0) => k1 a0) := by
  induction n generalizing i35 es36 i37 i38 with
  | zero => exact tw_none
  | succ n ih =>
    unfold aRCheckInst_tl10 aRCheckInst_l10
    refine tw_cond (fun _ => ?_) (fun _ => ?_)
    · refine tw_bind fun e39 _ => ?_
      refine tw_ite fun _ => ?_
      refine tw_bind fun p40 _ => ?_
      refine tw_ite fun _ => ?_
      refine tw_bind fun c41 _ => ?_
      refine tw_bind fun n42 _ => ?_
      refine tw_bind fun y43 _ => ?_
      refine tw_cond (fun _ => ?_) (fun _ => ?_)
      · exact tw_some rfl
      · refine tw_bind fun c44 _ => ?_
        refine tw_bind fun n45 _ => ?_
        refine tw_bind fun c46 _ => ?_
        refine tw_bind fun n47 _ => ?_
        refine tw_bind fun y48 _ => ?_
        refine tw_cond (fun _ => ?_) (fun _ => ?_)
        · exact tw_some rfl
        · refine tw_bind fun c49 _ => ?_
          refine tw_bind fun n50 _ => ?_
          refine tw_cond (fun _ => ?_) (fun _ => ?_)
          · exact tw_some rfl
          · refine tw_bind fun c51 _ => ?_
            refine tw_bind fun n52 _ => ?_
            refine tw_bind fun y53 _ => ?_
            refine tw_cond (fun _ => ?_) (fun _ => ?_)
            · exact tw_some rfl
            · exact ih _ _ _ _
    · exact tw_some rfl
def aRCheckInst_tl4 : Nat → Cs → Rs → Int → Int → Option ((Bool) ⊕ ((Cs)))
  | 0, _, _, _, _ => none
  | n + 1, i19, es20, i21, i22 =>
    cond (decide (i22 < i21)) (
      Option.bind (idx es20 i22) fun e23 =>
      if e23.length = 3 then
        Option.bind (subAgg e23 0 3) fun p24 =>
        if (PV.isAgg p24 3) = true then
          Option.bind ((PV.cells p24)[0]?) fun c25 =>
          Option.bind (PV.asI .i64 c25) fun n26 =>
          Option.bind (aRWithin_d n26 0 60) fun y27 =>
          cond (!y27) (
            some (Sum.inl false)) (
            Option.bind ((PV.cells p24)[1]?) fun c28 =>
            Option.bind (PV.asI .i64 c28) fun n29 =>
            Option.bind ((PV.cells p24)[2]?) fun c30 =>
            Option.bind (PV.asI .i64 c30) fun n31 =>
            Option.bind (aRWithin_d n29 0 n31) fun y32 =>
            cond (!y32) (
              some (Sum.inl false)) (
              Option.bind ((PV.cells p24)[2]?) fun c33 =>
              Option.bind (PV.asI .i64 c33) fun n34 =>
              cond (decide (n34 > (1000 : Int))) (
                some (Sum.inl false)) (
                aRCheckInst_tl4 n i19 es20 i21 (IntKind.i64.wrap (i22 + (1 : Int))))))
        else none
      else none) (
      some (Sum.inr i19))
theorem aRCheckInst_twl4 {R : Type} (n : Nat) (i19 : Cs) (es20 : Rs) (i21 : Int) (i22 : Int) (k0 : Bool → Option R) (k1 : Cs → Option R) : Tw (aRCheckInst_tl4 n i19 es20 i21 i22) (aRCheckInst_l4 n i19 es20 i21 i22 k0 k1) (fun s => match s with | (Sum.inl a0) => k0 a0 | (Sum.inr a0) => k1 a0) := by
  induction n generalizing i19 es20 i21 i22 with
  | zero => exact tw_none
  | succ n ih =>
    unfold aRCheckInst_tl4 aRCheckInst_l4
    refine tw_cond (fun _ => ?_) (fun _ => ?_)
    · refine tw_bind fun e23 _ => ?_
      refine tw_ite fun _ => ?_
      refine tw_bind fun p24 _ => ?_
      refine tw_ite fun _ => ?_
      refine tw_bind fun c25 _ => ?_
      refine tw_bind fun n26 _ => ?_
      refine tw_bind fun y27 _ => ?_
      refine tw_cond (fun _ => ?_) (fun _ => ?_)
      · exact tw_some rfl
      · refine tw_bind fun c28 _ => ?_
        refine tw_bind fun n29 _ => ?_
        refine tw_bind fun c30 _ => ?_
        refine tw_bind fun n31 _ => ?_
        refine tw_bind fun y32 _ => ?_
        refine tw_cond (fun _ => ?_) (fun _ => ?_)
        · exact tw_some rfl
        · refine tw_bind fun c33 _ => ?_
          refine tw_bind fun n34 _ => ?_
          refine tw_cond (fun _ => ?_) (fun _ => ?_)
          · exact tw_some rfl
          · exact ih _ _ _ _
    · exact tw_some rfl
def aRCheckInst_t (i1 : Rs) (i2 : Rs) (i3 : Rs) (i4 : Rs) : Option (Bool) :=
  Option.bind (aRWithin_d (i1.length : Int) 1 3) fun y5 =>
  cond (!y5) (
    some false) (
    cond (decide ((i2.length : Int) > (10 : Int))) (
      some false) (
      cond ((i4.length : Int) != (IntKind.i64.wrap ((i2.length : Int) + (1 : Int)))) (
        some false) (
        Option.bind (aRCheckInst_tl4 9223372036854775808 [(PV.fs i1), (PV.fs i2), (PV.fs i3), (PV.fs i4)] i1 (i1.length : Int) 0) fun s => match s with
          | (Sum.inl b6) =>
            some b6
          | (Sum.inr i7) =>
            Option.bind (i7[1]?) fun c8 =>
            Option.bind (PV.asFs c8) fun es9 =>
            Option.bind (aRCheckInst_tl10 9223372036854775808 i7 es9 (es9.length : Int) 0) fun s => match s with
              | (Sum.inl b10) =>
                some b10
              | (Sum.inr i11) =>
                Option.bind (i11[2]?) fun c12 =>
                Option.bind (PV.asFs c12) fun es13 =>
                Option.bind (aRCheckInst_tl17 9223372036854775808 i11 es13 (es13.length : Int) 0 ([] : Kv)) fun s => match s with
                  | (Sum.inl i14) =>
                    Option.bind (i14[3]?) fun c15 =>
                    Option.bind (PV.asFs c15) fun es16 =>
                    Option.bind (aRCheckInst_tl31 9223372036854775808 i14 es16 (es16.length : Int) 0) fun s => match s with
                      | (Sum.inl b17) =>
                        some b17
                      | (Sum.inr _) =>
                        some true
                  | (Sum.inr b18) =>
                    some b18)))
theorem aRCheckInst_tw {R : Type} (i1 : Rs) (i2 : Rs) (i3 : Rs) (i4 : Rs) (k : Bool → Option R) : Tw (aRCheckInst_t i1 i2 i3 i4) (aRCheckInst_b 9223372036854775808 i1 i2 i3 i4 k) (fun s => match s with | a0 => k a0) := by
  unfold aRCheckInst_t aRCheckInst_b
  refine tw_bind fun y5 _ => ?_
  refine tw_cond (fun _ => ?_) (fun _ => ?_)
  · exact tw_some rfl
  · refine tw_cond (fun _ => ?_) (fun _ => ?_)
    · exact tw_some rfl
    · refine tw_cond (fun _ => ?_) (fun _ => ?_)
      · exact tw_some rfl
      · refine tw_call (aRCheckInst_twl4 _ _ _ _ _ _ _) (fun s => ?_)
        rcases s with b6 | i7
        · exact tw_some rfl
        · refine tw_bind fun c8 _ => ?_
          refine tw_bind fun es9 _ => ?_
          refine tw_call (aRCheckInst_twl10 _ _ _ _ _ _ _) (fun s => ?_)
          rcases s with b10 | i11
          · exact tw_some rfl
          · refine tw_bind fun c12 _ => ?_
            refine tw_bind fun es13 _ => ?_
            refine tw_call (aRCheckInst_twl17 _ _ _ _ _ _ _ _) (fun s => ?_)
            rcases s with i14 | b18
            · refine tw_bind fun c15 _ => ?_
              refine tw_bind fun es16 _ => ?_
              refine tw_call (aRCheckInst_twl31 _ _ _ _ _ _ _) (fun s => ?_)
              rcases s with b17 | ⟨⟩
              · exact tw_some rfl
              · exact tw_some rfl
            · exact tw_some rfl
theorem aRCheckInst_ok : ∀ (i1 : Rs) (i2 : Rs) (i3 : Rs) (i4 : Rs) (y : Bool), aRCheckInst_t i1 i2 i3 i4 = some y → ∃ n, ∀ (R : Type) (k : Bool → Option R), aRCheckInst_b n i1 i2 i3 i4 k = k y := fun i1 i2 i3 i4 y h => ⟨9223372036854775808, fun R k => aRCheckInst_tw i1 i2 i3 i4 k y h⟩
def aRCheckInst_D : Cs → Option (Bool)
  | [(PV.agg [(PV.fs i1), (PV.fs i2), (PV.fs i3), (PV.fs i4)])] => aRCheckInst_t i1 i2 i3 i4
  | _ => none
def aRCheckInst_Γ : List (Nat × Cal) := [(19, .ctr aRWithin_C), (1000000001, ro_I)]
def aRCheckInst_C : Ctr := ⟨[none], Bool, aRCheckInst_D, aRCheckInst_E, true, .d⟩
def aRCheckInst_cfg : List (Nat × LC) := [(4, ⟨[1, 39, 40, 41], [], [], [], [1]⟩),
  (2000004, ⟨[2], [], [], [], []⟩),
  (1004000, ⟨[1], [], [], [], []⟩),
  (10, ⟨[1, 64, 65, 66], [], [], [], []⟩),
  (2000010, ⟨[2], [], [], [], []⟩),
  (1010002, ⟨[1], [], [], [], []⟩),
  (17, ⟨[1, 7, 96, 97, 98], [], [], [], []⟩),
  (20, ⟨[1, 7, 9, 96, 97, 98, 102, 103], [], [], [], []⟩),
  (1017004, ⟨[1], [], [], [], []⟩),
  (2000020, ⟨[2], [], [], [], []⟩),
  (1020006, ⟨[1, 7, 9, 96, 97, 98], [], [], [], []⟩),
  (31, ⟨[1, 145, 146, 147], [], [], [], []⟩),
  (2000017, ⟨[2], [], [], [], []⟩),
  (2000031, ⟨[2], [], [], [], []⟩),
  (36, ⟨[1, 13, 145, 146, 147, 158, 159, 160], [], [], [], []⟩),
  (1031008, ⟨[], [], [], [], []⟩),
  (2000036, ⟨[2], [], [], [], []⟩),
  (1036010, ⟨[1, 145, 146, 147], [], [], [], []⟩)]
def aRCheckInst_p36 : SP := ⟨sparse .undef [(1, (.val (.rp 0))), (13, (.val (.int .i64))), (145, (.val .fs)), (146, (.val (.int .i64))), (147, (.val (.int .i64))), (158, (.val .fs)), (159, (.val (.int .i64))), (160, (.val (.int .i64)))] 0 179, [], []⟩
def aRCheckInst_p20 : SP := ⟨sparse .undef [(1, (.val (.rp 0))), (7, (.mp 0)), (9, (.ref 1 0)), (96, (.val .fs)), (97, (.val (.int .i64))), (98, (.val (.int .i64))), (102, (.val .any)), (103, (.val (.int .i64)))] 0 179, [.map, (.pbox .any 2)], []⟩
def aRCheckInst_p31 : SP := ⟨sparse .undef [(1, (.val (.rp 0))), (145, (.val .fs)), (146, (.val (.int .i64))), (147, (.val (.int .i64)))] 0 179, [], []⟩
def aRCheckInst_p17 : SP := ⟨sparse .undef [(1, (.val (.rp 0))), (7, (.mp 0)), (96, (.val .fs)), (97, (.val (.int .i64))), (98, (.val (.int .i64)))] 0 179, [.map], []⟩
def aRCheckInst_p10 : SP := ⟨sparse .undef [(1, (.val (.rp 0))), (64, (.val .fs)), (65, (.val (.int .i64))), (66, (.val (.int .i64)))] 0 179, [], []⟩
def aRCheckInst_p4 : SP := ⟨sparse .undef [(1, (.val (.rp 0))), (39, (.val .fs)), (40, (.val (.int .i64))), (41, (.val (.int .i64)))] 0 179, [], []⟩
def aRCheckInst_pat : Nat → Option SP
  | 36 => some aRCheckInst_p36
  | 20 => some aRCheckInst_p20
  | 31 => some aRCheckInst_p31
  | 17 => some aRCheckInst_p17
  | 10 => some aRCheckInst_p10
  | 4 => some aRCheckInst_p4
  | _ => none
def aRCheckInst_patj : Nat → Option SP
  | _ => none
def aRCheckInst_L36 (n : Nat) (ls : List Leaf) (R : Type) (k : Ex → St → Option R) : Option R :=
  match ls with
  | [.cells i113, .int a114, .rows es115, .int i116, .int i117, .rows es118, .int i119, .int i120] => aRCheckInst_l36 n i113 a114 es115 i116 i117 es118 i119 i120 (fun y1125 => k .ret ⟨sparse .undef [(2, (TV.val (PV.bool y1125)))] 0 179, [], []⟩)
      (fun y1126 y1127 y1128 y1129 => k (.exit 10) ⟨sparse .undef [(1, (TV.val (PV.rp y1126 0))), (145, (TV.val (PV.fs y1127))), (146, (TV.val (PV.int .i64 y1128))), (147, (TV.val (PV.int .i64 y1129)))] 0 179, [], []⟩)
  | _ => none
def aRCheckInst_L20 (n : Nat) (ls : List Leaf) (R : Type) (k : Ex → St → Option R) : Option R :=
  match ls with
  | [.cells i82, .rows es83, .int i84, .int i85, .pv p86, .int i87, .kvs kv88, .pv p89] => aRCheckInst_l20 n i82 es83 i84 i85 p86 i87 kv88 p89 (fun y2130 => k .ret ⟨sparse .undef [(2, (TV.val (PV.bool y2130)))] 0 179, [], []⟩)
      (fun y2131 y2132 y2133 y2134 y2135 y2136 => k (.exit 6) ⟨sparse .undef [(1, (TV.val (PV.rp y2131 0))), (7, (TV.mp 0)), (9, (TV.ref 1 0)), (96, (TV.val (PV.fs y2132))), (97, (TV.val (PV.int .i64 y2133))), (98, (TV.val (PV.int .i64 y2134)))] 0 179, [(Ob.map y2135), (Ob.pbox y2136 2)], []⟩)
  | _ => none
def aRCheckInst_L31 (n : Nat) (ls : List Leaf) (R : Type) (k : Ex → St → Option R) : Option R :=
  match ls with
  | [.cells i99, .rows es100, .int i101, .int i102] => aRCheckInst_l31 n i99 es100 i101 i102 (fun y3137 => k .ret ⟨sparse .undef [(2, (TV.val (PV.bool y3137)))] 0 179, [], []⟩)
      (fun _ => k (.exit 8) ⟨sparse .undef [] 0 179, [], []⟩)
  | _ => none
def aRCheckInst_L17 (n : Nat) (ls : List Leaf) (R : Type) (k : Ex → St → Option R) : Option R :=
  match ls with
  | [.cells i54, .rows es55, .int i56, .int i57, .kvs kv58] => aRCheckInst_l17 n i54 es55 i56 i57 kv58 (fun y4138 => k (.exit 4) ⟨sparse .undef [(1, (TV.val (PV.rp y4138 0)))] 0 179, [], []⟩)
      (fun y4139 => k .ret ⟨sparse .undef [(2, (TV.val (PV.bool y4139)))] 0 179, [], []⟩)
  | _ => none
def aRCheckInst_L10 (n : Nat) (ls : List Leaf) (R : Type) (k : Ex → St → Option R) : Option R :=
  match ls with
  | [.cells i35, .rows es36, .int i37, .int i38] => aRCheckInst_l10 n i35 es36 i37 i38 (fun y5140 => k .ret ⟨sparse .undef [(2, (TV.val (PV.bool y5140)))] 0 179, [], []⟩)
      (fun y5141 => k (.exit 2) ⟨sparse .undef [(1, (TV.val (PV.rp y5141 0)))] 0 179, [], []⟩)
  | _ => none
def aRCheckInst_L4 (n : Nat) (ls : List Leaf) (R : Type) (k : Ex → St → Option R) : Option R :=
  match ls with
  | [.cells i19, .rows es20, .int i21, .int i22] => aRCheckInst_l4 n i19 es20 i21 i22 (fun y6142 => k .ret ⟨sparse .undef [(2, (TV.val (PV.bool y6142)))] 0 179, [], []⟩)
      (fun y6143 => k (.exit 0) ⟨sparse .undef [(1, (TV.val (PV.rp y6143 0)))] 0 179, [], []⟩)
  | _ => none
def aRCheckInst_L (n key : Nat) (ls : List Leaf) (R : Type) (k : Ex → St → Option R) : Option R :=
  match key with
  | 36 => aRCheckInst_L36 n ls R k
  | 20 => aRCheckInst_L20 n ls R k
  | 31 => aRCheckInst_L31 n ls R k
  | 17 => aRCheckInst_L17 n ls R k
  | 10 => aRCheckInst_L10 n ls R k
  | 4 => aRCheckInst_L4 n ls R k
  | _ => none
def aRCheckInst_J (n key : Nat) (ls : List Leaf) (R : Type) (k : Ex → St → Option R) : Option R :=
  match key with
  | _ => none
def aRCheckInst_on : Code → Bool := fun _ => false
def aRCheckInst_Λ : Nat → Loops := patL (normBy aRCheckInst_cfg) aRCheckInst_pat aRCheckInst_L (normJ aRCheckInst_cfg) aRCheckInst_on aRCheckInst_patj aRCheckInst_J
theorem aRCheckInst_step4 (n : Nat) (i19 : Cs) (es20 : Rs) (i21 : Int) (i22 : Int)  (R : Type) (k : Ex → St → Option R) :
    roundK T G0 (ctrOf aRCheckInst_Γ) (normBy aRCheckInst_cfg) (aRCheckInst_Λ n) (codeAt [1, 1, 0, 1, 0, 0] (bodyOf Tryz.f14)) (buildSt aRCheckInst_p4 [.cells i19, .rows es20, .int i21, .int i22]) R k = aRCheckInst_L4 (n + 1) [.cells i19, .rows es20, .int i21, .int i22] R k := by kernel_rfl
theorem aRCheckInst_step10 (n : Nat) (i35 : Cs) (es36 : Rs) (i37 : Int) (i38 : Int)  (R : Type) (k : Ex → St → Option R) :
    roundK T G0 (ctrOf aRCheckInst_Γ) (normBy aRCheckInst_cfg) (aRCheckInst_Λ n) (codeAt [1, 1, 1, 0, 1, 0, 0] (bodyOf Tryz.f14)) (buildSt aRCheckInst_p10 [.cells i35, .rows es36, .int i37, .int i38]) R k = aRCheckInst_L10 (n + 1) [.cells i35, .rows es36, .int i37, .int i38] R k := by kernel_rfl
theorem aRCheckInst_step17 (n : Nat) (i54 : Cs) (es55 : Rs) (i56 : Int) (i57 : Int) (kv58 : Kv)  (R : Type) (k : Ex → St → Option R) :
    roundK T G0 (ctrOf aRCheckInst_Γ) (normBy aRCheckInst_cfg) (aRCheckInst_Λ n) (codeAt [1, 1, 1, 1, 1, 0, 1, 0, 0] (bodyOf Tryz.f14)) (buildSt aRCheckInst_p17 [.cells i54, .rows es55, .int i56, .int i57, .kvs kv58]) R k = aRCheckInst_L17 (n + 1) [.cells i54, .rows es55, .int i56, .int i57, .kvs kv58] R k := by kernel_rfl
theorem aRCheckInst_step20 (n : Nat) (i82 : Cs) (es83 : Rs) (i84 : Int) (i85 : Int) (p86 : PV) (i87 : Int) (kv88 : Kv) (p89 : PV)  (R : Type) (k : Ex → St → Option R) :
    roundK T G0 (ctrOf aRCheckInst_Γ) (normBy aRCheckInst_cfg) (aRCheckInst_Λ n) (codeAt [1, 1, 1, 1, 1, 0, 1, 0, 0, 1, 1, 0, 0, 1, 0, 1, 0, 0] (bodyOf Tryz.f14)) (buildSt aRCheckInst_p20 [.cells i82, .rows es83, .int i84, .int i85, .pv p86, .int i87, .kvs kv88, .pv p89]) R k = aRCheckInst_L20 (n + 1) [.cells i82, .rows es83, .int i84, .int i85, .pv p86, .int i87, .kvs kv88, .pv p89] R k := by kernel_rfl
theorem aRCheckInst_step31 (n : Nat) (i99 : Cs) (es100 : Rs) (i101 : Int) (i102 : Int)  (R : Type) (k : Ex → St → Option R) :
    roundK T G0 (ctrOf aRCheckInst_Γ) (normBy aRCheckInst_cfg) (aRCheckInst_Λ n) (codeAt [1, 1, 1, 1, 1, 1, 0, 1, 0, 0] (bodyOf Tryz.f14)) (buildSt aRCheckInst_p31 [.cells i99, .rows es100, .int i101, .int i102]) R k = aRCheckInst_L31 (n + 1) [.cells i99, .rows es100, .int i101, .int i102] R k := by kernel_rfl
theorem aRCheckInst_step36 (n : Nat) (i113 : Cs) (a114 : Int) (es115 : Rs) (i116 : Int) (i117 : Int) (es118 : Rs) (i119 : Int) (i120 : Int)  (R : Type) (k : Ex → St → Option R) :
    roundK T G0 (ctrOf aRCheckInst_Γ) (normBy aRCheckInst_cfg) (aRCheckInst_Λ n) (codeAt [1, 1, 1, 1, 1, 1, 0, 1, 0, 0, 1, 1, 0, 0, 1, 1, 1, 0, 0] (bodyOf Tryz.f14)) (buildSt aRCheckInst_p36 [.cells i113, .int a114, .rows es115, .int i116, .int i117, .rows es118, .int i119, .int i120]) R k = aRCheckInst_L36 (n + 1) [.cells i113, .int a114, .rows es115, .int i116, .int i117, .rows es118, .int i119, .int i120] R k := by kernel_rfl
theorem aRCheckInst_eq (n : Nat) (i1 : Rs) (i2 : Rs) (i3 : Rs) (i4 : Rs) :
    funK T G0 (ctrOf aRCheckInst_Γ) (aRCheckInst_Λ n) .d true [none] (funOf Tryz.f14) [(PV.agg [(PV.fs i1), (PV.fs i2), (PV.fs i3), (PV.fs i4)])] = aRCheckInst_b n  i1 i2 i3 i4 (fun a0 => some (aRCheckInst_E a0)) := by kernel_rfl
theorem aRCheckInst_inv {ps : Cs} {y : Bool} (h : aRCheckInst_D ps = some y) : ∃ (i1 : Rs) (i2 : Rs) (i3 : Rs) (i4 : Rs), ps = [(PV.agg [(PV.fs i1), (PV.fs i2), (PV.fs i3), (PV.fs i4)])] := by
  unfold aRCheckInst_D at h
  split at h
  · exact ⟨_, _, _, _, rfl⟩
  · cases h
theorem aRCheckInst_loops : loopsOf (bodyOf Tryz.f14) = [codeAt [1, 1, 0, 1, 0, 0] (bodyOf Tryz.f14), codeAt [1, 1, 1, 0, 1, 0, 0] (bodyOf Tryz.f14), codeAt [1, 1, 1, 1, 1, 0, 1, 0, 0] (bodyOf Tryz.f14), codeAt [1, 1, 1, 1, 1, 0, 1, 0, 0, 1, 1, 0, 0, 1, 0, 1, 0, 0] (bodyOf Tryz.f14), codeAt [1, 1, 1, 1, 1, 1, 0, 1, 0, 0] (bodyOf Tryz.f14), codeAt [1, 1, 1, 1, 1, 1, 0, 1, 0, 0, 1, 1, 0, 0, 1, 1, 1, 0, 0] (bodyOf Tryz.f14)] := by kernel_rfl
theorem aRCheckInst_holds (hΓ : HoldsAll Tryz.prog G0 aRCheckInst_Γ) (hok : ∀ (i1 : Rs) (i2 : Rs) (i3 : Rs) (i4 : Rs) (y : Bool), aRCheckInst_t i1 i2 i3 i4 = some y → ∃ n, ∀ (R : Type) (k : Bool → Option R), aRCheckInst_b n  i1 i2 i3 i4 k = k y) : Holds Tryz.prog G0 14 aRCheckInst_C := by
  refine fun_pat mixed tOk (ctrOf_ok hΓ) Tryz.func14 rfl rfl rfl rfl (F := funOf Tryz.f14) (normBy_ok aRCheckInst_cfg) (pat := aRCheckInst_pat) (L := aRCheckInst_L) (normJ_ok aRCheckInst_cfg) (on := aRCheckInst_on) (patj := aRCheckInst_patj) (J := aRCheckInst_J) (fun c hc ls R k => ?_) (fun c hc p hp m ls R k r h => ?_) (fun c hc p hp m ls R k r h => ?_) (fun ps x h => ?_)
  · rw [show (funOf Tryz.f14).code = bodyOf Tryz.f14 from rfl, aRCheckInst_loops] at hc
    simp only [List.mem_cons, List.not_mem_nil, or_false] at hc
    rcases hc with rfl | rfl | rfl | rfl | rfl | rfl
    · show aRCheckInst_L4 0 ls R k = none
      unfold aRCheckInst_L4
      split
      · rfl
      · rfl
    · show aRCheckInst_L10 0 ls R k = none
      unfold aRCheckInst_L10
      split
      · rfl
      · rfl
    · show aRCheckInst_L17 0 ls R k = none
      unfold aRCheckInst_L17
      split
      · rfl
      · rfl
    · show aRCheckInst_L20 0 ls R k = none
      unfold aRCheckInst_L20
      split
      · rfl
      · rfl
    · show aRCheckInst_L31 0 ls R k = none
      unfold aRCheckInst_L31
      split
      · rfl
      · rfl
    · show aRCheckInst_L36 0 ls R k = none
      unfold aRCheckInst_L36
      split
      · rfl
      · rfl
  · rw [show (funOf Tryz.f14).code = bodyOf Tryz.f14 from rfl, aRCheckInst_loops] at hc
    simp only [List.mem_cons, List.not_mem_nil, or_false] at hc
    rcases hc with rfl | rfl | rfl | rfl | rfl | rfl
    · obtain rfl : aRCheckInst_p4 = p := Option.some.inj hp
      change aRCheckInst_L4 (m + 1) ls R k = some r at h
      have h' := h
      unfold aRCheckInst_L4 at h'
      split at h'
      · exact (aRCheckInst_step4 m _ _ _ _ R k).trans h
      · cases h'
    · obtain rfl : aRCheckInst_p10 = p := Option.some.inj hp
      change aRCheckInst_L10 (m + 1) ls R k = some r at h
      have h' := h
      unfold aRCheckInst_L10 at h'
      split at h'
      · exact (aRCheckInst_step10 m _ _ _ _ R k).trans h
      · cases h'
    · obtain rfl : aRCheckInst_p17 = p := Option.some.inj hp
      change aRCheckInst_L17 (m + 1) ls R k = some r at h
      have h' := h
      unfold aRCheckInst_L17 at h'
      split at h'
      · exact (aRCheckInst_step17 m _ _ _ _ _ R k).trans h
      · cases h'
    · obtain rfl : aRCheckInst_p20 = p := Option.some.inj hp
      change aRCheckInst_L20 (m + 1) ls R k = some r at h
      have h' := h
      unfold aRCheckInst_L20 at h'
      split at h'
      · exact (aRCheckInst_step20 m _ _ _ _ _ _ _ _ R k).trans h
      · cases h'
    · obtain rfl : aRCheckInst_p31 = p := Option.some.inj hp
      change aRCheckInst_L31 (m + 1) ls R k = some r at h
      have h' := h
      unfold aRCheckInst_L31 at h'
      split at h'
      · exact (aRCheckInst_step31 m _ _ _ _ R k).trans h
      · cases h'
    · obtain rfl : aRCheckInst_p36 = p := Option.some.inj hp
      change aRCheckInst_L36 (m + 1) ls R k = some r at h
      have h' := h
      unfold aRCheckInst_L36 at h'
      split at h'
      · exact (aRCheckInst_step36 m _ _ _ _ _ _ _ _ R k).trans h
      · cases h'
  · cases (List.mem_filter.1 hc).2
  · obtain ⟨y, hy, hx⟩ := bind_inv h
    cases hx
    obtain ⟨i1, i2, i3, i4, rfl⟩ := aRCheckInst_inv hy
    obtain ⟨n, hn⟩ := hok i1 i2 i3 i4 y hy
    exact ⟨n, (aRCheckInst_eq n i1 i2 i3 i4).trans (hn _ _)⟩

/-! ## drayman/draymanref01.filled -/
def aRFilled_l3 {R : Type} : Nat → Int → Int → Int → Rs → (Rs → Option R) → Option R
  | 0, _, _, _, _, _ => none
  | n + 1, x4, i5, i6, es7, k0 =>
    cond (decide (i6 < i5)) (
      if 0 ≤ i6 ∧ i6 < (es7.length : Int) then
        Option.bind (es7[(Int.toNat i6)]?) fun e8 =>
        Option.bind (e8[0]?) fun c9 =>
        aRFilled_l3 n x4 i5 (IntKind.i64.wrap (i6 + (1 : Int))) (List.set es7 (Int.toNat i6) (List.set e8 0 (PV.int .i64 x4))) k0
      else none) (
      k0 es7)
def aRFilled_b {R : Type} (n : Nat) (n1 : Int) (x2 : Int) (k : Rs → Option R) : Option R :=
  if n1 = n1 ∧ 0 ≤ n1 ∧ n1 * 8 ≤ maxBytes ∧ 1 = 1 then
    aRFilled_l3 n x2 ((List.replicate (Int.toNat n1) [(PV.int .i64 0)]).length : Int) 0 (List.replicate (Int.toNat n1) [(PV.int .i64 0)]) k
  else none
def aRFilled_E (y : Rs) : PV × Cs := ((PV.fs y), [])
def aRFilled_tl3 : Nat → Int → Int → Int → Rs → Option ((Rs))
  | 0, _, _, _, _ => none
  | n + 1, x4, i5, i6, es7 =>
    cond (decide (i6 < i5)) (
      if 0 ≤ i6 ∧ i6 < (es7.length : Int) then
        Option.bind (es7[(Int.toNat i6)]?) fun e8 =>
        Option.bind (e8[0]?) fun c9 =>
        aRFilled_tl3 n x4 i5 (IntKind.i64.wrap (i6 + (1 : Int))) (List.set es7 (Int.toNat i6) (List.set e8 0 (PV.int .i64 x4)))
      else none) (
      some es7)
theorem aRFilled_twl3 {R : Type} (n : Nat) (x4 : Int) (i5 : Int) (i6 : Int) (es7 : Rs) (k0 : Rs → Option R) : Tw (aRFilled_tl3 n x4 i5 i6 es7) (aRFilled_l3 n x4 i5 i6 es7 k0) (fun s => match s with | a0 => k0 a0) := by
  induction n generalizing x4 i5 i6 es7 with
  | zero => exact tw_none
  | succ n ih =>
    unfold aRFilled_tl3 aRFilled_l3
    refine tw_cond (fun _ => ?_) (fun _ => ?_)
    · refine tw_ite fun _ => ?_
      refine tw_bind fun e8 _ => ?_
      refine tw_bind fun c9 _ => ?_
      exact ih _ _ _ _
    · exact tw_some rfl
def aRFilled_t (n1 : Int) (x2 : Int) : Option (Rs) :=
  if n1 = n1 ∧ 0 ≤ n1 ∧ n1 * 8 ≤ maxBytes ∧ 1 = 1 then
    Option.bind (aRFilled_tl3 9223372036854775808 x2 ((List.replicate (Int.toNat n1) [(PV.int .i64 0)]).length : Int) 0 (List.replicate (Int.toNat n1) [(PV.int .i64 0)])) fun s => match s with
      | es3 =>
        some es3
  else none
theorem aRFilled_tw {R : Type} (n1 : Int) (x2 : Int) (k : Rs → Option R) : Tw (aRFilled_t n1 x2) (aRFilled_b 9223372036854775808 n1 x2 k) (fun s => match s with | a0 => k a0) := by
  unfold aRFilled_t aRFilled_b
  refine tw_ite fun _ => ?_
  refine tw_call (aRFilled_twl3 _ _ _ _ _ _) (fun s => ?_)
  rcases s with es3
  · exact tw_some rfl
theorem aRFilled_ok : ∀ (n1 : Int) (x2 : Int) (y : Rs), aRFilled_t n1 x2 = some y → ∃ n, ∀ (R : Type) (k : Rs → Option R), aRFilled_b n n1 x2 k = k y := fun n1 x2 y h => ⟨9223372036854775808, fun R k => aRFilled_tw n1 x2 k y h⟩
def aRFilled_D : Cs → Option (Rs)
  | [(PV.int .i64 n1), (PV.int .i64 x2)] => aRFilled_t n1 x2
  | _ => none
def aRFilled_Γ : List (Nat × Cal) := []
def aRFilled_C : Ctr := ⟨[none, none], Rs, aRFilled_D, aRFilled_E, false, .d⟩
def aRFilled_cfg : List (Nat × LC) := [(3, ⟨[1, 5, 10, 11], [], [], [], []⟩),
  (1003000, ⟨[5], [], [], [], []⟩)]
def aRFilled_p3 : SP := ⟨sparse .undef [(1, (.val (.int .i64))), (5, (.ow 0)), (10, (.val (.int .i64))), (11, (.val (.int .i64)))] 0 20, [(.row 1)], []⟩
def aRFilled_pat : Nat → Option SP
  | 3 => some aRFilled_p3
  | _ => none
def aRFilled_patj : Nat → Option SP
  | _ => none
def aRFilled_L3 (n : Nat) (ls : List Leaf) (R : Type) (k : Ex → St → Option R) : Option R :=
  match ls with
  | [.int x4, .int i5, .int i6, .rows es7] => aRFilled_l3 n x4 i5 i6 es7 (fun y1010 => k (.exit 0) ⟨sparse .undef [(5, (TV.ow 0))] 0 20, [(Ob.row y1010 1)], []⟩)
  | _ => none
def aRFilled_L (n key : Nat) (ls : List Leaf) (R : Type) (k : Ex → St → Option R) : Option R :=
  match key with
  | 3 => aRFilled_L3 n ls R k
  | _ => none
def aRFilled_J (n key : Nat) (ls : List Leaf) (R : Type) (k : Ex → St → Option R) : Option R :=
  match key with
  | _ => none
def aRFilled_on : Code → Bool := fun _ => false
def aRFilled_Λ : Nat → Loops := patL (normBy aRFilled_cfg) aRFilled_pat aRFilled_L (normJ aRFilled_cfg) aRFilled_on aRFilled_patj aRFilled_J
theorem aRFilled_step3 (n : Nat) (x4 : Int) (i5 : Int) (i6 : Int) (es7 : Rs)  (R : Type) (k : Ex → St → Option R) :
    roundK T G0 (ctrOf aRFilled_Γ) (normBy aRFilled_cfg) (aRFilled_Λ n) (codeAt [1, 1, 0, 1, 0, 0] (bodyOf Tryz.f15)) (buildSt aRFilled_p3 [.int x4, .int i5, .int i6, .rows es7]) R k = aRFilled_L3 (n + 1) [.int x4, .int i5, .int i6, .rows es7] R k := by kernel_rfl
theorem aRFilled_eq (n : Nat) (n1 : Int) (x2 : Int) :
    funK T G0 (ctrOf aRFilled_Γ) (aRFilled_Λ n) .d false [none, none] (funOf Tryz.f15) [(PV.int .i64 n1), (PV.int .i64 x2)] = aRFilled_b n  n1 x2 (fun a0 => some (aRFilled_E a0)) := by kernel_rfl
theorem aRFilled_inv {ps : Cs} {y : Rs} (h : aRFilled_D ps = some y) : ∃ (n1 : Int) (x2 : Int), ps = [(PV.int .i64 n1), (PV.int .i64 x2)] := by
  unfold aRFilled_D at h
  split at h
  · exact ⟨_, _, rfl⟩
  · cases h
theorem aRFilled_loops : loopsOf (bodyOf Tryz.f15) = [codeAt [1, 1, 0, 1, 0, 0] (bodyOf Tryz.f15)] := by kernel_rfl
theorem aRFilled_holds (hΓ : HoldsAll Tryz.prog G0 aRFilled_Γ) (hok : ∀ (n1 : Int) (x2 : Int) (y : Rs), aRFilled_t n1 x2 = some y → ∃ n, ∀ (R : Type) (k : Rs → Option R), aRFilled_b n  n1 x2 k = k y) : Holds Tryz.prog G0 15 aRFilled_C := by
  refine fun_pat mixed tOk (ctrOf_ok hΓ) Tryz.func15 rfl rfl rfl rfl (F := funOf Tryz.f15) (normBy_ok aRFilled_cfg) (pat := aRFilled_pat) (L := aRFilled_L) (normJ_ok aRFilled_cfg) (on := aRFilled_on) (patj := aRFilled_patj) (J := aRFilled_J) (fun c hc ls R k => ?_) (fun c hc p hp m ls R k r h => ?_) (fun c hc p hp m ls R k r h => ?_) (fun ps x h => ?_)
  · rw [show (funOf Tryz.f15).code = bodyOf Tryz.f15 from rfl, aRFilled_loops] at hc
    simp only [List.mem_cons, List.not_mem_nil, or_false] at hc
    rcases hc with rfl
    · show aRFilled_L3 0 ls R k = none
      unfold aRFilled_L3
      split
      · rfl
      · rfl
  · rw [show (funOf Tryz.f15).code = bodyOf Tryz.f15 from rfl, aRFilled_loops] at hc
    simp only [List.mem_cons, List.not_mem_nil, or_false] at hc
    rcases hc with rfl
    · obtain rfl : aRFilled_p3 = p := Option.some.inj hp
      change aRFilled_L3 (m + 1) ls R k = some r at h
      have h' := h
      unfold aRFilled_L3 at h'
      split at h'
      · exact (aRFilled_step3 m _ _ _ _ R k).trans h
      · cases h'
  · cases (List.mem_filter.1 hc).2
  · obtain ⟨y, hy, hx⟩ := bind_inv h
    cases hx
    obtain ⟨n1, x2, rfl⟩ := aRFilled_inv hy
    obtain ⟨n, hn⟩ := hok n1 x2 y hy
    exact ⟨n, (aRFilled_eq n n1 x2).trans (hn _ _)⟩

/-! ## drayman/draymanref01.NewPlan -/
def aRNewPlan_jx01 {R : Type} (i1 : Rs) (i2 : Rs) (y6 : Rs) (k : Rs → Rs → Rs → Rs → Rs → Rs → Int → Option R) : Option R :=
  Option.bind (aRFilled_t (i1.length : Int) (-1)) fun y7 =>
  Option.bind (aRFilled_t (i1.length : Int) 0) fun y8 =>
  Option.bind (aRFilled_t (IntKind.i64.wrap ((i2.length : Int) + (1 : Int))) 0) fun y9 =>
  Option.bind (aRFilled_t (i1.length : Int) 0) fun y10 =>
  k (List.replicate (Int.toNat (i1.length : Int)) [(PV.fs [])]) y6 y7 y8 y9 y10 0
def aRNewPlan_b {R : Type} (i1 : Rs) (i2 : Rs) (i3 : Rs) (i4 : Rs) (k : Rs → Rs → Rs → Rs → Rs → Rs → Int → Option R) : Option R :=
  Option.bind (aRCheckInst_t i1 i2 i3 i4) fun y5 =>
  cond (!y5) (
    k [] [] [] [] [] [] 0) (
    meet (
      if (i1.length : Int) = (i1.length : Int) ∧ 0 ≤ (i1.length : Int) ∧ (i1.length : Int) * 24 ≤ maxBytes ∧ 1 = 1 then
        Option.bind (aRFilled_t (IntKind.i64.wrap ((i2.length : Int) + (1 : Int))) (-1)) fun y6 =>
        aRNewPlan_jx01 i1 i2 y6 k
      else none) (
      Option.bind (aRFilled_t (IntKind.i64.wrap ((i2.length : Int) + (1 : Int))) (-1)) fun y11 =>
      meet (
        if (i1.length : Int) = (i1.length : Int) ∧ 0 ≤ (i1.length : Int) ∧ (i1.length : Int) * 24 ≤ maxBytes ∧ 1 = 1 then
          aRNewPlan_jx01 i1 i2 y11 k
        else none) (
        Option.bind (aRFilled_t (i1.length : Int) (-1)) fun y16 =>
        meet (
          if (i1.length : Int) = (i1.length : Int) ∧ 0 ≤ (i1.length : Int) ∧ (i1.length : Int) * 24 ≤ maxBytes ∧ 1 = 1 then
            Option.bind (aRFilled_t (i1.length : Int) 0) fun y17 =>
            Option.bind (aRFilled_t (IntKind.i64.wrap ((i2.length : Int) + (1 : Int))) 0) fun y18 =>
            Option.bind (aRFilled_t (i1.length : Int) 0) fun y19 =>
            k (List.replicate (Int.toNat (i1.length : Int)) [(PV.fs [])]) y11 y16 y17 y18 y19 0
          else none) (
          Option.bind (aRFilled_t (i1.length : Int) 0) fun y20 =>
          meet (
            if (i1.length : Int) = (i1.length : Int) ∧ 0 ≤ (i1.length : Int) ∧ (i1.length : Int) * 24 ≤ maxBytes ∧ 1 = 1 then
              Option.bind (aRFilled_t (IntKind.i64.wrap ((i2.length : Int) + (1 : Int))) 0) fun y21 =>
              Option.bind (aRFilled_t (i1.length : Int) 0) fun y22 =>
              k (List.replicate (Int.toNat (i1.length : Int)) [(PV.fs [])]) y11 y16 y20 y21 y22 0
            else none) (
            Option.bind (aRFilled_t (IntKind.i64.wrap ((i2.length : Int) + (1 : Int))) 0) fun y23 =>
            meet (
              if (i1.length : Int) = (i1.length : Int) ∧ 0 ≤ (i1.length : Int) ∧ (i1.length : Int) * 24 ≤ maxBytes ∧ 1 = 1 then
                Option.bind (aRFilled_t (i1.length : Int) 0) fun y24 =>
                k (List.replicate (Int.toNat (i1.length : Int)) [(PV.fs [])]) y11 y16 y20 y23 y24 0
              else none) (
              Option.bind (aRFilled_t (i1.length : Int) 0) fun y25 =>
              if (i1.length : Int) = (i1.length : Int) ∧ 0 ≤ (i1.length : Int) ∧ (i1.length : Int) * 24 ≤ maxBytes ∧ 1 = 1 then
                k (List.replicate (Int.toNat (i1.length : Int)) [(PV.fs [])]) y11 y16 y20 y23 y25 0
              else none))))))
def aRNewPlan_E (y : Rs × Rs × Rs × Rs × Rs × Rs × Int) : PV × Cs := ((PV.agg [(PV.fs y.1), (PV.fs y.2.1), (PV.fs y.2.2.1), (PV.fs y.2.2.2.1), (PV.fs y.2.2.2.2.1), (PV.fs y.2.2.2.2.2.1), (PV.int .i64 y.2.2.2.2.2.2)]), [])
def aRNewPlan_t (i1 : Rs) (i2 : Rs) (i3 : Rs) (i4 : Rs) : Option (Rs × Rs × Rs × Rs × Rs × Rs × Int) :=
  Option.bind (aRCheckInst_t i1 i2 i3 i4) fun y5 =>
  cond (!y5) (
    some ([], [], [], [], [], [], 0)) (
    if (i1.length : Int) = (i1.length : Int) ∧ 0 ≤ (i1.length : Int) ∧ (i1.length : Int) * 24 ≤ maxBytes ∧ 1 = 1 then
      Option.bind (aRFilled_t (IntKind.i64.wrap ((i2.length : Int) + (1 : Int))) (-1)) fun y6 =>
      Option.bind (aRFilled_t (i1.length : Int) (-1)) fun y7 =>
      Option.bind (aRFilled_t (i1.length : Int) 0) fun y8 =>
      Option.bind (aRFilled_t (IntKind.i64.wrap ((i2.length : Int) + (1 : Int))) 0) fun y9 =>
      Option.bind (aRFilled_t (i1.length : Int) 0) fun y10 =>
      some ((List.replicate (Int.toNat (i1.length : Int)) [(PV.fs [])]), y6, y7, y8, y9, y10, 0)
    else none)
theorem aRNewPlan_tw {R : Type} (i1 : Rs) (i2 : Rs) (i3 : Rs) (i4 : Rs) (k : Rs → Rs → Rs → Rs → Rs → Rs → Int → Option R) : Tw (aRNewPlan_t i1 i2 i3 i4) (aRNewPlan_b  i1 i2 i3 i4 k) (fun s => match s with | (a0, a1, a2, a3, a4, a5, a6) => k a0 a1 a2 a3 a4 a5 a6) := by
  unfold aRNewPlan_t aRNewPlan_b
  refine tw_bind fun y5 _ => ?_
  refine tw_cond (fun _ => ?_) (fun _ => ?_)
  · exact tw_some rfl
  · intro s hs
    obtain ⟨h26, hs⟩ := tw_iteI hs
    obtain ⟨y6, h27, hs⟩ := bind_inv hs
    obtain ⟨y7, h28, hs⟩ := bind_inv hs
    obtain ⟨y8, h29, hs⟩ := bind_inv hs
    obtain ⟨y9, h30, hs⟩ := bind_inv hs
    obtain ⟨y10, h31, hs⟩ := bind_inv hs
    cases h29.symm.trans h31
    cases hs
    simp only [h26, h27, h28, h29, h30, aRNewPlan_jx01, Option.bind_some, cond_true, cond_false, if_true, if_false, ite_true, ite_false, meet_self, and_self, true_and, and_true, eq_self, not_true_eq_false, not_false_eq_true, Bool.false_eq_true, reduceCtorEq]
theorem aRNewPlan_ok : ∀ (i1 : Rs) (i2 : Rs) (i3 : Rs) (i4 : Rs) (y : Rs × Rs × Rs × Rs × Rs × Rs × Int), aRNewPlan_t i1 i2 i3 i4 = some y → ∀ (R : Type) (k : Rs → Rs → Rs → Rs → Rs → Rs → Int → Option R), aRNewPlan_b  i1 i2 i3 i4 k = k y.1 y.2.1 y.2.2.1 y.2.2.2.1 y.2.2.2.2.1 y.2.2.2.2.2.1 y.2.2.2.2.2.2 := fun i1 i2 i3 i4 y h => fun R k => aRNewPlan_tw i1 i2 i3 i4 k y h
def aRNewPlan_D : Cs → Option (Rs × Rs × Rs × Rs × Rs × Rs × Int)
  | [(PV.agg [(PV.fs i1), (PV.fs i2), (PV.fs i3), (PV.fs i4)])] => aRNewPlan_t i1 i2 i3 i4
  | _ => none
def aRNewPlan_Γ : List (Nat × Cal) := [(14, .ctr aRCheckInst_C), (15, .ctr aRFilled_C), (1000000001, ro_I)]
def aRNewPlan_C : Ctr := ⟨[none], Rs × Rs × Rs × Rs × Rs × Rs × Int, aRNewPlan_D, aRNewPlan_E, false, .d⟩
theorem aRNewPlan_eq (i1 : Rs) (i2 : Rs) (i3 : Rs) (i4 : Rs) :
    funK T G0 (ctrOf aRNewPlan_Γ) noL .d false [none] (funOf Tryz.f11) [(PV.agg [(PV.fs i1), (PV.fs i2), (PV.fs i3), (PV.fs i4)])] = aRNewPlan_b  i1 i2 i3 i4 (fun a0 a1 a2 a3 a4 a5 a6 => some (aRNewPlan_E (a0, a1, a2, a3, a4, a5, a6))) := by kernel_rfl
theorem aRNewPlan_inv {ps : Cs} {y : Rs × Rs × Rs × Rs × Rs × Rs × Int} (h : aRNewPlan_D ps = some y) : ∃ (i1 : Rs) (i2 : Rs) (i3 : Rs) (i4 : Rs), ps = [(PV.agg [(PV.fs i1), (PV.fs i2), (PV.fs i3), (PV.fs i4)])] := by
  unfold aRNewPlan_D at h
  split at h
  · exact ⟨_, _, _, _, rfl⟩
  · cases h
theorem aRNewPlan_holds (hΓ : HoldsAll Tryz.prog G0 aRNewPlan_Γ) (hok : ∀ (i1 : Rs) (i2 : Rs) (i3 : Rs) (i4 : Rs) (y : Rs × Rs × Rs × Rs × Rs × Rs × Int), aRNewPlan_t i1 i2 i3 i4 = some y → ∀ (R : Type) (k : Rs → Rs → Rs → Rs → Rs → Rs → Int → Option R), aRNewPlan_b  i1 i2 i3 i4 k = k y.1 y.2.1 y.2.2.1 y.2.2.2.1 y.2.2.2.2.1 y.2.2.2.2.2.1 y.2.2.2.2.2.2) : Holds Tryz.prog G0 11 aRNewPlan_C := by
  refine fun_ok mixed tOk (ctrOf_ok hΓ) Tryz.func11 rfl rfl rfl rfl (F := funOf Tryz.f11) (fun ps x h => ?_)
  obtain ⟨y, hy, hx⟩ := bind_inv h
  cases hx
  obtain ⟨i1, i2, i3, i4, rfl⟩ := aRNewPlan_inv hy
  refine ⟨noL, noL_ok _, (aRNewPlan_eq i1 i2 i3 i4).trans (hok i1 i2 i3 i4 y hy _ _)⟩

/-! ## slices.Clone[[]int,int] -/
def aSlicesClone_b {R : Type} (s1 : Rs) (k : Rs → Option R) : Option R :=
  cond (List.isEmpty s1) (
    meet (
      k []) (
      if allLen 1 s1 = true then
        if (([] : Rs).length + s1.length) * 8 ≤ maxBytes then
          k (([] : Rs) ++ s1)
        else none
      else none)) (
    if allLen 1 s1 = true then
      if (([] : Rs).length + s1.length) * 8 ≤ maxBytes then
        k (([] : Rs) ++ s1)
      else none
    else none)
def aSlicesClone_E (y : Rs) : PV × Cs := ((PV.os y 1), [])
def aSlicesClone_D : Cs → Option (Rs)
  | [(PV.fs s1)] => sClone 1 8 s1
  | _ => none
def aSlicesClone_Γ : List (Nat × Cal) := []
def aSlicesClone_C : Ctr := ⟨[none], Rs, aSlicesClone_D, aSlicesClone_E, false, .s⟩
theorem aSlicesClone_eq (s1 : Rs) :
    funK T G0 (ctrOf aSlicesClone_Γ) noL .s false [none] (funOf Tryz.f30) [(PV.fs s1)] = aSlicesClone_b  s1 (fun a0 => some (aSlicesClone_E a0)) := by kernel_rfl
theorem aSlicesClone_inv {ps : Cs} {y : Rs} (h : aSlicesClone_D ps = some y) : ∃ (s1 : Rs), ps = [(PV.fs s1)] := by
  unfold aSlicesClone_D at h
  split at h
  · exact ⟨_, rfl⟩
  · cases h
theorem aSlicesClone_holds (hΓ : HoldsAll Tryz.prog G0 aSlicesClone_Γ) (hok : ∀ (s1 : Rs) (y : Rs), sClone 1 8 s1 = some y → ∀ (R : Type) (k : Rs → Option R), aSlicesClone_b  s1 k = k y) : Holds Tryz.prog G0 30 aSlicesClone_C := by
  refine fun_ok mixed tOk (ctrOf_ok hΓ) Tryz.func30 rfl rfl rfl rfl (F := funOf Tryz.f30) (fun ps x h => ?_)
  obtain ⟨y, hy, hx⟩ := bind_inv h
  cases hx
  obtain ⟨s1, rfl⟩ := aSlicesClone_inv hy
  refine ⟨noL, noL_ok _, (aSlicesClone_eq s1).trans (hok s1 y hy _ _)⟩
theorem aSlicesClone_ok : ∀ (s : Rs) (y : Rs), sClone 1 8 s = some y → ∀ (R : Type) (k : Rs → Option R), aSlicesClone_b s k = k y := by
  intro s y h R k
  unfold sClone at h
  split at h
  · rename_i hh
    cases h
    cases s with
    | nil => simp [aSlicesClone_b, allLen, maxBytes, meet_self]
    | cons a l =>
      unfold aSlicesClone_b
      rw [List.isEmpty_cons, cond_false, if_pos hh.1, if_pos (by simpa [maxBytes] using hh.2)]
      rfl
  · cases h

/-! ## drayman/plan.Copy -/
def aPlanCopy_l3 {R : Type} : Nat → Rs → Int → Int → Int → Int → Rs → Rs → Rs → Rs → Rs → Rs → (Int → Int → Rs → Rs → Rs → Rs → Rs → Rs → Option R) → Option R
  | 0, _, _, _, _, _, _, _, _, _, _, _, _ => none
  | n + 1, es77, i78, i79, i80, i81, es82, es83, es84, es85, es86, es87, k0 =>
    cond (decide (i79 < i78)) (
      Option.bind (idx es77 i79) fun e88 =>
      if e88.length = 1 then
        Option.bind (e88[0]?) fun c89 =>
        Option.bind (PV.asFs c89) fun es90 =>
        meet (
          Option.bind (sClone 1 8 es90) fun y91 =>
          if (es82.length + ([[(PV.fs y91)]] : Rs).length) * 24 ≤ maxBytes then
            aPlanCopy_l3 n es77 i78 (IntKind.i64.wrap (i79 + (1 : Int))) i80 i81 (es82 ++ [[(PV.fs y91)]]) es83 es84 es85 es86 es87 k0
          else none) (
          Option.bind (sClone 1 8 es90) fun y92 =>
          (fun (z1 : Option R) =>
            meet (
              z1) (
              z1)) (
            if (es82.length + ([[(PV.fs y92)]] : Rs).length) * 24 ≤ maxBytes then
              aPlanCopy_l3 n es77 i78 (IntKind.i64.wrap (i79 + (1 : Int))) i80 i81 (es82 ++ [[(PV.fs y92)]]) es83 es84 es85 es86 es87 k0
            else none))
      else none) (
      k0 i80 i81 es82 es83 es84 es85 es86 es87)
def aPlanCopy_q3 {R : Type} (n : Nat) (p93 : Cs) (i94 : Int) (i95 : Int) (es96 : Rs) (es97 : Rs) (es98 : Rs) (es99 : Rs) (es100 : Rs) (k0 : Int → Rs → Rs → Rs → Rs → Rs → Rs → Option R) : Option R :=
  Option.bind (p93[0]?) fun c101 =>
  Option.bind (PV.asFs c101) fun es102 =>
  aPlanCopy_l3 n es102 (es102.length : Int) 0 i94 i95 [] es96 es97 es98 es99 es100
    (fun (i103 : Int) (i104 : Int) (es105 : Rs) (es106 : Rs) (es107 : Rs) (es108 : Rs) (es109 : Rs) (es110 : Rs) =>
      k0 i104 es105 es106 es107 es108 es109 es110)
def aPlanCopy_jx01 {R : Type} (n : Nat) (p5 : Rs) (p6 : Rs) (p1 : Rs) (p2 : Rs) (p3 : Rs) (p4 : Rs) (p7 : Int) (y8 : Rs) (y9 : Rs) (y10 : Rs) (k : Rs → Rs → Rs → Rs → Rs → Rs → Int → Option R) : Option R :=
  Option.bind (sClone 1 8 p5) fun y35 =>
  Option.bind (sClone 1 8 p6) fun y36 =>
  aPlanCopy_q3 n [(PV.fs p1), (PV.fs p2), (PV.fs p3), (PV.fs p4), (PV.fs p5), (PV.fs p6), (PV.int .i64 p7)] 0 p7 y8 y9 y10 y35 y36
    (fun (i37 : Int) (es38 : Rs) (es39 : Rs) (es40 : Rs) (es41 : Rs) (es42 : Rs) (es43 : Rs) =>
      k es38 es39 es40 es41 es42 es43 i37)
def aPlanCopy_jx02 {R : Type} (n : Nat) (p4 : Rs) (p5 : Rs) (p6 : Rs) (p1 : Rs) (p2 : Rs) (p3 : Rs) (p7 : Int) (y8 : Rs) (y9 : Rs) (k : Rs → Rs → Rs → Rs → Rs → Rs → Int → Option R) : Option R :=
  Option.bind (sClone 1 8 p4) fun y44 =>
  aPlanCopy_jx01 n p5 p6 p1 p2 p3 p4 p7 y8 y9 y44 k
def aPlanCopy_jx03 {R : Type} (n : Nat) (p3 : Rs) (p4 : Rs) (p5 : Rs) (p6 : Rs) (p1 : Rs) (p2 : Rs) (p7 : Int) (y8 : Rs) (k : Rs → Rs → Rs → Rs → Rs → Rs → Int → Option R) : Option R :=
  Option.bind (sClone 1 8 p3) fun y54 =>
  aPlanCopy_jx02 n p4 p5 p6 p1 p2 p3 p7 y8 y54 k
def aPlanCopy_b {R : Type} (n : Nat) (p1 : Rs) (p2 : Rs) (p3 : Rs) (p4 : Rs) (p5 : Rs) (p6 : Rs) (p7 : Int) (k : Rs → Rs → Rs → Rs → Rs → Rs → Int → Option R) : Option R :=
  meet (
    Option.bind (sClone 1 8 p2) fun y8 =>
    meet (
      Option.bind (sClone 1 8 p3) fun y9 =>
      meet (
        Option.bind (sClone 1 8 p4) fun y10 =>
        meet (
          Option.bind (sClone 1 8 p5) fun y11 =>
          meet (
            Option.bind (sClone 1 8 p6) fun y12 =>
            (fun (z2 : Option R) =>
              meet (
                z2) (
                z2)) (
              aPlanCopy_q3 n [(PV.fs p1), (PV.fs p2), (PV.fs p3), (PV.fs p4), (PV.fs p5), (PV.fs p6), (PV.int .i64 p7)] 0 p7 y8 y9 y10 y11 y12
                (fun (i13 : Int) (es14 : Rs) (es15 : Rs) (es16 : Rs) (es17 : Rs) (es18 : Rs) (es19 : Rs) =>
                  k es14 es15 es16 es17 es18 es19 i13))) (
            Option.bind (sClone 1 8 p6) fun y27 =>
            aPlanCopy_q3 n [(PV.fs p1), (PV.fs p2), (PV.fs p3), (PV.fs p4), (PV.fs p5), (PV.fs p6), (PV.int .i64 p7)] 0 p7 y8 y9 y10 y11 y27
              (fun (i28 : Int) (es29 : Rs) (es30 : Rs) (es31 : Rs) (es32 : Rs) (es33 : Rs) (es34 : Rs) =>
                k es29 es30 es31 es32 es33 es34 i28))) (
          aPlanCopy_jx01 n p5 p6 p1 p2 p3 p4 p7 y8 y9 y10 k)) (
        aPlanCopy_jx02 n p4 p5 p6 p1 p2 p3 p7 y8 y9 k)) (
      aPlanCopy_jx03 n p3 p4 p5 p6 p1 p2 p7 y8 k)) (
    Option.bind (sClone 1 8 p2) fun y65 =>
    aPlanCopy_jx03 n p3 p4 p5 p6 p1 p2 p7 y65 k)
def aPlanCopy_E (y : Rs × Rs × Rs × Rs × Rs × Rs × Int) : PV × Cs := ((PV.agg [(PV.os y.1 1), (PV.os y.2.1 1), (PV.os y.2.2.1 1), (PV.os y.2.2.2.1 1), (PV.os y.2.2.2.2.1 1), (PV.os y.2.2.2.2.2.1 1), (PV.int .i64 y.2.2.2.2.2.2)]), [])
def aPlanCopy_tl3 : Nat → Rs → Int → Int → Int → Int → Rs → Rs → Rs → Rs → Rs → Rs → Option ((Int × Int × Rs × Rs × Rs × Rs × Rs × Rs))
  | 0, _, _, _, _, _, _, _, _, _, _, _ => none
  | n + 1, es77, i78, i79, i80, i81, es82, es83, es84, es85, es86, es87 =>
    cond (decide (i79 < i78)) (
      Option.bind (idx es77 i79) fun e88 =>
      if e88.length = 1 then
        Option.bind (e88[0]?) fun c89 =>
        Option.bind (PV.asFs c89) fun es90 =>
        Option.bind (sClone 1 8 es90) fun y91 =>
        if (es82.length + ([[(PV.fs y91)]] : Rs).length) * 24 ≤ maxBytes then
          aPlanCopy_tl3 n es77 i78 (IntKind.i64.wrap (i79 + (1 : Int))) i80 i81 (es82 ++ [[(PV.fs y91)]]) es83 es84 es85 es86 es87
        else none
      else none) (
      some (i80, i81, es82, es83, es84, es85, es86, es87))
theorem aPlanCopy_twl3 {R : Type} (n : Nat) (es77 : Rs) (i78 : Int) (i79 : Int) (i80 : Int) (i81 : Int) (es82 : Rs) (es83 : Rs) (es84 : Rs) (es85 : Rs) (es86 : Rs) (es87 : Rs) (k0 : Int → Int → Rs → Rs → Rs → Rs → Rs → Rs → Option R) : Tw (aPlanCopy_tl3 n es77 i78 i79 i80 i81 es82 es83 es84 es85 es86 es87) (aPlanCopy_l3 n es77 i78 i79 i80 i81 es82 es83 es84 es85 es86 es87 k0) (fun s => match s with | (a0, a1, a2, a3, a4, a5, a6, a7) => k0 a0 a1 a2 a3 a4 a5 a6 a7) := by
  induction n generalizing es77 i78 i79 i80 i81 es82 es83 es84 es85 es86 es87 with
  | zero => exact tw_none
  | succ n ih =>
    unfold aPlanCopy_tl3 aPlanCopy_l3
    refine tw_cond (fun _ => ?_) (fun _ => ?_)
    · refine tw_bind fun e88 _ => ?_
      refine tw_ite fun _ => ?_
      refine tw_bind fun c89 _ => ?_
      refine tw_bind fun es90 _ => ?_
      intro s hs
      obtain ⟨y91, h111, hs⟩ := bind_inv hs
      obtain ⟨h112, hs⟩ := tw_iteI hs
      have h113 := ih _ _ _ _ _ _ _ _ _ _ _ s hs
      simp only [h111, h112, h113, aPlanCopy_jx01, aPlanCopy_jx02, aPlanCopy_jx03, Option.bind_some, cond_true, cond_false, if_true, if_false, ite_true, ite_false, meet_self, and_self, true_and, and_true, eq_self, not_true_eq_false, not_false_eq_true, Bool.false_eq_true, reduceCtorEq]
    · exact tw_some rfl
def aPlanCopy_tq3 (n : Nat) (p93 : Cs) (i94 : Int) (i95 : Int) (es96 : Rs) (es97 : Rs) (es98 : Rs) (es99 : Rs) (es100 : Rs) : Option ((Int × Rs × Rs × Rs × Rs × Rs × Rs)) :=
  Option.bind (p93[0]?) fun c101 =>
  Option.bind (PV.asFs c101) fun es102 =>
  Option.bind (aPlanCopy_tl3 n es102 (es102.length : Int) 0 i94 i95 [] es96 es97 es98 es99 es100) fun s => match s with
    | (i103, i104, es105, es106, es107, es108, es109, es110) =>
      some (i104, es105, es106, es107, es108, es109, es110)
theorem aPlanCopy_twq3 {R : Type} (n : Nat) (p93 : Cs) (i94 : Int) (i95 : Int) (es96 : Rs) (es97 : Rs) (es98 : Rs) (es99 : Rs) (es100 : Rs) (k0 : Int → Rs → Rs → Rs → Rs → Rs → Rs → Option R) : Tw (aPlanCopy_tq3 n p93 i94 i95 es96 es97 es98 es99 es100) (aPlanCopy_q3 n p93 i94 i95 es96 es97 es98 es99 es100 k0) (fun s => match s with | (a0, a1, a2, a3, a4, a5, a6) => k0 a0 a1 a2 a3 a4 a5 a6) := by
  unfold aPlanCopy_tq3 aPlanCopy_q3
  refine tw_bind fun c101 _ => ?_
  refine tw_bind fun es102 _ => ?_
  refine tw_call (aPlanCopy_twl3 _ _ _ _ _ _ _ _ _ _ _ _ _) (fun s => ?_)
  rcases s with ⟨i103, i104, es105, es106, es107, es108, es109, es110⟩
  · exact tw_some rfl
def aPlanCopy_t (p1 : Rs) (p2 : Rs) (p3 : Rs) (p4 : Rs) (p5 : Rs) (p6 : Rs) (p7 : Int) : Option (Rs × Rs × Rs × Rs × Rs × Rs × Int) :=
  Option.bind (sClone 1 8 p2) fun y8 =>
  Option.bind (sClone 1 8 p3) fun y9 =>
  Option.bind (sClone 1 8 p4) fun y10 =>
  Option.bind (sClone 1 8 p5) fun y11 =>
  Option.bind (sClone 1 8 p6) fun y12 =>
  Option.bind (aPlanCopy_tq3 9223372036854775808 [(PV.fs p1), (PV.fs p2), (PV.fs p3), (PV.fs p4), (PV.fs p5), (PV.fs p6), (PV.int .i64 p7)] 0 p7 y8 y9 y10 y11 y12) fun s => match s with
    | (i13, es14, es15, es16, es17, es18, es19) =>
      some (es14, es15, es16, es17, es18, es19, i13)
theorem aPlanCopy_tw {R : Type} (p1 : Rs) (p2 : Rs) (p3 : Rs) (p4 : Rs) (p5 : Rs) (p6 : Rs) (p7 : Int) (k : Rs → Rs → Rs → Rs → Rs → Rs → Int → Option R) : Tw (aPlanCopy_t p1 p2 p3 p4 p5 p6 p7) (aPlanCopy_b 9223372036854775808 p1 p2 p3 p4 p5 p6 p7 k) (fun s => match s with | (a0, a1, a2, a3, a4, a5, a6) => k a0 a1 a2 a3 a4 a5 a6) := by
  unfold aPlanCopy_t aPlanCopy_b
  intro s hs
  obtain ⟨y8, h114, hs⟩ := bind_inv hs
  obtain ⟨y9, h116, hs⟩ := bind_inv hs
  obtain ⟨y10, h118, hs⟩ := bind_inv hs
  obtain ⟨y11, h120, hs⟩ := bind_inv hs
  obtain ⟨y12, h122, hs⟩ := bind_inv hs
  obtain ⟨s124, h124, hs⟩ := bind_inv hs
  have h124k := fun k0 => aPlanCopy_twq3 (R := R) _ _ _ _ _ _ _ _ _ k0 _ h124
  rcases s124 with ⟨i13, es14, es15, es16, es17, es18, es19⟩
  · cases hs
    simp only [h114, h116, h118, h120, h122, h124k, aPlanCopy_jx01, aPlanCopy_jx02, aPlanCopy_jx03, Option.bind_some, cond_true, cond_false, if_true, if_false, ite_true, ite_false, meet_self, and_self, true_and, and_true, eq_self, not_true_eq_false, not_false_eq_true, Bool.false_eq_true, reduceCtorEq]
theorem aPlanCopy_ok : ∀ (p1 : Rs) (p2 : Rs) (p3 : Rs) (p4 : Rs) (p5 : Rs) (p6 : Rs) (p7 : Int) (y : Rs × Rs × Rs × Rs × Rs × Rs × Int), aPlanCopy_t p1 p2 p3 p4 p5 p6 p7 = some y → ∃ n, ∀ (R : Type) (k : Rs → Rs → Rs → Rs → Rs → Rs → Int → Option R), aPlanCopy_b n p1 p2 p3 p4 p5 p6 p7 k = k y.1 y.2.1 y.2.2.1 y.2.2.2.1 y.2.2.2.2.1 y.2.2.2.2.2.1 y.2.2.2.2.2.2 := fun p1 p2 p3 p4 p5 p6 p7 y h => ⟨9223372036854775808, fun R k => aPlanCopy_tw p1 p2 p3 p4 p5 p6 p7 k y h⟩
def aPlanCopy_D : Cs → Option (Rs × Rs × Rs × Rs × Rs × Rs × Int)
  | [(PV.agg [(PV.fs p1), (PV.fs p2), (PV.fs p3), (PV.fs p4), (PV.fs p5), (PV.fs p6), (PV.int .i64 p7)])] => aPlanCopy_t p1 p2 p3 p4 p5 p6 p7
  | _ => none
def aPlanCopy_Γ : List (Nat × Cal) := [(30, .ctr aSlicesClone_C), (1000000001, ro_I)]
def aPlanCopy_C : Ctr := ⟨[none], Rs × Rs × Rs × Rs × Rs × Rs × Int, aPlanCopy_D, aPlanCopy_E, false, (.a [.s, .s, .s, .s, .s, .s, .d])⟩
def aPlanCopy_cfg : List (Nat × LC) := [(3, ⟨[2, 3, 25, 26, 27], [], [], [(3, 0)], []⟩),
  (4000003, ⟨[1, 2, 3], [], [], [], [1]⟩),
  (1003000, ⟨[2, 3], [], [], [], []⟩),
  (6000003, ⟨[2], [], [], [], []⟩)]
def aPlanCopy_p3 : SP := ⟨sparse .undef [(2, (.ref 0 0)), (3, (.ref 1 0)), (25, (.val .fs)), (26, (.val (.int .i64))), (27, (.val (.int .i64)))] 0 40, [(.box [(.nil 1), (.nil 1), (.nil 1), (.nil 1), (.nil 1), (.nil 1), (.val (.int .i64))]), (.box [(.ow 2), (.ow 3), (.ow 4), (.ow 5), (.ow 6), (.ow 7), (.val (.int .i64))]), (.row 1), (.row 1), (.row 1), (.row 1), (.row 1), (.row 1)], []⟩
def aPlanCopy_pj3 : SP := ⟨sparse .undef [(1, (.val (.rp 0))), (2, (.ref 0 0)), (3, (.ref 1 0))] 0 40, [(.box [(.nil 1), (.nil 1), (.nil 1), (.nil 1), (.nil 1), (.nil 1), (.val (.int .i64))]), (.box [(.nil 1), (.ow 2), (.ow 3), (.ow 4), (.ow 5), (.ow 6), (.val (.int .i64))]), (.row 1), (.row 1), (.row 1), (.row 1), (.row 1)], []⟩
def aPlanCopy_pat : Nat → Option SP
  | 3 => some aPlanCopy_p3
  | _ => none
def aPlanCopy_patj : Nat → Option SP
  | 3 => some aPlanCopy_pj3
  | _ => none
def aPlanCopy_L3 (n : Nat) (ls : List Leaf) (R : Type) (k : Ex → St → Option R) : Option R :=
  match ls with
  | [.rows es77, .int i78, .int i79, .int i80, .int i81, .rows es82, .rows es83, .rows es84, .rows es85, .rows es86, .rows es87] => aPlanCopy_l3 n es77 i78 i79 i80 i81 es82 es83 es84 es85 es86 es87 (fun y1126 y1127 y1128 y1129 y1130 y1131 y1132 y1133 => k (.exit 0) ⟨sparse .undef [(2, (TV.ref 0 0)), (3, (TV.ref 1 0))] 0 40, [(Ob.box [(TV.nil 1), (TV.nil 1), (TV.nil 1), (TV.nil 1), (TV.nil 1), (TV.nil 1), (TV.val (PV.int .i64 y1126))]), (Ob.box [(TV.ow 2), (TV.ow 3), (TV.ow 4), (TV.ow 5), (TV.ow 6), (TV.ow 7), (TV.val (PV.int .i64 y1127))]), (Ob.row y1128 1), (Ob.row y1129 1), (Ob.row y1130 1), (Ob.row y1131 1), (Ob.row y1132 1), (Ob.row y1133 1)], []⟩)
  | _ => none
def aPlanCopy_J3 (n : Nat) (ls : List Leaf) (R : Type) (k : Ex → St → Option R) : Option R :=
  match ls with
  | [.cells p93, .int i94, .int i95, .rows es96, .rows es97, .rows es98, .rows es99, .rows es100] => aPlanCopy_q3 n p93 i94 i95 es96 es97 es98 es99 es100 (fun y2134 y2135 y2136 y2137 y2138 y2139 y2140 => k .ret ⟨sparse .undef [(2, (TV.ref 0 0))] 0 40, [(Ob.box [(TV.ow 1), (TV.ow 2), (TV.ow 3), (TV.ow 4), (TV.ow 5), (TV.ow 6), (TV.val (PV.int .i64 y2134))]), (Ob.row y2135 1), (Ob.row y2136 1), (Ob.row y2137 1), (Ob.row y2138 1), (Ob.row y2139 1), (Ob.row y2140 1)], []⟩)
  | _ => none
def aPlanCopy_L (n key : Nat) (ls : List Leaf) (R : Type) (k : Ex → St → Option R) : Option R :=
  match key with
  | 3 => aPlanCopy_L3 n ls R k
  | _ => none
def aPlanCopy_J (n key : Nat) (ls : List Leaf) (R : Type) (k : Ex → St → Option R) : Option R :=
  match key with
  | 3 => aPlanCopy_J3 n ls R k
  | _ => none
def aPlanCopy_on : Code → Bool := onKeys [3]
def aPlanCopy_Λ : Nat → Loops := patL (normBy aPlanCopy_cfg) aPlanCopy_pat aPlanCopy_L (normJ aPlanCopy_cfg) aPlanCopy_on aPlanCopy_patj aPlanCopy_J
theorem aPlanCopy_step3 (n : Nat) (es77 : Rs) (i78 : Int) (i79 : Int) (i80 : Int) (i81 : Int) (es82 : Rs) (es83 : Rs) (es84 : Rs) (es85 : Rs) (es86 : Rs) (es87 : Rs)  (R : Type) (k : Ex → St → Option R) :
    roundK T G0 (ctrOf aPlanCopy_Γ) (normBy aPlanCopy_cfg) (aPlanCopy_Λ n) (codeAt [1, 1, 0, 1, 0, 0] (bodyOf Tryz.f20)) (buildSt aPlanCopy_p3 [.rows es77, .int i78, .int i79, .int i80, .int i81, .rows es82, .rows es83, .rows es84, .rows es85, .rows es86, .rows es87]) R k = aPlanCopy_L3 (n + 1) [.rows es77, .int i78, .int i79, .int i80, .int i81, .rows es82, .rows es83, .rows es84, .rows es85, .rows es86, .rows es87] R k := by kernel_rfl
theorem aPlanCopy_stepq3 (n : Nat) (p93 : Cs) (i94 : Int) (i95 : Int) (es96 : Rs) (es97 : Rs) (es98 : Rs) (es99 : Rs) (es100 : Rs)  (R : Type) (k : Ex → St → Option R) :
    joinK T G0 (ctrOf aPlanCopy_Γ) (normJ aPlanCopy_cfg) (aPlanCopy_Λ n) (codeAt [1, 1] (bodyOf Tryz.f20)) (buildSt aPlanCopy_pj3 [.cells p93, .int i94, .int i95, .rows es96, .rows es97, .rows es98, .rows es99, .rows es100]) R k = aPlanCopy_J3 n [.cells p93, .int i94, .int i95, .rows es96, .rows es97, .rows es98, .rows es99, .rows es100] R k := by kernel_rfl
theorem aPlanCopy_eq (n : Nat) (p1 : Rs) (p2 : Rs) (p3 : Rs) (p4 : Rs) (p5 : Rs) (p6 : Rs) (p7 : Int) :
    funK T G0 (ctrOf aPlanCopy_Γ) (aPlanCopy_Λ n) (.a [.s, .s, .s, .s, .s, .s, .d]) false [none] (funOf Tryz.f20) [(PV.agg [(PV.fs p1), (PV.fs p2), (PV.fs p3), (PV.fs p4), (PV.fs p5), (PV.fs p6), (PV.int .i64 p7)])] = aPlanCopy_b n  p1 p2 p3 p4 p5 p6 p7 (fun a0 a1 a2 a3 a4 a5 a6 => some (aPlanCopy_E (a0, a1, a2, a3, a4, a5, a6))) := by kernel_rfl
theorem aPlanCopy_inv {ps : Cs} {y : Rs × Rs × Rs × Rs × Rs × Rs × Int} (h : aPlanCopy_D ps = some y) : ∃ (p1 : Rs) (p2 : Rs) (p3 : Rs) (p4 : Rs) (p5 : Rs) (p6 : Rs) (p7 : Int), ps = [(PV.agg [(PV.fs p1), (PV.fs p2), (PV.fs p3), (PV.fs p4), (PV.fs p5), (PV.fs p6), (PV.int .i64 p7)])] := by
  unfold aPlanCopy_D at h
  split at h
  · exact ⟨_, _, _, _, _, _, _, rfl⟩
  · cases h
theorem aPlanCopy_loops : loopsOf (bodyOf Tryz.f20) = [codeAt [1, 1, 0, 1, 0, 0] (bodyOf Tryz.f20)] := by kernel_rfl
theorem aPlanCopy_joins : (joinsOf (bodyOf Tryz.f20)).filter aPlanCopy_on = [codeAt [1, 1] (bodyOf Tryz.f20)] := by kernel_rfl
theorem aPlanCopy_holds (hΓ : HoldsAll Tryz.prog G0 aPlanCopy_Γ) (hok : ∀ (p1 : Rs) (p2 : Rs) (p3 : Rs) (p4 : Rs) (p5 : Rs) (p6 : Rs) (p7 : Int) (y : Rs × Rs × Rs × Rs × Rs × Rs × Int), aPlanCopy_t p1 p2 p3 p4 p5 p6 p7 = some y → ∃ n, ∀ (R : Type) (k : Rs → Rs → Rs → Rs → Rs → Rs → Int → Option R), aPlanCopy_b n  p1 p2 p3 p4 p5 p6 p7 k = k y.1 y.2.1 y.2.2.1 y.2.2.2.1 y.2.2.2.2.1 y.2.2.2.2.2.1 y.2.2.2.2.2.2) : Holds Tryz.prog G0 20 aPlanCopy_C := by
  refine fun_pat mixed tOk (ctrOf_ok hΓ) Tryz.func20 rfl rfl rfl rfl (F := funOf Tryz.f20) (normBy_ok aPlanCopy_cfg) (pat := aPlanCopy_pat) (L := aPlanCopy_L) (normJ_ok aPlanCopy_cfg) (on := aPlanCopy_on) (patj := aPlanCopy_patj) (J := aPlanCopy_J) (fun c hc ls R k => ?_) (fun c hc p hp m ls R k r h => ?_) (fun c hc p hp m ls R k r h => ?_) (fun ps x h => ?_)
  · rw [show (funOf Tryz.f20).code = bodyOf Tryz.f20 from rfl, aPlanCopy_loops] at hc
    simp only [List.mem_cons, List.not_mem_nil, or_false] at hc
    rcases hc with rfl
    · show aPlanCopy_L3 0 ls R k = none
      unfold aPlanCopy_L3
      split
      · rfl
      · rfl
  · rw [show (funOf Tryz.f20).code = bodyOf Tryz.f20 from rfl, aPlanCopy_loops] at hc
    simp only [List.mem_cons, List.not_mem_nil, or_false] at hc
    rcases hc with rfl
    · obtain rfl : aPlanCopy_p3 = p := Option.some.inj hp
      change aPlanCopy_L3 (m + 1) ls R k = some r at h
      have h' := h
      unfold aPlanCopy_L3 at h'
      split at h'
      · exact (aPlanCopy_step3 m _ _ _ _ _ _ _ _ _ _ _ R k).trans h
      · cases h'
  · rw [show (funOf Tryz.f20).code = bodyOf Tryz.f20 from rfl, aPlanCopy_joins] at hc
    simp only [List.mem_cons, List.not_mem_nil, or_false] at hc
    rcases hc with rfl
    · obtain rfl : aPlanCopy_pj3 = p := Option.some.inj hp
      change aPlanCopy_J3 m ls R k = some r at h
      have h' := h
      unfold aPlanCopy_J3 at h'
      split at h'
      · exact (aPlanCopy_stepq3 m _ _ _ _ _ _ _ _ R k).trans h
      · cases h'
  · obtain ⟨y, hy, hx⟩ := bind_inv h
    cases hx
    obtain ⟨p1, p2, p3, p4, p5, p6, p7, rfl⟩ := aPlanCopy_inv hy
    obtain ⟨n, hn⟩ := hok p1 p2 p3 p4 p5 p6 p7 y hy
    exact ⟨n, (aPlanCopy_eq n p1 p2 p3 p4 p5 p6 p7).trans (hn _ _)⟩

/-! ## (*drayman/stack.Stack).Top -/
def aStackStackTop_b {R : Type} (s1 : Rs) (k : Rs → Rs → Rs → Bool → Option R) : Option R :=
  cond ((s1.length : Int) == (0 : Int)) (
    k [] [] [] false) (
    Option.bind (idx s1 (IntKind.i64.wrap ((s1.length : Int) - (1 : Int)))) fun e2 =>
    if e2.length = 5 then
      Option.bind (subAgg e2 0 5) fun p3 =>
      none
    else none)
def aStackStackTop_E (y : Rs × Rs × Rs × Bool) : PV × Cs := ((PV.tuple [(PV.agg [(PV.fs y.1), (PV.fs y.2.1), (PV.fs y.2.2.1), PV.mnil, PV.mnil]), (PV.bool y.2.2.2)]), [])
def aStackStackTop_d (s1 : Rs) : Option (Rs × Rs × Rs × Bool) := aStackStackTop_b s1 fun a0 a1 a2 a3 => some (a0, a1, a2, a3)
def aStackStackTop_D : Cs → Option (Rs × Rs × Rs × Bool)
  | [(PV.rp [(PV.fs s1)] 0)] => aStackStackTop_d s1
  | _ => none
def aStackStackTop_Γ : List (Nat × Cal) := []
def aStackStackTop_C : Ctr := ⟨[none], Rs × Rs × Rs × Bool, aStackStackTop_D, aStackStackTop_E, false, .d⟩
theorem aStackStackTop_eq (s1 : Rs) :
    funK T G0 (ctrOf aStackStackTop_Γ) noL .d false [none] (funOf Tryz.f40) [(PV.rp [(PV.fs s1)] 0)] = aStackStackTop_b  s1 (fun a0 a1 a2 a3 => some (aStackStackTop_E (a0, a1, a2, a3))) := by kernel_rfl
theorem aStackStackTop_inv {ps : Cs} {y : Rs × Rs × Rs × Bool} (h : aStackStackTop_D ps = some y) : ∃ (s1 : Rs), ps = [(PV.rp [(PV.fs s1)] 0)] := by
  unfold aStackStackTop_D at h
  split at h
  · exact ⟨_, rfl⟩
  · cases h
theorem aStackStackTop_nat {R : Type} (s1 : Rs) (k : Rs → Rs → Rs → Bool → Option R) : aStackStackTop_b s1 k = Option.bind (aStackStackTop_b s1 fun a0 a1 a2 a3 => some (a0, a1, a2, a3)) fun y => k y.1 y.2.1 y.2.2.1 y.2.2.2 := by
  unfold aStackStackTop_b
  first | rfl | simp only [Option.bind_assoc, bind_cond, bind_ite, Option.bind_some, Option.bind_none]
theorem aStackStackTop_holds (hΓ : HoldsAll Tryz.prog G0 aStackStackTop_Γ) : Holds Tryz.prog G0 40 aStackStackTop_C := by
  refine fun_ok mixed tOk (ctrOf_ok hΓ) Tryz.func40 rfl rfl rfl rfl (F := funOf Tryz.f40) (fun ps x h => ?_)
  obtain ⟨y, hy, hx⟩ := bind_inv h
  cases hx
  obtain ⟨s1, rfl⟩ := aStackStackTop_inv hy
  have hy' : aStackStackTop_d s1 = some y := hy
  refine ⟨noL, noL_ok _, (aStackStackTop_eq s1).trans ?_⟩
  unfold aStackStackTop_d at hy'
  rw [aStackStackTop_nat, hy']
  rfl

/-! ## drayman/inst.Mate -/
def aInstMate_l2 {R : Type} : Nat → Int → Rs → Int → Int → (Int → Option R) → (Unit → Option R) → Option R
  | 0, _, _, _, _, _, _ => none
  | n + 1, stop7, es8, i9, i10, k0, k1 =>
    cond (decide (i10 < i9)) (
      Option.bind (idx es8 i10) fun e11 =>
      if e11.length = 2 then
        Option.bind (subAgg e11 0 2) fun p12 =>
        if (PV.isAgg p12 2) = true then
          Option.bind ((PV.cells p12)[0]?) fun c13 =>
          Option.bind (PV.asI .i64 c13) fun n14 =>
          cond (stop7 == n14) (
            Option.bind ((PV.cells p12)[1]?) fun c15 =>
            Option.bind (PV.asI .i64 c15) fun n16 =>
            k0 n16) (
            Option.bind ((PV.cells p12)[1]?) fun c17 =>
            Option.bind (PV.asI .i64 c17) fun n18 =>
            cond (stop7 == n18) (
              Option.bind ((PV.cells p12)[0]?) fun c19 =>
              Option.bind (PV.asI .i64 c19) fun n20 =>
              k0 n20) (
              aInstMate_l2 n stop7 es8 i9 (IntKind.i64.wrap (i10 + (1 : Int))) k0 k1))
        else none
      else none) (
      k1 ())
def aInstMate_b {R : Type} (n : Nat) (i1 : Rs) (i2 : Rs) (i3 : Rs) (i4 : Rs) (stop5 : Int) (k : Int → Option R) : Option R :=
  aInstMate_l2 n stop5 i3 (i3.length : Int) 0 k
    (fun (_ : Unit) =>
      k 0)
def aInstMate_E (y : Int) : PV × Cs := ((PV.int .i64 y), [])
def aInstMate_tl2 : Nat → Int → Rs → Int → Int → Option ((Int) ⊕ (Unit))
  | 0, _, _, _, _ => none
  | n + 1, stop7, es8, i9, i10 =>
    cond (decide (i10 < i9)) (
      Option.bind (idx es8 i10) fun e11 =>
      if e11.length = 2 then
        Option.bind (subAgg e11 0 2) fun p12 =>
        if (PV.isAgg p12 2) = true then
          Option.bind ((PV.cells p12)[0]?) fun c13 =>
          Option.bind (PV.asI .i64 c13) fun n14 =>
          cond (stop7 == n14) (
            Option.bind ((PV.cells p12)[1]?) fun c15 =>
            Option.bind (PV.asI .i64 c15) fun n16 =>
            some (Sum.inl n16)) (
            Option.bind ((PV.cells p12)[1]?) fun c17 =>
            Option.bind (PV.asI .i64 c17) fun n18 =>
            cond (stop7 == n18) (
              Option.bind ((PV.cells p12)[0]?) fun c19 =>
              Option.bind (PV.asI .i64 c19) fun n20 =>
              some (Sum.inl n20)) (
              aInstMate_tl2 n stop7 es8 i9 (IntKind.i64.wrap (i10 + (1 : Int)))))
        else none
      else none) (
      some (Sum.inr ()))
theorem aInstMate_twl2 {R : Type} (n : Nat) (stop7 : Int) (es8 : Rs) (i9 : Int) (i10 : Int) (k0 : Int → Option R) (k1 : Unit → Option R) : Tw (aInstMate_tl2 n stop7 es8 i9 i10) (aInstMate_l2 n stop7 es8 i9 i10 k0 k1) (fun s => match s with | (Sum.inl a0) => k0 a0 | (Sum.inr _) => k1 ()) := by
  induction n generalizing stop7 es8 i9 i10 with
  | zero => exact tw_none
  | succ n ih =>
    unfold aInstMate_tl2 aInstMate_l2
    refine tw_cond (fun _ => ?_) (fun _ => ?_)
    · refine tw_bind fun e11 _ => ?_
      refine tw_ite fun _ => ?_
      refine tw_bind fun p12 _ => ?_
      refine tw_ite fun _ => ?_
      refine tw_bind fun c13 _ => ?_
      refine tw_bind fun n14 _ => ?_
      refine tw_cond (fun _ => ?_) (fun _ => ?_)
      · refine tw_bind fun c15 _ => ?_
        refine tw_bind fun n16 _ => ?_
        exact tw_some rfl
      · refine tw_bind fun c17 _ => ?_
        refine tw_bind fun n18 _ => ?_
        refine tw_cond (fun _ => ?_) (fun _ => ?_)
        · refine tw_bind fun c19 _ => ?_
          refine tw_bind fun n20 _ => ?_
          exact tw_some rfl
        · exact ih _ _ _ _
    · exact tw_some rfl
def aInstMate_t (i1 : Rs) (i2 : Rs) (i3 : Rs) (i4 : Rs) (stop5 : Int) : Option (Int) :=
  Option.bind (aInstMate_tl2 9223372036854775808 stop5 i3 (i3.length : Int) 0) fun s => match s with
    | (Sum.inl i6) =>
      some i6
    | (Sum.inr _) =>
      some 0
theorem aInstMate_tw {R : Type} (i1 : Rs) (i2 : Rs) (i3 : Rs) (i4 : Rs) (stop5 : Int) (k : Int → Option R) : Tw (aInstMate_t i1 i2 i3 i4 stop5) (aInstMate_b 9223372036854775808 i1 i2 i3 i4 stop5 k) (fun s => match s with | a0 => k a0) := by
  unfold aInstMate_t aInstMate_b
  refine tw_call (aInstMate_twl2 _ _ _ _ _ _ _) (fun s => ?_)
  rcases s with i6 | ⟨⟩
  · exact tw_some rfl
  · exact tw_some rfl
theorem aInstMate_ok : ∀ (i1 : Rs) (i2 : Rs) (i3 : Rs) (i4 : Rs) (stop5 : Int) (y : Int), aInstMate_t i1 i2 i3 i4 stop5 = some y → ∃ n, ∀ (R : Type) (k : Int → Option R), aInstMate_b n i1 i2 i3 i4 stop5 k = k y := fun i1 i2 i3 i4 stop5 y h => ⟨9223372036854775808, fun R k => aInstMate_tw i1 i2 i3 i4 stop5 k y h⟩
def aInstMate_D : Cs → Option (Int)
  | [(PV.agg [(PV.fs i1), (PV.fs i2), (PV.fs i3), (PV.fs i4)]), (PV.int .i64 stop5)] => aInstMate_t i1 i2 i3 i4 stop5
  | _ => none
def aInstMate_Γ : List (Nat × Cal) := [(1000000002, ro_I)]
def aInstMate_C : Ctr := ⟨[none, none], Int, aInstMate_D, aInstMate_E, true, .d⟩
def aInstMate_cfg : List (Nat × LC) := [(2, ⟨[1, 8, 9, 10], [], [], [], []⟩),
  (2000002, ⟨[4], [], [], [], []⟩),
  (1002000, ⟨[], [], [], [], []⟩)]
def aInstMate_p2 : SP := ⟨sparse .undef [(1, (.val (.int .i64))), (8, (.val .fs)), (9, (.val (.int .i64))), (10, (.val (.int .i64)))] 0 28, [], []⟩
def aInstMate_pat : Nat → Option SP
  | 2 => some aInstMate_p2
  | _ => none
def aInstMate_patj : Nat → Option SP
  | _ => none
def aInstMate_L2 (n : Nat) (ls : List Leaf) (R : Type) (k : Ex → St → Option R) : Option R :=
  match ls with
  | [.int stop7, .rows es8, .int i9, .int i10] => aInstMate_l2 n stop7 es8 i9 i10 (fun y1021 => k .ret ⟨sparse .undef [(4, (TV.val (PV.int .i64 y1021)))] 0 28, [], []⟩)
      (fun _ => k (.exit 0) ⟨sparse .undef [] 0 28, [], []⟩)
  | _ => none
def aInstMate_L (n key : Nat) (ls : List Leaf) (R : Type) (k : Ex → St → Option R) : Option R :=
  match key with
  | 2 => aInstMate_L2 n ls R k
  | _ => none
def aInstMate_J (n key : Nat) (ls : List Leaf) (R : Type) (k : Ex → St → Option R) : Option R :=
  match key with
  | _ => none
def aInstMate_on : Code → Bool := fun _ => false
def aInstMate_Λ : Nat → Loops := patL (normBy aInstMate_cfg) aInstMate_pat aInstMate_L (normJ aInstMate_cfg) aInstMate_on aInstMate_patj aInstMate_J
theorem aInstMate_step2 (n : Nat) (stop7 : Int) (es8 : Rs) (i9 : Int) (i10 : Int)  (R : Type) (k : Ex → St → Option R) :
    roundK T G0 (ctrOf aInstMate_Γ) (normBy aInstMate_cfg) (aInstMate_Λ n) (codeAt [1, 0, 1, 0, 0] (bodyOf Tryz.f62)) (buildSt aInstMate_p2 [.int stop7, .rows es8, .int i9, .int i10]) R k = aInstMate_L2 (n + 1) [.int stop7, .rows es8, .int i9, .int i10] R k := by kernel_rfl
theorem aInstMate_eq (n : Nat) (i1 : Rs) (i2 : Rs) (i3 : Rs) (i4 : Rs) (stop5 : Int) :
    funK T G0 (ctrOf aInstMate_Γ) (aInstMate_Λ n) .d true [none, none] (funOf Tryz.f62) [(PV.agg [(PV.fs i1), (PV.fs i2), (PV.fs i3), (PV.fs i4)]), (PV.int .i64 stop5)] = aInstMate_b n  i1 i2 i3 i4 stop5 (fun a0 => some (aInstMate_E a0)) := by kernel_rfl
theorem aInstMate_inv {ps : Cs} {y : Int} (h : aInstMate_D ps = some y) : ∃ (i1 : Rs) (i2 : Rs) (i3 : Rs) (i4 : Rs) (stop5 : Int), ps = [(PV.agg [(PV.fs i1), (PV.fs i2), (PV.fs i3), (PV.fs i4)]), (PV.int .i64 stop5)] := by
  unfold aInstMate_D at h
  split at h
  · exact ⟨_, _, _, _, _, rfl⟩
  · cases h
theorem aInstMate_loops : loopsOf (bodyOf Tryz.f62) = [codeAt [1, 0, 1, 0, 0] (bodyOf Tryz.f62)] := by kernel_rfl
theorem aInstMate_holds (hΓ : HoldsAll Tryz.prog G0 aInstMate_Γ) (hok : ∀ (i1 : Rs) (i2 : Rs) (i3 : Rs) (i4 : Rs) (stop5 : Int) (y : Int), aInstMate_t i1 i2 i3 i4 stop5 = some y → ∃ n, ∀ (R : Type) (k : Int → Option R), aInstMate_b n  i1 i2 i3 i4 stop5 k = k y) : Holds Tryz.prog G0 62 aInstMate_C := by
  refine fun_pat mixed tOk (ctrOf_ok hΓ) Tryz.func62 rfl rfl rfl rfl (F := funOf Tryz.f62) (normBy_ok aInstMate_cfg) (pat := aInstMate_pat) (L := aInstMate_L) (normJ_ok aInstMate_cfg) (on := aInstMate_on) (patj := aInstMate_patj) (J := aInstMate_J) (fun c hc ls R k => ?_) (fun c hc p hp m ls R k r h => ?_) (fun c hc p hp m ls R k r h => ?_) (fun ps x h => ?_)
  · rw [show (funOf Tryz.f62).code = bodyOf Tryz.f62 from rfl, aInstMate_loops] at hc
    simp only [List.mem_cons, List.not_mem_nil, or_false] at hc
    rcases hc with rfl
    · show aInstMate_L2 0 ls R k = none
      unfold aInstMate_L2
      split
      · rfl
      · rfl
  · rw [show (funOf Tryz.f62).code = bodyOf Tryz.f62 from rfl, aInstMate_loops] at hc
    simp only [List.mem_cons, List.not_mem_nil, or_false] at hc
    rcases hc with rfl
    · obtain rfl : aInstMate_p2 = p := Option.some.inj hp
      change aInstMate_L2 (m + 1) ls R k = some r at h
      have h' := h
      unfold aInstMate_L2 at h'
      split at h'
      · exact (aInstMate_step2 m _ _ _ _ R k).trans h
      · cases h'
  · cases (List.mem_filter.1 hc).2
  · obtain ⟨y, hy, hx⟩ := bind_inv h
    cases hx
    obtain ⟨i1, i2, i3, i4, stop5, rfl⟩ := aInstMate_inv hy
    obtain ⟨n, hn⟩ := hok i1 i2 i3 i4 stop5 y hy
    exact ⟨n, (aInstMate_eq n i1 i2 i3 i4 stop5).trans (hn _ _)⟩

/-! ## drayman/seen.edit -/
def aSeenEdit_l13 {R : Type} : Nat → Rs → Int → Int → Rs → (Rs → Option R) → Option R
  | 0, _, _, _, _, _ => none
  | n + 1, es66, i67, i68, es69, k0 =>
    cond (decide (i68 < i67)) (
      Option.bind (idx es66 i68) fun e70 =>
      if e70.length = 3 then
        Option.bind (subAgg e70 0 3) fun p71 =>
        if (PV.isAgg p71 3) = true then
          Option.bind ((PV.cells p71)[0]?) fun c72 =>
          Option.bind (PV.asI .i64 c72) fun n73 =>
          if (es69.length + ([[(PV.int .i64 3), (PV.int .i64 n73)]] : Rs).length) * 16 ≤ maxBytes then
            aSeenEdit_l13 n es66 i67 (IntKind.i64.wrap (i68 + (1 : Int))) (es69 ++ [[(PV.int .i64 3), (PV.int .i64 n73)]]) k0
          else none
        else none
      else none) (
      k0 es69)
def aSeenEdit_l8 {R : Type} : Nat → Cs → Rs → Int → Int → Rs → (Cs → Rs → Option R) → Option R
  | 0, _, _, _, _, _, _ => none
  | n + 1, d57, es58, i59, i60, es61, k0 =>
    cond (decide (i60 < i59)) (
      Option.bind (idx es58 i60) fun e62 =>
      if e62.length = 3 then
        Option.bind (subAgg e62 0 3) fun p63 =>
        if (PV.isAgg p63 3) = true then
          Option.bind ((PV.cells p63)[0]?) fun c64 =>
          Option.bind (PV.asI .i64 c64) fun n65 =>
          if (es61.length + ([[(PV.int .i64 2), (PV.int .i64 n65)]] : Rs).length) * 16 ≤ maxBytes then
            aSeenEdit_l8 n d57 es58 i59 (IntKind.i64.wrap (i60 + (1 : Int))) (es61 ++ [[(PV.int .i64 2), (PV.int .i64 n65)]]) k0
          else none
        else none
      else none) (
      k0 d57 es61)
def aSeenEdit_l3jx01 {R : Type} (p25 : PV) (k0 : Cs → Option R) : Option R :=
  meet (
    none) (
    Option.bind ((PV.cells p25)[2]?) fun c31 =>
    Option.bind (PV.asFs c31) fun es32 =>
    none)
def aSeenEdit_l3jx02 {R : Type} (p25 : PV) (k0 : Cs → Option R) : Option R :=
  meet (
    none) (
    Option.bind ((PV.cells p25)[1]?) fun c35 =>
    Option.bind (PV.asFs c35) fun es36 =>
    none)
def aSeenEdit_l3 {R : Type} : Nat → Cs → Cs → Rs → Int → Int → (Cs → Option R) → Option R
  | 0, _, _, _, _, _, _ => none
  | n + 1, p19, d20, es21, i22, i23, k0 =>
    cond (decide (i23 < i22)) (
      Option.bind (idx es21 i23) fun e24 =>
      if e24.length = 3 then
        Option.bind (subAgg e24 0 3) fun p25 =>
        if (PV.isAgg p25 3) = true then
          Option.bind (subAgg p19 0 7) fun p26 =>
          meet (
            Option.bind ((PV.cells p25)[0]?) fun c27 =>
            Option.bind (PV.asI .i64 c27) fun n28 =>
            meet (
              none) (
              meet (
                Option.bind ((PV.cells p25)[1]?) fun c29 =>
                Option.bind (PV.asFs c29) fun es30 =>
                aSeenEdit_l3jx01 p25 k0) (
                Option.bind ((PV.cells p25)[2]?) fun c33 =>
                Option.bind (PV.asFs c33) fun es34 =>
                aSeenEdit_l3jx02 p25 k0))) (
            meet (
              Option.bind ((PV.cells p25)[1]?) fun c37 =>
              Option.bind (PV.asFs c37) fun es38 =>
              meet (
                Option.bind ((PV.cells p25)[0]?) fun c39 =>
                Option.bind (PV.asI .i64 c39) fun n40 =>
                aSeenEdit_l3jx01 p25 k0) (
                Option.bind ((PV.cells p25)[2]?) fun c43 =>
                Option.bind (PV.asFs c43) fun es44 =>
                Option.bind ((PV.cells p25)[0]?) fun c45 =>
                Option.bind (PV.asI .i64 c45) fun n46 =>
                none)) (
              Option.bind ((PV.cells p25)[2]?) fun c47 =>
              Option.bind (PV.asFs c47) fun es48 =>
              meet (
                Option.bind ((PV.cells p25)[0]?) fun c49 =>
                Option.bind (PV.asI .i64 c49) fun n50 =>
                aSeenEdit_l3jx02 p25 k0) (
                Option.bind ((PV.cells p25)[1]?) fun c53 =>
                Option.bind (PV.asFs c53) fun es54 =>
                Option.bind ((PV.cells p25)[0]?) fun c55 =>
                Option.bind (PV.asI .i64 c55) fun n56 =>
                none)))
        else none
      else none) (
      k0 d20)
def aSeenEdit_b {R : Type} (n : Nat) (p1 : Rs) (p2 : Rs) (p3 : Rs) (p4 : Rs) (p5 : Rs) (p6 : Rs) (p7 : Int) (d8 : Rs) (d9 : Rs) (d10 : Rs) (k : Rs → Option R) : Option R :=
  aSeenEdit_l3 n [(PV.fs p1), (PV.fs p2), (PV.fs p3), (PV.fs p4), (PV.fs p5), (PV.fs p6), (PV.int .i64 p7)] [(PV.fs d8), (PV.fs d9), (PV.fs d10)] d8 (d8.length : Int) 0
    (fun (d11 : Cs) =>
      Option.bind (d11[1]?) fun c12 =>
      Option.bind (PV.asFs c12) fun es13 =>
      aSeenEdit_l8 n d11 es13 (es13.length : Int) 0 []
        (fun (d14 : Cs) (es15 : Rs) =>
          Option.bind (d14[2]?) fun c16 =>
          Option.bind (PV.asFs c16) fun es17 =>
          aSeenEdit_l13 n es17 (es17.length : Int) 0 es15 k))
def aSeenEdit_E (y : Rs) : PV × Cs := ((PV.os y 2), [])
def aSeenEdit_tl13 : Nat → Rs → Int → Int → Rs → Option ((Rs))
  | 0, _, _, _, _ => none
  | n + 1, es66, i67, i68, es69 =>
    cond (decide (i68 < i67)) (
      Option.bind (idx es66 i68) fun e70 =>
      if e70.length = 3 then
        Option.bind (subAgg e70 0 3) fun p71 =>
        if (PV.isAgg p71 3) = true then
          Option.bind ((PV.cells p71)[0]?) fun c72 =>
          Option.bind (PV.asI .i64 c72) fun n73 =>
          if (es69.length + ([[(PV.int .i64 3), (PV.int .i64 n73)]] : Rs).length) * 16 ≤ maxBytes then
            aSeenEdit_tl13 n es66 i67 (IntKind.i64.wrap (i68 + (1 : Int))) (es69 ++ [[(PV.int .i64 3), (PV.int .i64 n73)]])
          else none
        else none
      else none) (
      some es69)
theorem aSeenEdit_twl13 {R : Type} (n : Nat) (es66 : Rs) (i67 : Int) (i68 : Int) (es69 : Rs) (k0 : Rs → Option R) : Tw (aSeenEdit_tl13 n es66 i67 i68 es69) (aSeenEdit_l13 n es66 i67 i68 es69 k0) (fun s => match s with | a0 => k0 a0) := by
  induction n generalizing es66 i67 i68 es69 with
  | zero => exact tw_none
  | succ n ih =>
    unfold aSeenEdit_tl13 aSeenEdit_l13
    refine tw_cond (fun _ => ?_) (fun _ => ?_)
    · refine tw_bind fun e70 _ => ?_
      refine tw_ite fun _ => ?_
      refine tw_bind fun p71 _ => ?_
      refine tw_ite fun _ => ?_
      refine tw_bind fun c72 _ => ?_
      refine tw_bind fun n73 _ => ?_
      refine tw_ite fun _ => ?_
      exact ih _ _ _ _
    · exact tw_some rfl
def aSeenEdit_tl8 : Nat → Cs → Rs → Int → Int → Rs → Option (((Cs) × Rs))
  | 0, _, _, _, _, _ => none
  | n + 1, d57, es58, i59, i60, es61 =>
    cond (decide (i60 < i59)) (
      Option.bind (idx es58 i60) fun e62 =>
      if e62.length = 3 then
        Option.bind (subAgg e62 0 3) fun p63 =>
        if (PV.isAgg p63 3) = true then
          Option.bind ((PV.cells p63)[0]?) fun c64 =>
          Option.bind (PV.asI .i64 c64) fun n65 =>
          if (es61.length + ([[(PV.int .i64 2), (PV.int .i64 n65)]] : Rs).length) * 16 ≤ maxBytes then
            aSeenEdit_tl8 n d57 es58 i59 (IntKind.i64.wrap (i60 + (1 : Int))) (es61 ++ [[(PV.int .i64 2), (PV.int .i64 n65)]])
          else none
        else none
      else none) (
      some (d57, es61))
theorem aSeenEdit_twl8 {R : Type} (n : Nat) (d57 : Cs) (es58 : Rs) (i59 : Int) (i60 : Int) (es61 : Rs) (k0 : Cs → Rs → Option R) : Tw (aSeenEdit_tl8 n d57 es58 i59 i60 es61) (aSeenEdit_l8 n d57 es58 i59 i60 es61 k0) (fun s => match s with | (a0, a1) => k0 a0 a1) := by
  induction n generalizing d57 es58 i59 i60 es61 with
  | zero => exact tw_none
  | succ n ih =>
    unfold aSeenEdit_tl8 aSeenEdit_l8
    refine tw_cond (fun _ => ?_) (fun _ => ?_)
    · refine tw_bind fun e62 _ => ?_
      refine tw_ite fun _ => ?_
      refine tw_bind fun p63 _ => ?_
      refine tw_ite fun _ => ?_
      refine tw_bind fun c64 _ => ?_
      refine tw_bind fun n65 _ => ?_
      refine tw_ite fun _ => ?_
      exact ih _ _ _ _ _
    · exact tw_some rfl
def aSeenEdit_tl3 : Nat → Cs → Cs → Rs → Int → Int → Option (((Cs)))
  | 0, _, _, _, _, _ => none
  | n + 1, p19, d20, es21, i22, i23 =>
    cond (decide (i23 < i22)) (
      Option.bind (idx es21 i23) fun e24 =>
      if e24.length = 3 then
        Option.bind (subAgg e24 0 3) fun p25 =>
        if (PV.isAgg p25 3) = true then
          Option.bind (subAgg p19 0 7) fun p26 =>
          Option.bind ((PV.cells p25)[0]?) fun c27 =>
          Option.bind (PV.asI .i64 c27) fun n28 =>
          none
        else none
      else none) (
      some d20)
theorem aSeenEdit_twl3 {R : Type} (n : Nat) (p19 : Cs) (d20 : Cs) (es21 : Rs) (i22 : Int) (i23 : Int) (k0 : Cs → Option R) : Tw (aSeenEdit_tl3 n p19 d20 es21 i22 i23) (aSeenEdit_l3 n p19 d20 es21 i22 i23 k0) (fun s => match s with | a0 => k0 a0) := by
  induction n generalizing p19 d20 es21 i22 i23 with
  | zero => exact tw_none
  | succ n ih =>
    unfold aSeenEdit_tl3 aSeenEdit_l3
    refine tw_cond (fun _ => ?_) (fun _ => ?_)
    · refine tw_bind fun e24 _ => ?_
      refine tw_ite fun _ => ?_
      refine tw_bind fun p25 _ => ?_
      refine tw_ite fun _ => ?_
      refine tw_bind fun p26 _ => ?_
      intro s hs
      obtain ⟨c27, h74, hs⟩ := bind_inv hs
      obtain ⟨n28, h75, hs⟩ := bind_inv hs
      cases hs
    · exact tw_some rfl
def aSeenEdit_t (p1 : Rs) (p2 : Rs) (p3 : Rs) (p4 : Rs) (p5 : Rs) (p6 : Rs) (p7 : Int) (d8 : Rs) (d9 : Rs) (d10 : Rs) : Option (Rs) :=
  Option.bind (aSeenEdit_tl3 9223372036854775808 [(PV.fs p1), (PV.fs p2), (PV.fs p3), (PV.fs p4), (PV.fs p5), (PV.fs p6), (PV.int .i64 p7)] [(PV.fs d8), (PV.fs d9), (PV.fs d10)] d8 (d8.length : Int) 0) fun s => match s with
    | d11 =>
      Option.bind (d11[1]?) fun c12 =>
      Option.bind (PV.asFs c12) fun es13 =>
      Option.bind (aSeenEdit_tl8 9223372036854775808 d11 es13 (es13.length : Int) 0 []) fun s => match s with
        | (d14, es15) =>
          Option.bind (d14[2]?) fun c16 =>
          Option.bind (PV.asFs c16) fun es17 =>
          Option.bind (aSeenEdit_tl13 9223372036854775808 es17 (es17.length : Int) 0 es15) fun s => match s with
            | es18 =>
              some es18
theorem aSeenEdit_tw {R : Type} (p1 : Rs) (p2 : Rs) (p3 : Rs) (p4 : Rs) (p5 : Rs) (p6 : Rs) (p7 : Int) (d8 : Rs) (d9 : Rs) (d10 : Rs) (k : Rs → Option R) : Tw (aSeenEdit_t p1 p2 p3 p4 p5 p6 p7 d8 d9 d10) (aSeenEdit_b 9223372036854775808 p1 p2 p3 p4 p5 p6 p7 d8 d9 d10 k) (fun s => match s with | a0 => k a0) := by
  unfold aSeenEdit_t aSeenEdit_b
  refine tw_call (aSeenEdit_twl3 _ _ _ _ _ _ _) (fun s => ?_)
  rcases s with d11
  · refine tw_bind fun c12 _ => ?_
    refine tw_bind fun es13 _ => ?_
    refine tw_call (aSeenEdit_twl8 _ _ _ _ _ _ _) (fun s => ?_)
    rcases s with ⟨d14, es15⟩
    · refine tw_bind fun c16 _ => ?_
      refine tw_bind fun es17 _ => ?_
      refine tw_call (aSeenEdit_twl13 _ _ _ _ _ _) (fun s => ?_)
      rcases s with es18
      · exact tw_some rfl
theorem aSeenEdit_ok : ∀ (p1 : Rs) (p2 : Rs) (p3 : Rs) (p4 : Rs) (p5 : Rs) (p6 : Rs) (p7 : Int) (d8 : Rs) (d9 : Rs) (d10 : Rs) (y : Rs), aSeenEdit_t p1 p2 p3 p4 p5 p6 p7 d8 d9 d10 = some y → ∃ n, ∀ (R : Type) (k : Rs → Option R), aSeenEdit_b n p1 p2 p3 p4 p5 p6 p7 d8 d9 d10 k = k y := fun p1 p2 p3 p4 p5 p6 p7 d8 d9 d10 y h => ⟨9223372036854775808, fun R k => aSeenEdit_tw p1 p2 p3 p4 p5 p6 p7 d8 d9 d10 k y h⟩
def aSeenEdit_D : Cs → Option (Rs)
  | [(PV.agg [(PV.fs p1), (PV.fs p2), (PV.fs p3), (PV.fs p4), (PV.fs p5), (PV.fs p6), (PV.int .i64 p7)]), (PV.agg [(PV.fs d8), (PV.fs d9), (PV.fs d10)])] => aSeenEdit_t p1 p2 p3 p4 p5 p6 p7 d8 d9 d10
  | _ => none
def aSeenEdit_Γ : List (Nat × Cal) := [(1000000002, ro_I), (1000000003, ro_I)]
def aSeenEdit_C : Ctr := ⟨[none, none], Rs, aSeenEdit_D, aSeenEdit_E, false, .s⟩
def aSeenEdit_cfg : List (Nat × LC) := [(3, ⟨[2, 3, 5, 13, 14, 15], [], [], [], [2, 3]⟩),
  (1003000, ⟨[3, 5], [], [], [], []⟩),
  (8, ⟨[3, 5, 34, 35, 36], [5], [], [], []⟩),
  (1008002, ⟨[3, 5], [], [], [], []⟩),
  (13, ⟨[5, 48, 49, 50], [], [], [], []⟩),
  (1013004, ⟨[5], [], [], [], []⟩)]
def aSeenEdit_p13 : SP := ⟨sparse .undef [(5, (.ow 0)), (48, (.val .fs)), (49, (.val (.int .i64))), (50, (.val (.int .i64)))] 0 62, [(.row 2)], []⟩
def aSeenEdit_p8 : SP := ⟨sparse .undef [(3, (.val (.rp 0))), (5, (.ow 0)), (34, (.val .fs)), (35, (.val (.int .i64))), (36, (.val (.int .i64)))] 0 62, [(.row 2)], []⟩
def aSeenEdit_p3 : SP := ⟨sparse .undef [(2, (.val (.rp 0))), (3, (.val (.rp 0))), (5, (.nil 2)), (13, (.val .fs)), (14, (.val (.int .i64))), (15, (.val (.int .i64)))] 0 62, [], []⟩
def aSeenEdit_pat : Nat → Option SP
  | 13 => some aSeenEdit_p13
  | 8 => some aSeenEdit_p8
  | 3 => some aSeenEdit_p3
  | _ => none
def aSeenEdit_patj : Nat → Option SP
  | _ => none
def aSeenEdit_L13 (n : Nat) (ls : List Leaf) (R : Type) (k : Ex → St → Option R) : Option R :=
  match ls with
  | [.rows es66, .int i67, .int i68, .rows es69] => aSeenEdit_l13 n es66 i67 i68 es69 (fun y1078 => k (.exit 4) ⟨sparse .undef [(5, (TV.ow 0))] 0 62, [(Ob.row y1078 2)], []⟩)
  | _ => none
def aSeenEdit_L8 (n : Nat) (ls : List Leaf) (R : Type) (k : Ex → St → Option R) : Option R :=
  match ls with
  | [.cells d57, .rows es58, .int i59, .int i60, .rows es61] => aSeenEdit_l8 n d57 es58 i59 i60 es61 (fun y2079 y2080 => k (.exit 2) ⟨sparse .undef [(3, (TV.val (PV.rp y2079 0))), (5, (TV.ow 0))] 0 62, [(Ob.row y2080 2)], []⟩)
  | _ => none
def aSeenEdit_L3 (n : Nat) (ls : List Leaf) (R : Type) (k : Ex → St → Option R) : Option R :=
  match ls with
  | [.cells p19, .cells d20, .rows es21, .int i22, .int i23] => aSeenEdit_l3 n p19 d20 es21 i22 i23 (fun y3081 => k (.exit 0) ⟨sparse .undef [(3, (TV.val (PV.rp y3081 0))), (5, (TV.nil 2))] 0 62, [], []⟩)
  | _ => none
def aSeenEdit_L (n key : Nat) (ls : List Leaf) (R : Type) (k : Ex → St → Option R) : Option R :=
  match key with
  | 13 => aSeenEdit_L13 n ls R k
  | 8 => aSeenEdit_L8 n ls R k
  | 3 => aSeenEdit_L3 n ls R k
  | _ => none
def aSeenEdit_J (n key : Nat) (ls : List Leaf) (R : Type) (k : Ex → St → Option R) : Option R :=
  match key with
  | _ => none
def aSeenEdit_on : Code → Bool := fun _ => false
def aSeenEdit_Λ : Nat → Loops := patL (normBy aSeenEdit_cfg) aSeenEdit_pat aSeenEdit_L (normJ aSeenEdit_cfg) aSeenEdit_on aSeenEdit_patj aSeenEdit_J
theorem aSeenEdit_step3 (n : Nat) (p19 : Cs) (d20 : Cs) (es21 : Rs) (i22 : Int) (i23 : Int)  (R : Type) (k : Ex → St → Option R) :
    roundK T G0 (ctrOf aSeenEdit_Γ) (normBy aSeenEdit_cfg) (aSeenEdit_Λ n) (codeAt [1, 1, 0, 1, 0, 0] (bodyOf Tryz.f67)) (buildSt aSeenEdit_p3 [.cells p19, .cells d20, .rows es21, .int i22, .int i23]) R k = aSeenEdit_L3 (n + 1) [.cells p19, .cells d20, .rows es21, .int i22, .int i23] R k := by kernel_rfl
theorem aSeenEdit_step8 (n : Nat) (d57 : Cs) (es58 : Rs) (i59 : Int) (i60 : Int) (es61 : Rs)  (R : Type) (k : Ex → St → Option R) :
    roundK T G0 (ctrOf aSeenEdit_Γ) (normBy aSeenEdit_cfg) (aSeenEdit_Λ n) (codeAt [1, 1, 1, 0, 1, 0, 0] (bodyOf Tryz.f67)) (buildSt aSeenEdit_p8 [.cells d57, .rows es58, .int i59, .int i60, .rows es61]) R k = aSeenEdit_L8 (n + 1) [.cells d57, .rows es58, .int i59, .int i60, .rows es61] R k := by kernel_rfl
theorem aSeenEdit_step13 (n : Nat) (es66 : Rs) (i67 : Int) (i68 : Int) (es69 : Rs)  (R : Type) (k : Ex → St → Option R) :
    roundK T G0 (ctrOf aSeenEdit_Γ) (normBy aSeenEdit_cfg) (aSeenEdit_Λ n) (codeAt [1, 1, 1, 1, 0, 1, 0, 0] (bodyOf Tryz.f67)) (buildSt aSeenEdit_p13 [.rows es66, .int i67, .int i68, .rows es69]) R k = aSeenEdit_L13 (n + 1) [.rows es66, .int i67, .int i68, .rows es69] R k := by kernel_rfl
theorem aSeenEdit_eq (n : Nat) (p1 : Rs) (p2 : Rs) (p3 : Rs) (p4 : Rs) (p5 : Rs) (p6 : Rs) (p7 : Int) (d8 : Rs) (d9 : Rs) (d10 : Rs) :
    funK T G0 (ctrOf aSeenEdit_Γ) (aSeenEdit_Λ n) .s false [none, none] (funOf Tryz.f67) [(PV.agg [(PV.fs p1), (PV.fs p2), (PV.fs p3), (PV.fs p4), (PV.fs p5), (PV.fs p6), (PV.int .i64 p7)]), (PV.agg [(PV.fs d8), (PV.fs d9), (PV.fs d10)])] = aSeenEdit_b n  p1 p2 p3 p4 p5 p6 p7 d8 d9 d10 (fun a0 => some (aSeenEdit_E a0)) := by kernel_rfl
theorem aSeenEdit_inv {ps : Cs} {y : Rs} (h : aSeenEdit_D ps = some y) : ∃ (p1 : Rs) (p2 : Rs) (p3 : Rs) (p4 : Rs) (p5 : Rs) (p6 : Rs) (p7 : Int) (d8 : Rs) (d9 : Rs) (d10 : Rs), ps = [(PV.agg [(PV.fs p1), (PV.fs p2), (PV.fs p3), (PV.fs p4), (PV.fs p5), (PV.fs p6), (PV.int .i64 p7)]), (PV.agg [(PV.fs d8), (PV.fs d9), (PV.fs d10)])] := by
  unfold aSeenEdit_D at h
  split at h
  · exact ⟨_, _, _, _, _, _, _, _, _, _, rfl⟩
  · cases h
theorem aSeenEdit_loops : loopsOf (bodyOf Tryz.f67) = [codeAt [1, 1, 0, 1, 0, 0] (bodyOf Tryz.f67), codeAt [1, 1, 1, 0, 1, 0, 0] (bodyOf Tryz.f67), codeAt [1, 1, 1, 1, 0, 1, 0, 0] (bodyOf Tryz.f67)] := by kernel_rfl
theorem aSeenEdit_holds (hΓ : HoldsAll Tryz.prog G0 aSeenEdit_Γ) (hok : ∀ (p1 : Rs) (p2 : Rs) (p3 : Rs) (p4 : Rs) (p5 : Rs) (p6 : Rs) (p7 : Int) (d8 : Rs) (d9 : Rs) (d10 : Rs) (y : Rs), aSeenEdit_t p1 p2 p3 p4 p5 p6 p7 d8 d9 d10 = some y → ∃ n, ∀ (R : Type) (k : Rs → Option R), aSeenEdit_b n  p1 p2 p3 p4 p5 p6 p7 d8 d9 d10 k = k y) : Holds Tryz.prog G0 67 aSeenEdit_C := by
  refine fun_pat mixed tOk (ctrOf_ok hΓ) Tryz.func67 rfl rfl rfl rfl (F := funOf Tryz.f67) (normBy_ok aSeenEdit_cfg) (pat := aSeenEdit_pat) (L := aSeenEdit_L) (normJ_ok aSeenEdit_cfg) (on := aSeenEdit_on) (patj := aSeenEdit_patj) (J := aSeenEdit_J) (fun c hc ls R k => ?_) (fun c hc p hp m ls R k r h => ?_) (fun c hc p hp m ls R k r h => ?_) (fun ps x h => ?_)
  · rw [show (funOf Tryz.f67).code = bodyOf Tryz.f67 from rfl, aSeenEdit_loops] at hc
    simp only [List.mem_cons, List.not_mem_nil, or_false] at hc
    rcases hc with rfl | rfl | rfl
    · show aSeenEdit_L3 0 ls R k = none
      unfold aSeenEdit_L3
      split
      · rfl
      · rfl
    · show aSeenEdit_L8 0 ls R k = none
      unfold aSeenEdit_L8
      split
      · rfl
      · rfl
    · show aSeenEdit_L13 0 ls R k = none
      unfold aSeenEdit_L13
      split
      · rfl
      · rfl
  · rw [show (funOf Tryz.f67).code = bodyOf Tryz.f67 from rfl, aSeenEdit_loops] at hc
    simp only [List.mem_cons, List.not_mem_nil, or_false] at hc
    rcases hc with rfl | rfl | rfl
    · obtain rfl : aSeenEdit_p3 = p := Option.some.inj hp
      change aSeenEdit_L3 (m + 1) ls R k = some r at h
      have h' := h
      unfold aSeenEdit_L3 at h'
      split at h'
      · exact (aSeenEdit_step3 m _ _ _ _ _ R k).trans h
      · cases h'
    · obtain rfl : aSeenEdit_p8 = p := Option.some.inj hp
      change aSeenEdit_L8 (m + 1) ls R k = some r at h
      have h' := h
      unfold aSeenEdit_L8 at h'
      split at h'
      · exact (aSeenEdit_step8 m _ _ _ _ _ R k).trans h
      · cases h'
    · obtain rfl : aSeenEdit_p13 = p := Option.some.inj hp
      change aSeenEdit_L13 (m + 1) ls R k = some r at h
      have h' := h
      unfold aSeenEdit_L13 at h'
      split at h'
      · exact (aSeenEdit_step13 m _ _ _ _ R k).trans h
      · cases h'
  · cases (List.mem_filter.1 hc).2
  · obtain ⟨y, hy, hx⟩ := bind_inv h
    cases hx
    obtain ⟨p1, p2, p3, p4, p5, p6, p7, d8, d9, d10, rfl⟩ := aSeenEdit_inv hy
    obtain ⟨n, hn⟩ := hok p1 p2 p3 p4 p5 p6 p7 d8 d9 d10 y hy
    exact ⟨n, (aSeenEdit_eq n p1 p2 p3 p4 p5 p6 p7 d8 d9 d10).trans (hn _ _)⟩

end
end Go.Proofs.YtpaifgipdhgfkaaGreatDoorV
