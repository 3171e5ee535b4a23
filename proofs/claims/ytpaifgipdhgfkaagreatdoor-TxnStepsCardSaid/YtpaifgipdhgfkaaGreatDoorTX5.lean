/- What the functions of the program come to, as the reading machine has it: printed by auto.py. -/
import Derived.Test.YtpaifgipdhgfkaaGreatDoorVTab
import Derived.Test.YtpaifgipdhgfkaaGreatDoorAS
import Derived.Test.YtpaifgipdhgfkaaGreatDoorDL
import Derived.Test.YtpaifgipdhgfkaaGreatDoorTX4
namespace Go.Proofs.YtpaifgipdhgfkaaGreatDoorV
open Go
set_option maxRecDepth 100000
set_option linter.unusedVariables false
set_option linter.unusedSimpArgs false
noncomputable section
/-! ## drayman/draymanlaw18.wakes -/
def aW18Wakes_l9 {R : Type} : Nat → Cs → Cs → Int → Rs → Rs → Rs → Rs → Int → Int → Int → Int → Int → Int → Int → Int → Int → Int → Int → PV → Rs → Rs → Rs → Rs → Rs → Rs → Int → PV → Rs → Rs → Rs → ByteArray → Bool → Rs → Rs → Rs → Rs → Rs → Rs → Int → (Bool → Option R) → (Cs → Cs → Rs → Rs → Rs → Rs → Int → Int → Int → Int → Int → Int → Int → Int → Int → Int → Int → PV → Rs → Rs → Rs → Rs → Rs → Rs → Int → PV → Rs → Rs → Rs → ByteArray → Bool → Rs → Rs → Rs → Rs → Rs → Rs → Int → Option R) → Option R
  | 0, _, _, _, _, _, _, _, _, _, _, _, _, _, _, _, _, _, _, _, _, _, _, _, _, _, _, _, _, _, _, _, _, _, _, _, _, _, _, _, _, _ => none
  | n + 1, u48, r49, k50, es51, es52, es53, es54, i55, i56, i57, i58, i59, i60, i61, i62, i63, i64, i65, p66, es67, es68, es69, es70, es71, es72, i73, p74, es75, es76, es77, s78, b79, es80, es81, es82, es83, es84, es85, i86, k0, k1 =>
    cond (decide (k50 < (2 : Int))) (
      Option.bind (aTxnTxnStep_D [(PV.obj [(PV.fs es51), (PV.fs es52), (PV.fs es53), (PV.fs es54), (PV.int .i64 i55), (PV.int .i64 i56), (PV.int .i64 i57), (PV.int .i64 i58), (PV.int .i64 i59), (PV.int .i64 i60), (PV.int .i64 i61), (PV.int .i64 i62), (PV.int .i64 i63), (PV.int .i64 i64), (PV.int .i64 i65), p66, (PV.fs es67), (PV.fs es68), (PV.fs es69), (PV.fs es70), (PV.fs es71), (PV.fs es72), (PV.int .i64 i73), p74, (PV.fs es75), (PV.fs es76), (PV.fs es77), (PV.str s78), (PV.bool b79)]), (PV.agg [(PV.fs es80), (PV.fs es81), (PV.fs es82), (PV.fs es83), (PV.fs es84), (PV.fs es85), (PV.int .i64 i86)]), (PV.rp u48 0), (PV.rp r49 0)]) fun y87 =>
      cond y87.2.2.2.2.1 (
        k0 false) (
        aW18Wakes_l9 n u48 r49 (IntKind.i64.wrap (k50 + (1 : Int))) y87.2.2.2.2.2.1 y87.2.2.2.2.2.2.1 y87.2.2.2.2.2.2.2.1 y87.2.2.2.2.2.2.2.2.1 y87.2.2.2.2.2.2.2.2.2.1 y87.2.2.2.2.2.2.2.2.2.2.1 y87.2.2.2.2.2.2.2.2.2.2.2.1 y87.2.2.2.2.2.2.2.2.2.2.2.2.1 y87.2.2.2.2.2.2.2.2.2.2.2.2.2.1 y87.2.2.2.2.2.2.2.2.2.2.2.2.2.2.1 y87.2.2.2.2.2.2.2.2.2.2.2.2.2.2.2.1 y87.2.2.2.2.2.2.2.2.2.2.2.2.2.2.2.2.1 y87.2.2.2.2.2.2.2.2.2.2.2.2.2.2.2.2.2.1 y87.2.2.2.2.2.2.2.2.2.2.2.2.2.2.2.2.2.2.1 y87.2.2.2.2.2.2.2.2.2.2.2.2.2.2.2.2.2.2.2.1 y87.2.2.2.2.2.2.2.2.2.2.2.2.2.2.2.2.2.2.2.2.1 y87.2.2.2.2.2.2.2.2.2.2.2.2.2.2.2.2.2.2.2.2.2.1 y87.2.2.2.2.2.2.2.2.2.2.2.2.2.2.2.2.2.2.2.2.2.2.1 y87.2.2.2.2.2.2.2.2.2.2.2.2.2.2.2.2.2.2.2.2.2.2.2.1 y87.2.2.2.2.2.2.2.2.2.2.2.2.2.2.2.2.2.2.2.2.2.2.2.2.1 y87.2.2.2.2.2.2.2.2.2.2.2.2.2.2.2.2.2.2.2.2.2.2.2.2.2.1 y87.2.2.2.2.2.2.2.2.2.2.2.2.2.2.2.2.2.2.2.2.2.2.2.2.2.2.1 y87.2.2.2.2.2.2.2.2.2.2.2.2.2.2.2.2.2.2.2.2.2.2.2.2.2.2.2.1 y87.2.2.2.2.2.2.2.2.2.2.2.2.2.2.2.2.2.2.2.2.2.2.2.2.2.2.2.2.1 y87.2.2.2.2.2.2.2.2.2.2.2.2.2.2.2.2.2.2.2.2.2.2.2.2.2.2.2.2.2.1 y87.2.2.2.2.2.2.2.2.2.2.2.2.2.2.2.2.2.2.2.2.2.2.2.2.2.2.2.2.2.2.1 y87.2.2.2.2.2.2.2.2.2.2.2.2.2.2.2.2.2.2.2.2.2.2.2.2.2.2.2.2.2.2.2.1 y87.2.2.2.2.2.2.2.2.2.2.2.2.2.2.2.2.2.2.2.2.2.2.2.2.2.2.2.2.2.2.2.2.1 y87.2.2.2.2.2.2.2.2.2.2.2.2.2.2.2.2.2.2.2.2.2.2.2.2.2.2.2.2.2.2.2.2.2 es80 es81 es82 es83 es84 es85 i86 k0 k1)) (
      k1 u48 r49 es51 es52 es53 es54 i55 i56 i57 i58 i59 i60 i61 i62 i63 i64 i65 p66 es67 es68 es69 es70 es71 es72 i73 p74 es75 es76 es77 s78 b79 es80 es81 es82 es83 es84 es85 i86)
def aW18Wakes_b {R : Type} (n : Nat) (k : Bool → Option R) : Option R :=
  Option.bind (aPInst_t []) fun y1 =>
  Option.bind (aTxnNew_d y1.1 y1.2.1 y1.2.2.1 y1.2.2.2 0 9 0 0 0 (-1) 0 0 (-1)) fun y2 =>
  Option.bind (aStackNew_d) fun y3 =>
  Option.bind (aStackNew_d) fun y4 =>
  Option.bind (aTxnTxnAttempt_d y2.1 y2.2.1 y2.2.2.1 y2.2.2.2.1 y2.2.2.2.2.1 y2.2.2.2.2.2.1 y2.2.2.2.2.2.2.1 y2.2.2.2.2.2.2.2.1 y2.2.2.2.2.2.2.2.2.1 y2.2.2.2.2.2.2.2.2.2.1 y2.2.2.2.2.2.2.2.2.2.2.1 y2.2.2.2.2.2.2.2.2.2.2.2.1 y2.2.2.2.2.2.2.2.2.2.2.2.2.1 y2.2.2.2.2.2.2.2.2.2.2.2.2.2.1 y2.2.2.2.2.2.2.2.2.2.2.2.2.2.2.1 PV.mnil y2.2.2.2.2.2.2.2.2.2.2.2.2.2.2.2.1 y2.2.2.2.2.2.2.2.2.2.2.2.2.2.2.2.2.1 y2.2.2.2.2.2.2.2.2.2.2.2.2.2.2.2.2.2.1 y2.2.2.2.2.2.2.2.2.2.2.2.2.2.2.2.2.2.2.1 y2.2.2.2.2.2.2.2.2.2.2.2.2.2.2.2.2.2.2.2.1 y2.2.2.2.2.2.2.2.2.2.2.2.2.2.2.2.2.2.2.2.2.1 y2.2.2.2.2.2.2.2.2.2.2.2.2.2.2.2.2.2.2.2.2.2.1 PV.pnil y2.2.2.2.2.2.2.2.2.2.2.2.2.2.2.2.2.2.2.2.2.2.2.1 y2.2.2.2.2.2.2.2.2.2.2.2.2.2.2.2.2.2.2.2.2.2.2.2.1 y2.2.2.2.2.2.2.2.2.2.2.2.2.2.2.2.2.2.2.2.2.2.2.2.2.1 y2.2.2.2.2.2.2.2.2.2.2.2.2.2.2.2.2.2.2.2.2.2.2.2.2.2.1 y2.2.2.2.2.2.2.2.2.2.2.2.2.2.2.2.2.2.2.2.2.2.2.2.2.2.2) fun y5 =>
  cond (y5.1 != (1 : Int)) (
    k false) (
    Option.bind (aTxnSteps_d 9 0 0 0 (-1) 0 0 (-1)) fun y6 =>
    cond (y6 != (3 : Int)) (
      k false) (
      Option.bind (aRNewPlan_t y1.1 y1.2.1 y1.2.2.1 y1.2.2.2) fun y7 =>
      aW18Wakes_l9 n y3 y4 0 y5.2.1 y5.2.2.1 y5.2.2.2.1 y5.2.2.2.2.1 y5.2.2.2.2.2.1 y5.2.2.2.2.2.2.1 y5.2.2.2.2.2.2.2.1 y5.2.2.2.2.2.2.2.2.1 y5.2.2.2.2.2.2.2.2.2.1 y5.2.2.2.2.2.2.2.2.2.2.1 y5.2.2.2.2.2.2.2.2.2.2.2.1 y5.2.2.2.2.2.2.2.2.2.2.2.2.1 y5.2.2.2.2.2.2.2.2.2.2.2.2.2.1 y5.2.2.2.2.2.2.2.2.2.2.2.2.2.2.1 y5.2.2.2.2.2.2.2.2.2.2.2.2.2.2.2.1 y5.2.2.2.2.2.2.2.2.2.2.2.2.2.2.2.2.1 y5.2.2.2.2.2.2.2.2.2.2.2.2.2.2.2.2.2.1 y5.2.2.2.2.2.2.2.2.2.2.2.2.2.2.2.2.2.2.1 y5.2.2.2.2.2.2.2.2.2.2.2.2.2.2.2.2.2.2.2.1 y5.2.2.2.2.2.2.2.2.2.2.2.2.2.2.2.2.2.2.2.2.1 y5.2.2.2.2.2.2.2.2.2.2.2.2.2.2.2.2.2.2.2.2.2.1 y5.2.2.2.2.2.2.2.2.2.2.2.2.2.2.2.2.2.2.2.2.2.2.1 y5.2.2.2.2.2.2.2.2.2.2.2.2.2.2.2.2.2.2.2.2.2.2.2.1 y5.2.2.2.2.2.2.2.2.2.2.2.2.2.2.2.2.2.2.2.2.2.2.2.2.1 y5.2.2.2.2.2.2.2.2.2.2.2.2.2.2.2.2.2.2.2.2.2.2.2.2.2.1 y5.2.2.2.2.2.2.2.2.2.2.2.2.2.2.2.2.2.2.2.2.2.2.2.2.2.2.1 y5.2.2.2.2.2.2.2.2.2.2.2.2.2.2.2.2.2.2.2.2.2.2.2.2.2.2.2.1 y5.2.2.2.2.2.2.2.2.2.2.2.2.2.2.2.2.2.2.2.2.2.2.2.2.2.2.2.2.1 y5.2.2.2.2.2.2.2.2.2.2.2.2.2.2.2.2.2.2.2.2.2.2.2.2.2.2.2.2.2 y7.1 y7.2.1 y7.2.2.1 y7.2.2.2.1 y7.2.2.2.2.1 y7.2.2.2.2.2.1 y7.2.2.2.2.2.2 k
        (fun (u9 : Cs) (r10 : Cs) (es11 : Rs) (es12 : Rs) (es13 : Rs) (es14 : Rs) (i15 : Int) (i16 : Int) (i17 : Int) (i18 : Int) (i19 : Int) (i20 : Int) (i21 : Int) (i22 : Int) (i23 : Int) (i24 : Int) (i25 : Int) (p26 : PV) (es27 : Rs) (es28 : Rs) (es29 : Rs) (es30 : Rs) (es31 : Rs) (es32 : Rs) (i33 : Int) (p34 : PV) (es35 : Rs) (es36 : Rs) (es37 : Rs) (s38 : ByteArray) (b39 : Bool) (es40 : Rs) (es41 : Rs) (es42 : Rs) (es43 : Rs) (es44 : Rs) (es45 : Rs) (i46 : Int) =>
          Option.bind (aTxnTxnStep_D [(PV.obj [(PV.fs es11), (PV.fs es12), (PV.fs es13), (PV.fs es14), (PV.int .i64 i15), (PV.int .i64 i16), (PV.int .i64 i17), (PV.int .i64 i18), (PV.int .i64 i19), (PV.int .i64 i20), (PV.int .i64 i21), (PV.int .i64 i22), (PV.int .i64 i23), (PV.int .i64 i24), (PV.int .i64 i25), p26, (PV.fs es27), (PV.fs es28), (PV.fs es29), (PV.fs es30), (PV.fs es31), (PV.fs es32), (PV.int .i64 i33), p34, (PV.fs es35), (PV.fs es36), (PV.fs es37), (PV.str s38), (PV.bool b39)]), (PV.agg [(PV.fs es40), (PV.fs es41), (PV.fs es42), (PV.fs es43), (PV.fs es44), (PV.fs es45), (PV.int .i64 i46)]), (PV.rp u9 0), (PV.rp r10 0)]) fun y47 =>
          cond y47.2.2.2.2.1 (
            k (ByteArray.toList y47.2.2.2.1 == ByteArray.toList (ByteArray.mk #[110, 111, 32, 110, 111, 110, 101]))) (
            k false))))
def aW18Wakes_E (y : Bool) : PV × Cs := ((PV.bool y), [])
def aW18Wakes_tl9 : Nat → Cs → Cs → Int → Rs → Rs → Rs → Rs → Int → Int → Int → Int → Int → Int → Int → Int → Int → Int → Int → PV → Rs → Rs → Rs → Rs → Rs → Rs → Int → PV → Rs → Rs → Rs → ByteArray → Bool → Rs → Rs → Rs → Rs → Rs → Rs → Int → Option ((Bool) ⊕ ((Cs) × (Cs) × Rs × Rs × Rs × Rs × Int × Int × Int × Int × Int × Int × Int × Int × Int × Int × Int × PV × Rs × Rs × Rs × Rs × Rs × Rs × Int × PV × Rs × Rs × Rs × ByteArray × Bool × Rs × Rs × Rs × Rs × Rs × Rs × Int))
  | 0, _, _, _, _, _, _, _, _, _, _, _, _, _, _, _, _, _, _, _, _, _, _, _, _, _, _, _, _, _, _, _, _, _, _, _, _, _, _, _ => none
  | n + 1, u48, r49, k50, es51, es52, es53, es54, i55, i56, i57, i58, i59, i60, i61, i62, i63, i64, i65, p66, es67, es68, es69, es70, es71, es72, i73, p74, es75, es76, es77, s78, b79, es80, es81, es82, es83, es84, es85, i86 =>
    cond (decide (k50 < (2 : Int))) (
      Option.bind (aTxnTxnStep_D [(PV.obj [(PV.fs es51), (PV.fs es52), (PV.fs es53), (PV.fs es54), (PV.int .i64 i55), (PV.int .i64 i56), (PV.int .i64 i57), (PV.int .i64 i58), (PV.int .i64 i59), (PV.int .i64 i60), (PV.int .i64 i61), (PV.int .i64 i62), (PV.int .i64 i63), (PV.int .i64 i64), (PV.int .i64 i65), p66, (PV.fs es67), (PV.fs es68), (PV.fs es69), (PV.fs es70), (PV.fs es71), (PV.fs es72), (PV.int .i64 i73), p74, (PV.fs es75), (PV.fs es76), (PV.fs es77), (PV.str s78), (PV.bool b79)]), (PV.agg [(PV.fs es80), (PV.fs es81), (PV.fs es82), (PV.fs es83), (PV.fs es84), (PV.fs es85), (PV.int .i64 i86)]), (PV.rp u48 0), (PV.rp r49 0)]) fun y87 =>
      cond y87.2.2.2.2.1 (
        some (Sum.inl false)) (
        aW18Wakes_tl9 n u48 r49 (IntKind.i64.wrap (k50 + (1 : Int))) y87.2.2.2.2.2.1 y87.2.2.2.2.2.2.1 y87.2.2.2.2.2.2.2.1 y87.2.2.2.2.2.2.2.2.1 y87.2.2.2.2.2.2.2.2.2.1 y87.2.2.2.2.2.2.2.2.2.2.1 y87.2.2.2.2.2.2.2.2.2.2.2.1 y87.2.2.2.2.2.2.2.2.2.2.2.2.1 y87.2.2.2.2.2.2.2.2.2.2.2.2.2.1 y87.2.2.2.2.2.2.2.2.2.2.2.2.2.2.1 y87.2.2.2.2.2.2.2.2.2.2.2.2.2.2.2.1 y87.2.2.2.2.2.2.2.2.2.2.2.2.2.2.2.2.1 y87.2.2.2.2.2.2.2.2.2.2.2.2.2.2.2.2.2.1 y87.2.2.2.2.2.2.2.2.2.2.2.2.2.2.2.2.2.2.1 y87.2.2.2.2.2.2.2.2.2.2.2.2.2.2.2.2.2.2.2.1 y87.2.2.2.2.2.2.2.2.2.2.2.2.2.2.2.2.2.2.2.2.1 y87.2.2.2.2.2.2.2.2.2.2.2.2.2.2.2.2.2.2.2.2.2.1 y87.2.2.2.2.2.2.2.2.2.2.2.2.2.2.2.2.2.2.2.2.2.2.1 y87.2.2.2.2.2.2.2.2.2.2.2.2.2.2.2.2.2.2.2.2.2.2.2.1 y87.2.2.2.2.2.2.2.2.2.2.2.2.2.2.2.2.2.2.2.2.2.2.2.2.1 y87.2.2.2.2.2.2.2.2.2.2.2.2.2.2.2.2.2.2.2.2.2.2.2.2.2.1 y87.2.2.2.2.2.2.2.2.2.2.2.2.2.2.2.2.2.2.2.2.2.2.2.2.2.2.1 y87.2.2.2.2.2.2.2.2.2.2.2.2.2.2.2.2.2.2.2.2.2.2.2.2.2.2.2.1 y87.2.2.2.2.2.2.2.2.2.2.2.2.2.2.2.2.2.2.2.2.2.2.2.2.2.2.2.2.1 y87.2.2.2.2.2.2.2.2.2.2.2.2.2.2.2.2.2.2.2.2.2.2.2.2.2.2.2.2.2.1 y87.2.2.2.2.2.2.2.2.2.2.2.2.2.2.2.2.2.2.2.2.2.2.2.2.2.2.2.2.2.2.1 y87.2.2.2.2.2.2.2.2.2.2.2.2.2.2.2.2.2.2.2.2.2.2.2.2.2.2.2.2.2.2.2.1 y87.2.2.2.2.2.2.2.2.2.2.2.2.2.2.2.2.2.2.2.2.2.2.2.2.2.2.2.2.2.2.2.2.1 y87.2.2.2.2.2.2.2.2.2.2.2.2.2.2.2.2.2.2.2.2.2.2.2.2.2.2.2.2.2.2.2.2.2 es80 es81 es82 es83 es84 es85 i86)) (
      some (Sum.inr (u48, r49, es51, es52, es53, es54, i55, i56, i57, i58, i59, i60, i61, i62, i63, i64, i65, p66, es67, es68, es69, es70, es71, es72, i73, p74, es75, es76, es77, s78, b79, es80, es81, es82, es83, es84, es85, i86)))
theorem aW18Wakes_twl9 {R : Type} (n : Nat) (u48 : Cs) (r49 : Cs) (k50 : Int) (es51 : Rs) (es52 : Rs) (es53 : Rs) (es54 : Rs) (i55 : Int) (i56 : Int) (i57 : Int) (i58 : Int) (i59 : Int) (i60 : Int) (i61 : Int) (i62 : Int) (i63 : Int) (i64 : Int) (i65 : Int) (p66 : PV) (es67 : Rs) (es68 : Rs) (es69 : Rs) (es70 : Rs) (es71 : Rs) (es72 : Rs) (i73 : Int) (p74 : PV) (es75 : Rs) (es76 : Rs) (es77 : Rs) (s78 : ByteArray) (b79 : Bool) (es80 : Rs) (es81 : Rs) (es82 : Rs) (es83 : Rs) (es84 : Rs) (es85 : Rs) (i86 : Int) (k0 : Bool → Option R) (k1 : Cs → Cs → Rs → Rs → Rs → Rs → Int → Int → Int → Int → Int → Int → Int → Int → Int → Int → Int → PV → Rs → Rs → Rs → Rs → Rs → Rs → Int → PV → Rs → Rs → Rs → ByteArray → Bool → Rs → Rs → Rs → Rs → Rs → Rs → Int → Option R) : Tw (aW18Wakes_tl9 n u48 r49 k50 es51 es52 es53 es54 i55 i56 i57 i58 i59 i60 i61 i62 i63 i64 i65 p66 es67 es68 es69 es70 es71 es72 i73 p74 es75 es76 es77 s78 b79 es80 es81 es82 es83 es84 es85 i86) (aW18Wakes_l9 n u48 r49 k50 es51 es52 es53 es54 i55 i56 i57 i58 i59 i60 i61 i62 i63 i64 i65 p66 es67 es68 es69 es70 es71 es72 i73 p74 es75 es76 es77 s78 b79 es80 es81 es82 es83 es84 es85 i86 k0 k1) (fun s => match s with | (Sum.inl a0) => k0 a0 | (Sum.inr (a0, a1, a2, a3, a4, a5, a6, a7, a8, a9, a10, a11, a12, a13, a14, a15, a16, a17, a18, a19, a20, a21, a22, a23, a24, a25, a26, a27, a28, a29, a30, a31, a32, a33, a34, a35, a36, a37)) => k1 a0 a1 a2 a3 a4 a5 a6 a7 a8 a9 a10 a11 a12 a13 a14 a15 a16 a17 a18 a19 a20 a21 a22 a23 a24 a25 a26 a27 a28 a29 a30 a31 a32 a33 a34 a35 a36 a37) := by
  induction n generalizing u48 r49 k50 es51 es52 es53 es54 i55 i56 i57 i58 i59 i60 i61 i62 i63 i64 i65 p66 es67 es68 es69 es70 es71 es72 i73 p74 es75 es76 es77 s78 b79 es80 es81 es82 es83 es84 es85 i86 with
  | zero => exact tw_none
  | succ n ih =>
    unfold aW18Wakes_tl9 aW18Wakes_l9
    refine tw_cond (fun _ => ?_) (fun _ => ?_)
    · refine tw_bind fun y87 _ => ?_
      refine tw_cond (fun _ => ?_) (fun _ => ?_)
      · exact tw_some rfl
      · exact ih _ _ _ _ _ _ _ _ _ _ _ _ _ _ _ _ _ _ _ _ _ _ _ _ _ _ _ _ _ _ _ _ _ _ _ _ _ _ _
    · exact tw_some rfl
def aW18Wakes_t : Option (Bool) :=
  Option.bind (aPInst_t []) fun y1 =>
  Option.bind (aTxnNew_d y1.1 y1.2.1 y1.2.2.1 y1.2.2.2 0 9 0 0 0 (-1) 0 0 (-1)) fun y2 =>
  Option.bind (aStackNew_d) fun y3 =>
  Option.bind (aStackNew_d) fun y4 =>
  Option.bind (aTxnTxnAttempt_d y2.1 y2.2.1 y2.2.2.1 y2.2.2.2.1 y2.2.2.2.2.1 y2.2.2.2.2.2.1 y2.2.2.2.2.2.2.1 y2.2.2.2.2.2.2.2.1 y2.2.2.2.2.2.2.2.2.1 y2.2.2.2.2.2.2.2.2.2.1 y2.2.2.2.2.2.2.2.2.2.2.1 y2.2.2.2.2.2.2.2.2.2.2.2.1 y2.2.2.2.2.2.2.2.2.2.2.2.2.1 y2.2.2.2.2.2.2.2.2.2.2.2.2.2.1 y2.2.2.2.2.2.2.2.2.2.2.2.2.2.2.1 PV.mnil y2.2.2.2.2.2.2.2.2.2.2.2.2.2.2.2.1 y2.2.2.2.2.2.2.2.2.2.2.2.2.2.2.2.2.1 y2.2.2.2.2.2.2.2.2.2.2.2.2.2.2.2.2.2.1 y2.2.2.2.2.2.2.2.2.2.2.2.2.2.2.2.2.2.2.1 y2.2.2.2.2.2.2.2.2.2.2.2.2.2.2.2.2.2.2.2.1 y2.2.2.2.2.2.2.2.2.2.2.2.2.2.2.2.2.2.2.2.2.1 y2.2.2.2.2.2.2.2.2.2.2.2.2.2.2.2.2.2.2.2.2.2.1 PV.pnil y2.2.2.2.2.2.2.2.2.2.2.2.2.2.2.2.2.2.2.2.2.2.2.1 y2.2.2.2.2.2.2.2.2.2.2.2.2.2.2.2.2.2.2.2.2.2.2.2.1 y2.2.2.2.2.2.2.2.2.2.2.2.2.2.2.2.2.2.2.2.2.2.2.2.2.1 y2.2.2.2.2.2.2.2.2.2.2.2.2.2.2.2.2.2.2.2.2.2.2.2.2.2.1 y2.2.2.2.2.2.2.2.2.2.2.2.2.2.2.2.2.2.2.2.2.2.2.2.2.2.2) fun y5 =>
  cond (y5.1 != (1 : Int)) (
    some false) (
    Option.bind (aTxnSteps_d 9 0 0 0 (-1) 0 0 (-1)) fun y6 =>
    cond (y6 != (3 : Int)) (
      some false) (
      Option.bind (aRNewPlan_t y1.1 y1.2.1 y1.2.2.1 y1.2.2.2) fun y7 =>
      Option.bind (aW18Wakes_tl9 9223372036854775808 y3 y4 0 y5.2.1 y5.2.2.1 y5.2.2.2.1 y5.2.2.2.2.1 y5.2.2.2.2.2.1 y5.2.2.2.2.2.2.1 y5.2.2.2.2.2.2.2.1 y5.2.2.2.2.2.2.2.2.1 y5.2.2.2.2.2.2.2.2.2.1 y5.2.2.2.2.2.2.2.2.2.2.1 y5.2.2.2.2.2.2.2.2.2.2.2.1 y5.2.2.2.2.2.2.2.2.2.2.2.2.1 y5.2.2.2.2.2.2.2.2.2.2.2.2.2.1 y5.2.2.2.2.2.2.2.2.2.2.2.2.2.2.1 y5.2.2.2.2.2.2.2.2.2.2.2.2.2.2.2.1 y5.2.2.2.2.2.2.2.2.2.2.2.2.2.2.2.2.1 y5.2.2.2.2.2.2.2.2.2.2.2.2.2.2.2.2.2.1 y5.2.2.2.2.2.2.2.2.2.2.2.2.2.2.2.2.2.2.1 y5.2.2.2.2.2.2.2.2.2.2.2.2.2.2.2.2.2.2.2.1 y5.2.2.2.2.2.2.2.2.2.2.2.2.2.2.2.2.2.2.2.2.1 y5.2.2.2.2.2.2.2.2.2.2.2.2.2.2.2.2.2.2.2.2.2.1 y5.2.2.2.2.2.2.2.2.2.2.2.2.2.2.2.2.2.2.2.2.2.2.1 y5.2.2.2.2.2.2.2.2.2.2.2.2.2.2.2.2.2.2.2.2.2.2.2.1 y5.2.2.2.2.2.2.2.2.2.2.2.2.2.2.2.2.2.2.2.2.2.2.2.2.1 y5.2.2.2.2.2.2.2.2.2.2.2.2.2.2.2.2.2.2.2.2.2.2.2.2.2.1 y5.2.2.2.2.2.2.2.2.2.2.2.2.2.2.2.2.2.2.2.2.2.2.2.2.2.2.1 y5.2.2.2.2.2.2.2.2.2.2.2.2.2.2.2.2.2.2.2.2.2.2.2.2.2.2.2.1 y5.2.2.2.2.2.2.2.2.2.2.2.2.2.2.2.2.2.2.2.2.2.2.2.2.2.2.2.2.1 y5.2.2.2.2.2.2.2.2.2.2.2.2.2.2.2.2.2.2.2.2.2.2.2.2.2.2.2.2.2 y7.1 y7.2.1 y7.2.2.1 y7.2.2.2.1 y7.2.2.2.2.1 y7.2.2.2.2.2.1 y7.2.2.2.2.2.2) fun s => match s with
        | (Sum.inl b8) =>
          some b8
        | (Sum.inr (u9, r10, es11, es12, es13, es14, i15, i16, i17, i18, i19, i20, i21, i22, i23, i24, i25, p26, es27, es28, es29, es30, es31, es32, i33, p34, es35, es36, es37, s38, b39, es40, es41, es42, es43, es44, es45, i46)) =>
          Option.bind (aTxnTxnStep_D [(PV.obj [(PV.fs es11), (PV.fs es12), (PV.fs es13), (PV.fs es14), (PV.int .i64 i15), (PV.int .i64 i16), (PV.int .i64 i17), (PV.int .i64 i18), (PV.int .i64 i19), (PV.int .i64 i20), (PV.int .i64 i21), (PV.int .i64 i22), (PV.int .i64 i23), (PV.int .i64 i24), (PV.int .i64 i25), p26, (PV.fs es27), (PV.fs es28), (PV.fs es29), (PV.fs es30), (PV.fs es31), (PV.fs es32), (PV.int .i64 i33), p34, (PV.fs es35), (PV.fs es36), (PV.fs es37), (PV.str s38), (PV.bool b39)]), (PV.agg [(PV.fs es40), (PV.fs es41), (PV.fs es42), (PV.fs es43), (PV.fs es44), (PV.fs es45), (PV.int .i64 i46)]), (PV.rp u9 0), (PV.rp r10 0)]) fun y47 =>
          cond y47.2.2.2.2.1 (
            some (ByteArray.toList y47.2.2.2.1 == ByteArray.toList (ByteArray.mk #[110, 111, 32, 110, 111, 110, 101]))) (
            some false)))
theorem aW18Wakes_tw {R : Type} (k : Bool → Option R) : Tw (aW18Wakes_t) (aW18Wakes_b 9223372036854775808 k) (fun s => match s with | a0 => k a0) := by
  unfold aW18Wakes_t aW18Wakes_b
  refine tw_bind fun y1 _ => ?_
  refine tw_bind fun y2 _ => ?_
  refine tw_bind fun y3 _ => ?_
  refine tw_bind fun y4 _ => ?_
  refine tw_bind fun y5 _ => ?_
  refine tw_cond (fun _ => ?_) (fun _ => ?_)
  · exact tw_some rfl
  · refine tw_bind fun y6 _ => ?_
    refine tw_cond (fun _ => ?_) (fun _ => ?_)
    · exact tw_some rfl
    · refine tw_bind fun y7 _ => ?_
      refine tw_call (aW18Wakes_twl9 _ _ _ _ _ _ _ _ _ _ _ _ _ _ _ _ _ _ _ _ _ _ _ _ _ _ _ _ _ _ _ _ _ _ _ _ _ _ _ _ _ _) (fun s => ?_)
      rcases s with b8 | ⟨u9, r10, es11, es12, es13, es14, i15, i16, i17, i18, i19, i20, i21, i22, i23, i24, i25, p26, es27, es28, es29, es30, es31, es32, i33, p34, es35, es36, es37, s38, b39, es40, es41, es42, es43, es44, es45, i46⟩
      · exact tw_some rfl
      · refine tw_bind fun y47 _ => ?_
        refine tw_cond (fun _ => ?_) (fun _ => ?_)
        · exact tw_some rfl
        · exact tw_some rfl
theorem aW18Wakes_ok : ∀ (y : Bool), aW18Wakes_t = some y → ∃ n, ∀ (R : Type) (k : Bool → Option R), aW18Wakes_b n k = k y := fun y h => ⟨9223372036854775808, fun R k => aW18Wakes_tw k y h⟩
def aW18Wakes_D : Cs → Option (Bool)
  | [] => aW18Wakes_t
  | _ => none
def aW18Wakes_Γ : List (Nat × Cal) := [(7, .ctr aPInst_C), (8, .ctr aTxnNew_C), (9, .ctr aStackNew_C), (10, .ctr aTxnTxnAttempt_C), (5, .ctr aTxnSteps_C), (11, .ctr aRNewPlan_C), (12, .ctr aTxnTxnStep_C)]
def aW18Wakes_C : Ctr := ⟨[], Bool, aW18Wakes_D, aW18Wakes_E, true, .d⟩
def aW18Wakes_cfg : List (Nat × LC) := [(9, ⟨[3, 4, 5, 6, 7], [], [], [], []⟩),
  (2000009, ⟨[0], [], [], [], []⟩),
  (1009000, ⟨[3, 4, 5, 6], [], [], [], []⟩)]
def aW18Wakes_p9 : SP := ⟨sparse .undef [(3, (.ref 0 0)), (4, (.val (.rp 0))), (5, (.val (.rp 0))), (6, (.ref 1 0)), (7, (.val (.int .i64)))] 0 71, [(.box [(.val .fs), (.val .fs), (.val .fs), (.val .fs), (.val (.int .i64)), (.val (.int .i64)), (.val (.int .i64)), (.val (.int .i64)), (.val (.int .i64)), (.val (.int .i64)), (.val (.int .i64)), (.val (.int .i64)), (.val (.int .i64)), (.val (.int .i64)), (.val (.int .i64)), (.val .any), (.val .fs), (.val .fs), (.val .fs), (.val .fs), (.val .fs), (.val .fs), (.val (.int .i64)), (.val .any), (.val .fs), (.val .fs), (.val .fs), (.val .str), (.val .bool)]), (.pbox (.agg [.fs, .fs, .fs, .fs, .fs, .fs, (.int .i64)]) 7)], []⟩
def aW18Wakes_pat : Nat → Option SP
  | 9 => some aW18Wakes_p9
  | _ => none
def aW18Wakes_patj : Nat → Option SP
  | _ => none
def aW18Wakes_L9 (n : Nat) (ls : List Leaf) (R : Type) (k : Ex → St → Option R) : Option R :=
  match ls with
  | (.cells u48 :: .cells r49 :: .int k50 :: .rows es51 :: .rows es52 :: .rows es53 :: .rows es54 :: .int i55 :: .int i56 :: .int i57 :: .int i58 :: .int i59 :: .int i60 :: .int i61 :: .int i62 :: .int i63 :: .int i64 :: .int i65 :: .pv p66 :: .rows es67 :: .rows es68 :: .rows es69 :: .rows es70 :: .rows es71 :: .rows es72 :: .int i73 :: .pv p74 :: .rows es75 :: .rows es76 :: .rows es77 :: .str s78 :: .bool b79 :: .rows es80 :: .rows es81 :: .rows es82 :: .rows es83 :: .rows es84 :: .rows es85 :: .int i86 :: []) => aW18Wakes_l9 n u48 r49 k50 es51 es52 es53 es54 i55 i56 i57 i58 i59 i60 i61 i62 i63 i64 i65 p66 es67 es68 es69 es70 es71 es72 i73 p74 es75 es76 es77 s78 b79 es80 es81 es82 es83 es84 es85 i86 (fun y1088 => k .ret ⟨sparse .undef [(0, (TV.val (PV.bool y1088)))] 0 71, [], []⟩)
      (fun y1089 y1090 y1091 y1092 y1093 y1094 y1095 y1096 y1097 y1098 y1099 y1100 y1101 y1102 y1103 y1104 y1105 y1106 y1107 y1108 y1109 y1110 y1111 y1112 y1113 y1114 y1115 y1116 y1117 y1118 y1119 y1120 y1121 y1122 y1123 y1124 y1125 y1126 => k (.exit 0) ⟨sparse .undef [(3, (TV.ref 0 0)), (4, (TV.val (PV.rp y1089 0))), (5, (TV.val (PV.rp y1090 0))), (6, (TV.ref 1 0))] 0 71, [(Ob.box [(TV.val (PV.fs y1091)), (TV.val (PV.fs y1092)), (TV.val (PV.fs y1093)), (TV.val (PV.fs y1094)), (TV.val (PV.int .i64 y1095)), (TV.val (PV.int .i64 y1096)), (TV.val (PV.int .i64 y1097)), (TV.val (PV.int .i64 y1098)), (TV.val (PV.int .i64 y1099)), (TV.val (PV.int .i64 y1100)), (TV.val (PV.int .i64 y1101)), (TV.val (PV.int .i64 y1102)), (TV.val (PV.int .i64 y1103)), (TV.val (PV.int .i64 y1104)), (TV.val (PV.int .i64 y1105)), (TV.val y1106), (TV.val (PV.fs y1107)), (TV.val (PV.fs y1108)), (TV.val (PV.fs y1109)), (TV.val (PV.fs y1110)), (TV.val (PV.fs y1111)), (TV.val (PV.fs y1112)), (TV.val (PV.int .i64 y1113)), (TV.val y1114), (TV.val (PV.fs y1115)), (TV.val (PV.fs y1116)), (TV.val (PV.fs y1117)), (TV.val (PV.str y1118)), (TV.val (PV.bool y1119))]), (Ob.pbox (PV.agg [(PV.fs y1120), (PV.fs y1121), (PV.fs y1122), (PV.fs y1123), (PV.fs y1124), (PV.fs y1125), (PV.int .i64 y1126)]) 7)], []⟩)
  | _ => none
def aW18Wakes_L (n key : Nat) (ls : List Leaf) (R : Type) (k : Ex → St → Option R) : Option R :=
  match key with
  | 9 => aW18Wakes_L9 n ls R k
  | _ => none
def aW18Wakes_J (n key : Nat) (ls : List Leaf) (R : Type) (k : Ex → St → Option R) : Option R :=
  match key with
  | _ => none
def aW18Wakes_on : Code → Bool := fun _ => false
def aW18Wakes_Λ : Nat → Loops := patL (normBy aW18Wakes_cfg) aW18Wakes_pat aW18Wakes_L (normJ aW18Wakes_cfg) aW18Wakes_on aW18Wakes_patj aW18Wakes_J
theorem aW18Wakes_step9 (n : Nat) (u48 : Cs) (r49 : Cs) (k50 : Int) (es51 : Rs) (es52 : Rs) (es53 : Rs) (es54 : Rs) (i55 : Int) (i56 : Int) (i57 : Int) (i58 : Int) (i59 : Int) (i60 : Int) (i61 : Int) (i62 : Int) (i63 : Int) (i64 : Int) (i65 : Int) (p66 : PV) (es67 : Rs) (es68 : Rs) (es69 : Rs) (es70 : Rs) (es71 : Rs) (es72 : Rs) (i73 : Int) (p74 : PV) (es75 : Rs) (es76 : Rs) (es77 : Rs) (s78 : ByteArray) (b79 : Bool) (es80 : Rs) (es81 : Rs) (es82 : Rs) (es83 : Rs) (es84 : Rs) (es85 : Rs) (i86 : Int)  (R : Type) (k : Ex → St → Option R) :
    roundK T G0 (ctrOf aW18Wakes_Γ) (normBy aW18Wakes_cfg) (aW18Wakes_Λ n) (codeAt [1, 1, 1, 1, 1, 1, 1, 0, 1, 0, 0] (bodyOf Tryz.f6)) (buildSt aW18Wakes_p9 (.cells u48 :: .cells r49 :: .int k50 :: .rows es51 :: .rows es52 :: .rows es53 :: .rows es54 :: .int i55 :: .int i56 :: .int i57 :: .int i58 :: .int i59 :: .int i60 :: .int i61 :: .int i62 :: .int i63 :: .int i64 :: .int i65 :: .pv p66 :: .rows es67 :: .rows es68 :: .rows es69 :: .rows es70 :: .rows es71 :: .rows es72 :: .int i73 :: .pv p74 :: .rows es75 :: .rows es76 :: .rows es77 :: .str s78 :: .bool b79 :: .rows es80 :: .rows es81 :: .rows es82 :: .rows es83 :: .rows es84 :: .rows es85 :: .int i86 :: [])) R k = aW18Wakes_L9 (n + 1) (.cells u48 :: .cells r49 :: .int k50 :: .rows es51 :: .rows es52 :: .rows es53 :: .rows es54 :: .int i55 :: .int i56 :: .int i57 :: .int i58 :: .int i59 :: .int i60 :: .int i61 :: .int i62 :: .int i63 :: .int i64 :: .int i65 :: .pv p66 :: .rows es67 :: .rows es68 :: .rows es69 :: .rows es70 :: .rows es71 :: .rows es72 :: .int i73 :: .pv p74 :: .rows es75 :: .rows es76 :: .rows es77 :: .str s78 :: .bool b79 :: .rows es80 :: .rows es81 :: .rows es82 :: .rows es83 :: .rows es84 :: .rows es85 :: .int i86 :: []) R k := by kernel_rfl
theorem aW18Wakes_eq (n : Nat) :
    funK T G0 (ctrOf aW18Wakes_Γ) (aW18Wakes_Λ n) .d true [] (funOf Tryz.f6) [] = aW18Wakes_b n  (fun a0 => some (aW18Wakes_E a0)) := by kernel_rfl
theorem aW18Wakes_inv {ps : Cs} {y : Bool} (h : aW18Wakes_D ps = some y) : ps = [] := by
  unfold aW18Wakes_D at h
  split at h
  · rfl
  · cases h
theorem aW18Wakes_loops : loopsOf (bodyOf Tryz.f6) = [codeAt [1, 1, 1, 1, 1, 1, 1, 0, 1, 0, 0] (bodyOf Tryz.f6)] := by kernel_rfl
theorem aW18Wakes_holds (hΓ : HoldsAll Tryz.prog G0 aW18Wakes_Γ) (hok : ∀ (y : Bool), aW18Wakes_t = some y → ∃ n, ∀ (R : Type) (k : Bool → Option R), aW18Wakes_b n  k = k y) : Holds Tryz.prog G0 6 aW18Wakes_C := by
  refine fun_pat mixed tOk (ctrOf_ok hΓ) Tryz.func6 rfl rfl rfl rfl (F := funOf Tryz.f6) (normBy_ok aW18Wakes_cfg) (pat := aW18Wakes_pat) (L := aW18Wakes_L) (normJ_ok aW18Wakes_cfg) (on := aW18Wakes_on) (patj := aW18Wakes_patj) (J := aW18Wakes_J) (fun c hc ls R k => ?_) (fun c hc p hp m ls R k r h => ?_) (fun c hc p hp m ls R k r h => ?_) (fun ps x h => ?_)
  · rw [show (funOf Tryz.f6).code = bodyOf Tryz.f6 from rfl, aW18Wakes_loops] at hc
    simp only [List.mem_cons, List.not_mem_nil, or_false] at hc
    rcases hc with rfl
    · show aW18Wakes_L9 0 ls R k = none
      unfold aW18Wakes_L9
      split
      · rfl
      · rfl
  · rw [show (funOf Tryz.f6).code = bodyOf Tryz.f6 from rfl, aW18Wakes_loops] at hc
    simp only [List.mem_cons, List.not_mem_nil, or_false] at hc
    rcases hc with rfl
    · obtain rfl : aW18Wakes_p9 = p := Option.some.inj hp
      change aW18Wakes_L9 (m + 1) ls R k = some r at h
      have h' := h
      unfold aW18Wakes_L9 at h'
      split at h'
      · exact (aW18Wakes_step9 m _ _ _ _ _ _ _ _ _ _ _ _ _ _ _ _ _ _ _ _ _ _ _ _ _ _ _ _ _ _ _ _ _ _ _ _ _ _ _ R k).trans h
      · cases h'
  · cases (List.mem_filter.1 hc).2
  · obtain ⟨y, hy, hx⟩ := bind_inv h
    cases hx
    obtain rfl := aW18Wakes_inv hy
    obtain ⟨n, hn⟩ := hok y hy
    exact ⟨n, (aW18Wakes_eq n).trans (hn _ _)⟩

/-! ## drayman/draymanlaw18.TxnSteps -/
def aW18TxnSteps_q9 {R : Type} (want7 : Int) (i8 : Int) (i9 : Int) (i10 : Int) (i11 : Int) (i12 : Int) (i13 : Int) (i14 : Int) (i15 : Int) (k0 : Bool → Option R) : Option R :=
  Option.bind (aTxnSteps_d i8 i9 i10 i11 i12 i13 i14 i15) fun y16 =>
  cond (y16 == want7) (
    Option.bind (aW18Wakes_t) fun y17 =>
    k0 y17) (
    k0 false)
def aW18TxnSteps_b {R : Type} (b1 : Int) (op2 : Int) (k : Bool → Option R) : Option R :=
  Option.bind (aDraymankeepWithin_d b1 20) fun y3 =>
  Option.bind (aDraymankeepWithin_d op2 13) fun y4 =>
  cond ((IntKind.i64.wrap ((1 : Int) + y4)) == (8 : Int)) (
    aW18TxnSteps_q9 (IntKind.i64.wrap ((IntKind.i64.wrap ((1 : Int) + y3)) + (2 : Int))) (IntKind.i64.wrap ((1 : Int) + y4)) 0 0 0 (-1) (IntKind.i64.wrap ((1 : Int) + y3)) 0 (-1) k) (
    aW18TxnSteps_q9 3 (IntKind.i64.wrap ((1 : Int) + y4)) 0 0 0 (-1) 0 0 (-1) k)
def aW18TxnSteps_E (y : Bool) : PV × Cs := ((PV.bool y), [])
def aW18TxnSteps_tq9 (want7 : Int) (i8 : Int) (i9 : Int) (i10 : Int) (i11 : Int) (i12 : Int) (i13 : Int) (i14 : Int) (i15 : Int) : Option ((Bool)) :=
  Option.bind (aTxnSteps_d i8 i9 i10 i11 i12 i13 i14 i15) fun y16 =>
  cond (y16 == want7) (
    Option.bind (aW18Wakes_t) fun y17 =>
    some y17) (
    some false)
theorem aW18TxnSteps_twq9 {R : Type} (want7 : Int) (i8 : Int) (i9 : Int) (i10 : Int) (i11 : Int) (i12 : Int) (i13 : Int) (i14 : Int) (i15 : Int) (k0 : Bool → Option R) : Tw (aW18TxnSteps_tq9 want7 i8 i9 i10 i11 i12 i13 i14 i15) (aW18TxnSteps_q9 want7 i8 i9 i10 i11 i12 i13 i14 i15 k0) (fun s => match s with | a0 => k0 a0) := by
  unfold aW18TxnSteps_tq9 aW18TxnSteps_q9
  refine tw_bind fun y16 _ => ?_
  refine tw_cond (fun _ => ?_) (fun _ => ?_)
  · refine tw_bind fun y17 _ => ?_
    exact tw_some rfl
  · exact tw_some rfl
def aW18TxnSteps_t (b1 : Int) (op2 : Int) : Option (Bool) :=
  Option.bind (aDraymankeepWithin_d b1 20) fun y3 =>
  Option.bind (aDraymankeepWithin_d op2 13) fun y4 =>
  cond ((IntKind.i64.wrap ((1 : Int) + y4)) == (8 : Int)) (
    Option.bind (aW18TxnSteps_tq9 (IntKind.i64.wrap ((IntKind.i64.wrap ((1 : Int) + y3)) + (2 : Int))) (IntKind.i64.wrap ((1 : Int) + y4)) 0 0 0 (-1) (IntKind.i64.wrap ((1 : Int) + y3)) 0 (-1)) fun s => match s with
      | b5 =>
        some b5) (
    Option.bind (aW18TxnSteps_tq9 3 (IntKind.i64.wrap ((1 : Int) + y4)) 0 0 0 (-1) 0 0 (-1)) fun s => match s with
      | b6 =>
        some b6)
theorem aW18TxnSteps_tw {R : Type} (b1 : Int) (op2 : Int) (k : Bool → Option R) : Tw (aW18TxnSteps_t b1 op2) (aW18TxnSteps_b  b1 op2 k) (fun s => match s with | a0 => k a0) := by
  unfold aW18TxnSteps_t aW18TxnSteps_b
  refine tw_bind fun y3 _ => ?_
  refine tw_bind fun y4 _ => ?_
  refine tw_cond (fun _ => ?_) (fun _ => ?_)
  · refine tw_call (aW18TxnSteps_twq9 _ _ _ _ _ _ _ _ _ _) (fun s => ?_)
    rcases s with b5
    · exact tw_some rfl
  · refine tw_call (aW18TxnSteps_twq9 _ _ _ _ _ _ _ _ _ _) (fun s => ?_)
    rcases s with b6
    · exact tw_some rfl
theorem aW18TxnSteps_ok : ∀ (b1 : Int) (op2 : Int) (y : Bool), aW18TxnSteps_t b1 op2 = some y → ∀ (R : Type) (k : Bool → Option R), aW18TxnSteps_b  b1 op2 k = k y := fun b1 op2 y h => fun R k => aW18TxnSteps_tw b1 op2 k y h
def aW18TxnSteps_D : Cs → Option (Bool)
  | [(PV.int .i64 b1), (PV.int .i64 op2)] => aW18TxnSteps_t b1 op2
  | _ => none
def aW18TxnSteps_Γ : List (Nat × Cal) := [(4, .ctr aDraymankeepWithin_C), (5, .ctr aTxnSteps_C), (6, .ctr aW18Wakes_C)]
def aW18TxnSteps_C : Ctr := ⟨[none, none], Bool, aW18TxnSteps_D, aW18TxnSteps_E, true, .d⟩
def aW18TxnSteps_cfg : List (Nat × LC) := [(4000009, ⟨[5, 6], [], [], [], []⟩),
  (6000009, ⟨[4], [], [], [], []⟩)]
def aW18TxnSteps_pj9 : SP := ⟨sparse .undef [(5, (.val (.int .i64))), (6, (.ref 0 0))] 0 28, [(.pbox (.agg [(.int .i64), (.int .i64), (.int .i64), (.int .i64), (.int .i64), (.int .i64), (.int .i64), (.int .i64)]) 8)], []⟩
def aW18TxnSteps_pat : Nat → Option SP
  | _ => none
def aW18TxnSteps_patj : Nat → Option SP
  | 9 => some aW18TxnSteps_pj9
  | _ => none
def aW18TxnSteps_J9 (n : Nat) (ls : List Leaf) (R : Type) (k : Ex → St → Option R) : Option R :=
  match ls with
  | [.int want7, .int i8, .int i9, .int i10, .int i11, .int i12, .int i13, .int i14, .int i15] => aW18TxnSteps_q9 want7 i8 i9 i10 i11 i12 i13 i14 i15 (fun y1018 => k .ret ⟨sparse .undef [(4, (TV.val (PV.bool y1018)))] 0 28, [], []⟩)
  | _ => none
def aW18TxnSteps_L (n key : Nat) (ls : List Leaf) (R : Type) (k : Ex → St → Option R) : Option R :=
  match key with
  | _ => none
def aW18TxnSteps_J (n key : Nat) (ls : List Leaf) (R : Type) (k : Ex → St → Option R) : Option R :=
  match key with
  | 9 => aW18TxnSteps_J9 n ls R k
  | _ => none
def aW18TxnSteps_on : Code → Bool := onKeys [9]
def aW18TxnSteps_Λ : Nat → Loops := patL (normBy aW18TxnSteps_cfg) aW18TxnSteps_pat aW18TxnSteps_L (normJ aW18TxnSteps_cfg) aW18TxnSteps_on aW18TxnSteps_patj aW18TxnSteps_J
theorem aW18TxnSteps_stepq9 (n : Nat) (want7 : Int) (i8 : Int) (i9 : Int) (i10 : Int) (i11 : Int) (i12 : Int) (i13 : Int) (i14 : Int) (i15 : Int)  (R : Type) (k : Ex → St → Option R) :
    joinK T G0 (ctrOf aW18TxnSteps_Γ) (normJ aW18TxnSteps_cfg) (aW18TxnSteps_Λ n) (codeAt [1, 1, 1, 1, 1, 1] (bodyOf Tryz.f3)) (buildSt aW18TxnSteps_pj9 [.int want7, .int i8, .int i9, .int i10, .int i11, .int i12, .int i13, .int i14, .int i15]) R k = aW18TxnSteps_J9 n [.int want7, .int i8, .int i9, .int i10, .int i11, .int i12, .int i13, .int i14, .int i15] R k := by kernel_rfl
theorem aW18TxnSteps_eq (b1 : Int) (op2 : Int) :
    funK T G0 (ctrOf aW18TxnSteps_Γ) (aW18TxnSteps_Λ 0) .d true [none, none] (funOf Tryz.f3) [(PV.int .i64 b1), (PV.int .i64 op2)] = aW18TxnSteps_b  b1 op2 (fun a0 => some (aW18TxnSteps_E a0)) := by kernel_rfl
theorem aW18TxnSteps_inv {ps : Cs} {y : Bool} (h : aW18TxnSteps_D ps = some y) : ∃ (b1 : Int) (op2 : Int), ps = [(PV.int .i64 b1), (PV.int .i64 op2)] := by
  unfold aW18TxnSteps_D at h
  split at h
  · exact ⟨_, _, rfl⟩
  · cases h
theorem aW18TxnSteps_loops : loopsOf (bodyOf Tryz.f3) = [] := by kernel_rfl
theorem aW18TxnSteps_joins : (joinsOf (bodyOf Tryz.f3)).filter aW18TxnSteps_on = [codeAt [1, 1, 1, 1, 1, 1] (bodyOf Tryz.f3)] := by kernel_rfl
theorem aW18TxnSteps_holds (hΓ : HoldsAll Tryz.prog G0 aW18TxnSteps_Γ) (hok : ∀ (b1 : Int) (op2 : Int) (y : Bool), aW18TxnSteps_t b1 op2 = some y → ∀ (R : Type) (k : Bool → Option R), aW18TxnSteps_b  b1 op2 k = k y) : Holds Tryz.prog G0 3 aW18TxnSteps_C := by
  refine fun_pat mixed tOk (ctrOf_ok hΓ) Tryz.func3 rfl rfl rfl rfl (F := funOf Tryz.f3) (normBy_ok aW18TxnSteps_cfg) (pat := aW18TxnSteps_pat) (L := aW18TxnSteps_L) (normJ_ok aW18TxnSteps_cfg) (on := aW18TxnSteps_on) (patj := aW18TxnSteps_patj) (J := aW18TxnSteps_J) (fun c hc ls R k => ?_) (fun c hc p hp m ls R k r h => ?_) (fun c hc p hp m ls R k r h => ?_) (fun ps x h => ?_)
  · rw [show (funOf Tryz.f3).code = bodyOf Tryz.f3 from rfl, aW18TxnSteps_loops] at hc
    cases hc
  · rw [show (funOf Tryz.f3).code = bodyOf Tryz.f3 from rfl, aW18TxnSteps_loops] at hc
    cases hc
  · rw [show (funOf Tryz.f3).code = bodyOf Tryz.f3 from rfl, aW18TxnSteps_joins] at hc
    simp only [List.mem_cons, List.not_mem_nil, or_false] at hc
    rcases hc with rfl
    · obtain rfl : aW18TxnSteps_pj9 = p := Option.some.inj hp
      change aW18TxnSteps_J9 m ls R k = some r at h
      have h' := h
      unfold aW18TxnSteps_J9 at h'
      split at h'
      · exact (aW18TxnSteps_stepq9 m _ _ _ _ _ _ _ _ _ R k).trans h
      · cases h'
  · obtain ⟨y, hy, hx⟩ := bind_inv h
    cases hx
    obtain ⟨b1, op2, rfl⟩ := aW18TxnSteps_inv hy
    exact ⟨0, (aW18TxnSteps_eq b1 op2).trans (hok b1 op2 y hy _ _)⟩

end
end Go.Proofs.YtpaifgipdhgfkaaGreatDoorV
