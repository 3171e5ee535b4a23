/- What the functions of the program come to, as the reading machine has it: printed by dec.py. -/
import Derived.Test.YtpaifgipdhgfkaaVTab
import Derived.Test.YtpaifgipdhgfkaaD8
import Derived.Test.YtpaifgipdhgfkaaD00
import Derived.Test.YtpaifgipdhgfkaaS8
namespace Go.Proofs.YtpaifgipdhgfkaaV
open Go
set_option maxRecDepth 100000
set_option linter.unusedVariables false
set_option linter.unusedSimpArgs false
noncomputable section
/-! ## drayman/draymanlaw03.small: its own code is run where it is called -/
def small03_Γ : List (Nat × Cal) := [(2000000011, ro_I)]
def small03_I : Cal := .inl (inlF T G0 (ctrOf small03_Γ) noL (funOf Try.f5))
theorem small03_holds (hΓ : HoldsAll Try.prog G0 small03_Γ) : CalOk Try.prog G0 5 small03_I := inlF_ok mixed tOk (ctrOf_ok hΓ) Try.func5 rfl rfl rfl rfl (noL_ok _)

/-! ## drayman/draymanlaw03.InstBounds -/
def instBounds_l6 {R : Type} : Nat → Int → Int → Int → Int → List (List PV) → (Bool → Option R) → (Int → Int → Option R) → Option R
  | 0, _, _, _, _, _, _, _ => none
  | n + 1, n13, k14, i15, i16, es17, k0, k1 =>
    cond (decide (i16 < i15)) (
      if 0 ≤ i16 ∧ i16 < (es17.length : Int) then
        Option.bind (es17[(Int.toNat i16)]?) fun e18 =>
        Option.bind (e18[0]?) fun c19 =>
        Option.bind (PV.asB c19) fun b20 =>
        cond b20 (
          cond (k14 == (0 : Int)) (
            Option.bind (iCheck_d (List.set ([[(PV.int .i64 5), (PV.int .i64 1), (PV.int .i64 9)]] : List (List PV)) 0 [(PV.int .i64 (IntKind.i64.wrap ((60 : Int) + n13))), (PV.int .i64 1), (PV.int .i64 9)]) [[(PV.int .i64 2), (PV.int .i64 0), (PV.int .i64 8), (PV.int .i64 1)], [(PV.int .i64 (-2)), (PV.int .i64 3), (PV.int .i64 4), (PV.int .i64 0)]] [[(PV.int .i64 1), (PV.int .i64 2)]] [[(PV.fs [[(PV.int .i64 0)], [(PV.int .i64 1)], [(PV.int .i64 2)]])], [(PV.fs [[(PV.int .i64 3)], [(PV.int .i64 0)], [(PV.int .i64 4)]])], [(PV.fs [[(PV.int .i64 5)], [(PV.int .i64 6)], [(PV.int .i64 0)]])]]) fun y21 =>
            cond ((y21 == (0 : Int)) == b20) (
              k0 false) (
              instBounds_l6 n n13 k14 i15 (IntKind.i64.wrap (i16 + (1 : Int))) es17 k0 k1)) (
            cond (k14 == (1 : Int)) (
              Option.bind (iCheck_d (List.set ([[(PV.int .i64 5), (PV.int .i64 1), (PV.int .i64 9)]] : List (List PV)) 0 [(PV.int .i64 (IntKind.i64.wrap (0 - n13))), (PV.int .i64 1), (PV.int .i64 9)]) [[(PV.int .i64 2), (PV.int .i64 0), (PV.int .i64 8), (PV.int .i64 1)], [(PV.int .i64 (-2)), (PV.int .i64 3), (PV.int .i64 4), (PV.int .i64 0)]] [[(PV.int .i64 1), (PV.int .i64 2)]] [[(PV.fs [[(PV.int .i64 0)], [(PV.int .i64 1)], [(PV.int .i64 2)]])], [(PV.fs [[(PV.int .i64 3)], [(PV.int .i64 0)], [(PV.int .i64 4)]])], [(PV.fs [[(PV.int .i64 5)], [(PV.int .i64 6)], [(PV.int .i64 0)]])]]) fun y22 =>
              cond ((y22 == (0 : Int)) == b20) (
                k0 false) (
                instBounds_l6 n n13 k14 i15 (IntKind.i64.wrap (i16 + (1 : Int))) es17 k0 k1)) (
              cond (k14 == (2 : Int)) (
                (fun (z1 : Option R) =>
                  meet (
                    meet (
                      z1) (
                      z1)) (
                    z1)) (
                  if 0 ≤ (0 : Int) ∧ (0 : Int) < ((List.set ([[(PV.int .i64 5), (PV.int .i64 1), (PV.int .i64 9)]] : List (List PV)) 0 [(PV.int .i64 5), (PV.int .i64 (IntKind.i64.wrap ((9 : Int) + n13))), (PV.int .i64 9)]).length : Int) then
                    Option.bind ((List.set ([[(PV.int .i64 5), (PV.int .i64 1), (PV.int .i64 9)]] : List (List PV)) 0 [(PV.int .i64 5), (PV.int .i64 (IntKind.i64.wrap ((9 : Int) + n13))), (PV.int .i64 9)])[0]?) fun e23 =>
                    Option.bind (e23[2]?) fun c24 =>
                    Option.bind (iCheck_d (List.set (List.set ([[(PV.int .i64 5), (PV.int .i64 1), (PV.int .i64 9)]] : List (List PV)) 0 [(PV.int .i64 5), (PV.int .i64 (IntKind.i64.wrap ((9 : Int) + n13))), (PV.int .i64 9)]) 0 (List.set e23 2 (PV.int .i64 9))) [[(PV.int .i64 2), (PV.int .i64 0), (PV.int .i64 8), (PV.int .i64 1)], [(PV.int .i64 (-2)), (PV.int .i64 3), (PV.int .i64 4), (PV.int .i64 0)]] [[(PV.int .i64 1), (PV.int .i64 2)]] [[(PV.fs [[(PV.int .i64 0)], [(PV.int .i64 1)], [(PV.int .i64 2)]])], [(PV.fs [[(PV.int .i64 3)], [(PV.int .i64 0)], [(PV.int .i64 4)]])], [(PV.fs [[(PV.int .i64 5)], [(PV.int .i64 6)], [(PV.int .i64 0)]])]]) fun y25 =>
                    cond ((y25 == (0 : Int)) == b20) (
                      k0 false) (
                      instBounds_l6 n n13 k14 i15 (IntKind.i64.wrap (i16 + (1 : Int))) es17 k0 k1)
                  else none)) (
                cond (k14 == (3 : Int)) (
                  Option.bind (iCheck_d (List.set ([[(PV.int .i64 5), (PV.int .i64 1), (PV.int .i64 9)]] : List (List PV)) 0 [(PV.int .i64 5), (PV.int .i64 (IntKind.i64.wrap (0 - n13))), (PV.int .i64 9)]) [[(PV.int .i64 2), (PV.int .i64 0), (PV.int .i64 8), (PV.int .i64 1)], [(PV.int .i64 (-2)), (PV.int .i64 3), (PV.int .i64 4), (PV.int .i64 0)]] [[(PV.int .i64 1), (PV.int .i64 2)]] [[(PV.fs [[(PV.int .i64 0)], [(PV.int .i64 1)], [(PV.int .i64 2)]])], [(PV.fs [[(PV.int .i64 3)], [(PV.int .i64 0)], [(PV.int .i64 4)]])], [(PV.fs [[(PV.int .i64 5)], [(PV.int .i64 6)], [(PV.int .i64 0)]])]]) fun y32 =>
                  cond ((y32 == (0 : Int)) == b20) (
                    k0 false) (
                    instBounds_l6 n n13 k14 i15 (IntKind.i64.wrap (i16 + (1 : Int))) es17 k0 k1)) (
                  cond (k14 == (4 : Int)) (
                    Option.bind (iCheck_d (List.set ([[(PV.int .i64 5), (PV.int .i64 1), (PV.int .i64 9)]] : List (List PV)) 0 [(PV.int .i64 5), (PV.int .i64 1), (PV.int .i64 (IntKind.i64.wrap ((1000 : Int) + n13)))]) [[(PV.int .i64 2), (PV.int .i64 0), (PV.int .i64 8), (PV.int .i64 1)], [(PV.int .i64 (-2)), (PV.int .i64 3), (PV.int .i64 4), (PV.int .i64 0)]] [[(PV.int .i64 1), (PV.int .i64 2)]] [[(PV.fs [[(PV.int .i64 0)], [(PV.int .i64 1)], [(PV.int .i64 2)]])], [(PV.fs [[(PV.int .i64 3)], [(PV.int .i64 0)], [(PV.int .i64 4)]])], [(PV.fs [[(PV.int .i64 5)], [(PV.int .i64 6)], [(PV.int .i64 0)]])]]) fun y33 =>
                    cond ((y33 == (0 : Int)) == b20) (
                      k0 false) (
                      instBounds_l6 n n13 k14 i15 (IntKind.i64.wrap (i16 + (1 : Int))) es17 k0 k1)) (
                    cond (k14 == (5 : Int)) (
                      (fun (z2 : Option R) =>
                        meet (
                          meet (
                            z2) (
                            z2)) (
                          z2)) (
                        if 0 ≤ (1 : Int) ∧ (1 : Int) < ((List.set ([[(PV.int .i64 2), (PV.int .i64 0), (PV.int .i64 8), (PV.int .i64 1)], [(PV.int .i64 (-2)), (PV.int .i64 3), (PV.int .i64 4), (PV.int .i64 0)]] : List (List PV)) 0 [(PV.int .i64 (IntKind.i64.wrap ((20 : Int) + n13))), (PV.int .i64 0), (PV.int .i64 8), (PV.int .i64 1)]).length : Int) then
                          Option.bind ((List.set ([[(PV.int .i64 2), (PV.int .i64 0), (PV.int .i64 8), (PV.int .i64 1)], [(PV.int .i64 (-2)), (PV.int .i64 3), (PV.int .i64 4), (PV.int .i64 0)]] : List (List PV)) 0 [(PV.int .i64 (IntKind.i64.wrap ((20 : Int) + n13))), (PV.int .i64 0), (PV.int .i64 8), (PV.int .i64 1)])[1]?) fun e34 =>
                          Option.bind (e34[0]?) fun c35 =>
                          Option.bind (iCheck_d [[(PV.int .i64 5), (PV.int .i64 1), (PV.int .i64 9)]] (List.set (List.set ([[(PV.int .i64 2), (PV.int .i64 0), (PV.int .i64 8), (PV.int .i64 1)], [(PV.int .i64 (-2)), (PV.int .i64 3), (PV.int .i64 4), (PV.int .i64 0)]] : List (List PV)) 0 [(PV.int .i64 (IntKind.i64.wrap ((20 : Int) + n13))), (PV.int .i64 0), (PV.int .i64 8), (PV.int .i64 1)]) 1 (List.set e34 0 (PV.int .i64 (IntKind.i64.wrap ((-20 : Int) - n13))))) [[(PV.int .i64 1), (PV.int .i64 2)]] [[(PV.fs [[(PV.int .i64 0)], [(PV.int .i64 1)], [(PV.int .i64 2)]])], [(PV.fs [[(PV.int .i64 3)], [(PV.int .i64 0)], [(PV.int .i64 4)]])], [(PV.fs [[(PV.int .i64 5)], [(PV.int .i64 6)], [(PV.int .i64 0)]])]]) fun y36 =>
                          cond ((y36 == (0 : Int)) == b20) (
                            k0 false) (
                            instBounds_l6 n n13 k14 i15 (IntKind.i64.wrap (i16 + (1 : Int))) es17 k0 k1)
                        else none)) (
                      cond (k14 == (6 : Int)) (
                        Option.bind (iCheck_d [[(PV.int .i64 5), (PV.int .i64 1), (PV.int .i64 9)]] (List.set ([[(PV.int .i64 2), (PV.int .i64 0), (PV.int .i64 8), (PV.int .i64 1)], [(PV.int .i64 (-2)), (PV.int .i64 3), (PV.int .i64 4), (PV.int .i64 0)]] : List (List PV)) 1 [(PV.int .i64 (IntKind.i64.wrap ((-2 : Int) - n13))), (PV.int .i64 3), (PV.int .i64 4), (PV.int .i64 0)]) [[(PV.int .i64 1), (PV.int .i64 2)]] [[(PV.fs [[(PV.int .i64 0)], [(PV.int .i64 1)], [(PV.int .i64 2)]])], [(PV.fs [[(PV.int .i64 3)], [(PV.int .i64 0)], [(PV.int .i64 4)]])], [(PV.fs [[(PV.int .i64 5)], [(PV.int .i64 6)], [(PV.int .i64 0)]])]]) fun y43 =>
                        cond ((y43 == (0 : Int)) == b20) (
                          k0 false) (
                          instBounds_l6 n n13 k14 i15 (IntKind.i64.wrap (i16 + (1 : Int))) es17 k0 k1)) (
                        cond (k14 == (7 : Int)) (
                          Option.bind (iCheck_d [[(PV.int .i64 5), (PV.int .i64 1), (PV.int .i64 9)]] (List.set ([[(PV.int .i64 2), (PV.int .i64 0), (PV.int .i64 8), (PV.int .i64 1)], [(PV.int .i64 (-2)), (PV.int .i64 3), (PV.int .i64 4), (PV.int .i64 0)]] : List (List PV)) 0 [(PV.int .i64 2), (PV.int .i64 (IntKind.i64.wrap (0 - n13))), (PV.int .i64 8), (PV.int .i64 1)]) [[(PV.int .i64 1), (PV.int .i64 2)]] [[(PV.fs [[(PV.int .i64 0)], [(PV.int .i64 1)], [(PV.int .i64 2)]])], [(PV.fs [[(PV.int .i64 3)], [(PV.int .i64 0)], [(PV.int .i64 4)]])], [(PV.fs [[(PV.int .i64 5)], [(PV.int .i64 6)], [(PV.int .i64 0)]])]]) fun y44 =>
                          cond ((y44 == (0 : Int)) == b20) (
                            k0 false) (
                            instBounds_l6 n n13 k14 i15 (IntKind.i64.wrap (i16 + (1 : Int))) es17 k0 k1)) (
                          cond (k14 == (8 : Int)) (
                            Option.bind (iCheck_d [[(PV.int .i64 5), (PV.int .i64 1), (PV.int .i64 9)]] (List.set ([[(PV.int .i64 2), (PV.int .i64 0), (PV.int .i64 8), (PV.int .i64 1)], [(PV.int .i64 (-2)), (PV.int .i64 3), (PV.int .i64 4), (PV.int .i64 0)]] : List (List PV)) 0 [(PV.int .i64 2), (PV.int .i64 (IntKind.i64.wrap ((8 : Int) + n13))), (PV.int .i64 8), (PV.int .i64 1)]) [[(PV.int .i64 1), (PV.int .i64 2)]] [[(PV.fs [[(PV.int .i64 0)], [(PV.int .i64 1)], [(PV.int .i64 2)]])], [(PV.fs [[(PV.int .i64 3)], [(PV.int .i64 0)], [(PV.int .i64 4)]])], [(PV.fs [[(PV.int .i64 5)], [(PV.int .i64 6)], [(PV.int .i64 0)]])]]) fun y45 =>
                            cond ((y45 == (0 : Int)) == b20) (
                              k0 false) (
                              instBounds_l6 n n13 k14 i15 (IntKind.i64.wrap (i16 + (1 : Int))) es17 k0 k1)) (
                            cond (k14 == (9 : Int)) (
                              Option.bind (iCheck_d [[(PV.int .i64 5), (PV.int .i64 1), (PV.int .i64 9)]] (List.set ([[(PV.int .i64 2), (PV.int .i64 0), (PV.int .i64 8), (PV.int .i64 1)], [(PV.int .i64 (-2)), (PV.int .i64 3), (PV.int .i64 4), (PV.int .i64 0)]] : List (List PV)) 0 [(PV.int .i64 2), (PV.int .i64 0), (PV.int .i64 (IntKind.i64.wrap ((1000 : Int) + n13))), (PV.int .i64 1)]) [[(PV.int .i64 1), (PV.int .i64 2)]] [[(PV.fs [[(PV.int .i64 0)], [(PV.int .i64 1)], [(PV.int .i64 2)]])], [(PV.fs [[(PV.int .i64 3)], [(PV.int .i64 0)], [(PV.int .i64 4)]])], [(PV.fs [[(PV.int .i64 5)], [(PV.int .i64 6)], [(PV.int .i64 0)]])]]) fun y46 =>
                              cond ((y46 == (0 : Int)) == b20) (
                                k0 false) (
                                instBounds_l6 n n13 k14 i15 (IntKind.i64.wrap (i16 + (1 : Int))) es17 k0 k1)) (
                              cond (k14 == (10 : Int)) (
                                Option.bind (iCheck_d [[(PV.int .i64 5), (PV.int .i64 1), (PV.int .i64 9)]] (List.set ([[(PV.int .i64 2), (PV.int .i64 0), (PV.int .i64 8), (PV.int .i64 1)], [(PV.int .i64 (-2)), (PV.int .i64 3), (PV.int .i64 4), (PV.int .i64 0)]] : List (List PV)) 0 [(PV.int .i64 2), (PV.int .i64 0), (PV.int .i64 8), (PV.int .i64 (IntKind.i64.wrap (0 - n13)))]) [[(PV.int .i64 1), (PV.int .i64 2)]] [[(PV.fs [[(PV.int .i64 0)], [(PV.int .i64 1)], [(PV.int .i64 2)]])], [(PV.fs [[(PV.int .i64 3)], [(PV.int .i64 0)], [(PV.int .i64 4)]])], [(PV.fs [[(PV.int .i64 5)], [(PV.int .i64 6)], [(PV.int .i64 0)]])]]) fun y47 =>
                                cond ((y47 == (0 : Int)) == b20) (
                                  k0 false) (
                                  instBounds_l6 n n13 k14 i15 (IntKind.i64.wrap (i16 + (1 : Int))) es17 k0 k1)) (
                                cond (k14 == (11 : Int)) (
                                  Option.bind (iCheck_d [[(PV.int .i64 5), (PV.int .i64 1), (PV.int .i64 9)]] (List.set ([[(PV.int .i64 2), (PV.int .i64 0), (PV.int .i64 8), (PV.int .i64 1)], [(PV.int .i64 (-2)), (PV.int .i64 3), (PV.int .i64 4), (PV.int .i64 0)]] : List (List PV)) 0 [(PV.int .i64 2), (PV.int .i64 0), (PV.int .i64 8), (PV.int .i64 (IntKind.i64.wrap ((1000 : Int) + n13)))]) [[(PV.int .i64 1), (PV.int .i64 2)]] [[(PV.fs [[(PV.int .i64 0)], [(PV.int .i64 1)], [(PV.int .i64 2)]])], [(PV.fs [[(PV.int .i64 3)], [(PV.int .i64 0)], [(PV.int .i64 4)]])], [(PV.fs [[(PV.int .i64 5)], [(PV.int .i64 6)], [(PV.int .i64 0)]])]]) fun y48 =>
                                  cond ((y48 == (0 : Int)) == b20) (
                                    k0 false) (
                                    instBounds_l6 n n13 k14 i15 (IntKind.i64.wrap (i16 + (1 : Int))) es17 k0 k1)) (
                                  cond (k14 == (12 : Int)) (
                                    Option.bind (iCheck_d [[(PV.int .i64 5), (PV.int .i64 1), (PV.int .i64 9)]] [[(PV.int .i64 2), (PV.int .i64 0), (PV.int .i64 8), (PV.int .i64 1)], [(PV.int .i64 (-2)), (PV.int .i64 3), (PV.int .i64 4), (PV.int .i64 0)]] [[(PV.int .i64 1), (PV.int .i64 2)]] [[(PV.fs [[(PV.int .i64 0)], [(PV.int .i64 1)], [(PV.int .i64 2)]])], [(PV.fs (List.set ([[(PV.int .i64 3)], [(PV.int .i64 0)], [(PV.int .i64 4)]] : List (List PV)) 2 [(PV.int .i64 (IntKind.i64.wrap ((1000 : Int) + n13)))]))], [(PV.fs [[(PV.int .i64 5)], [(PV.int .i64 6)], [(PV.int .i64 0)]])]]) fun y49 =>
                                    cond ((y49 == (0 : Int)) == b20) (
                                      k0 false) (
                                      instBounds_l6 n n13 k14 i15 (IntKind.i64.wrap (i16 + (1 : Int))) es17 k0 k1)) (
                                    cond (k14 == (13 : Int)) (
                                      Option.bind (iCheck_d [[(PV.int .i64 5), (PV.int .i64 1), (PV.int .i64 9)]] [[(PV.int .i64 2), (PV.int .i64 0), (PV.int .i64 8), (PV.int .i64 1)], [(PV.int .i64 (-2)), (PV.int .i64 3), (PV.int .i64 4), (PV.int .i64 0)]] [[(PV.int .i64 1), (PV.int .i64 2)]] [[(PV.fs [[(PV.int .i64 0)], [(PV.int .i64 1)], [(PV.int .i64 2)]])], [(PV.fs (List.set ([[(PV.int .i64 3)], [(PV.int .i64 0)], [(PV.int .i64 4)]] : List (List PV)) 2 [(PV.int .i64 (IntKind.i64.wrap (0 - n13)))]))], [(PV.fs [[(PV.int .i64 5)], [(PV.int .i64 6)], [(PV.int .i64 0)]])]]) fun y50 =>
                                      cond ((y50 == (0 : Int)) == b20) (
                                        k0 false) (
                                        instBounds_l6 n n13 k14 i15 (IntKind.i64.wrap (i16 + (1 : Int))) es17 k0 k1)) (
                                      cond (k14 == (14 : Int)) (
                                        Option.bind (iCheck_d [[(PV.int .i64 5), (PV.int .i64 1), (PV.int .i64 9)]] [[(PV.int .i64 2), (PV.int .i64 0), (PV.int .i64 8), (PV.int .i64 1)], [(PV.int .i64 (-2)), (PV.int .i64 3), (PV.int .i64 4), (PV.int .i64 0)]] [[(PV.int .i64 1), (PV.int .i64 2)]] [[(PV.fs [[(PV.int .i64 0)], [(PV.int .i64 1)], [(PV.int .i64 2)]])], [(PV.fs [[(PV.int .i64 3)], [(PV.int .i64 0)], [(PV.int .i64 4)]])], [(PV.fs (List.set ([[(PV.int .i64 5)], [(PV.int .i64 6)], [(PV.int .i64 0)]] : List (List PV)) 2 [(PV.int .i64 n13)]))]]) fun y51 =>
                                        cond ((y51 == (0 : Int)) == b20) (
                                          k0 false) (
                                          instBounds_l6 n n13 k14 i15 (IntKind.i64.wrap (i16 + (1 : Int))) es17 k0 k1)) (
                                        Option.bind (iCheck_d [[(PV.int .i64 5), (PV.int .i64 1), (PV.int .i64 9)]] [[(PV.int .i64 2), (PV.int .i64 0), (PV.int .i64 8), (PV.int .i64 1)], [(PV.int .i64 (-2)), (PV.int .i64 3), (PV.int .i64 4), (PV.int .i64 0)]] (List.set ([[(PV.int .i64 1), (PV.int .i64 2)]] : List (List PV)) 0 [(PV.int .i64 1), (PV.int .i64 (IntKind.i64.wrap ((2 : Int) + n13)))]) [[(PV.fs [[(PV.int .i64 0)], [(PV.int .i64 1)], [(PV.int .i64 2)]])], [(PV.fs [[(PV.int .i64 3)], [(PV.int .i64 0)], [(PV.int .i64 4)]])], [(PV.fs [[(PV.int .i64 5)], [(PV.int .i64 6)], [(PV.int .i64 0)]])]]) fun y52 =>
                                        cond ((y52 == (0 : Int)) == b20) (
                                          k0 false) (
                                          instBounds_l6 n n13 k14 i15 (IntKind.i64.wrap (i16 + (1 : Int))) es17 k0 k1))))))))))))))))) (
          cond (k14 == (0 : Int)) (
            Option.bind (iCheck_d (List.set ([[(PV.int .i64 5), (PV.int .i64 1), (PV.int .i64 9)]] : List (List PV)) 0 [(PV.int .i64 60), (PV.int .i64 1), (PV.int .i64 9)]) [[(PV.int .i64 2), (PV.int .i64 0), (PV.int .i64 8), (PV.int .i64 1)], [(PV.int .i64 (-2)), (PV.int .i64 3), (PV.int .i64 4), (PV.int .i64 0)]] [[(PV.int .i64 1), (PV.int .i64 2)]] [[(PV.fs [[(PV.int .i64 0)], [(PV.int .i64 1)], [(PV.int .i64 2)]])], [(PV.fs [[(PV.int .i64 3)], [(PV.int .i64 0)], [(PV.int .i64 4)]])], [(PV.fs [[(PV.int .i64 5)], [(PV.int .i64 6)], [(PV.int .i64 0)]])]]) fun y53 =>
            cond ((y53 == (0 : Int)) == b20) (
              k0 false) (
              instBounds_l6 n n13 k14 i15 (IntKind.i64.wrap (i16 + (1 : Int))) es17 k0 k1)) (
            cond (k14 == (1 : Int)) (
              Option.bind (iCheck_d (List.set ([[(PV.int .i64 5), (PV.int .i64 1), (PV.int .i64 9)]] : List (List PV)) 0 [(PV.int .i64 0), (PV.int .i64 1), (PV.int .i64 9)]) [[(PV.int .i64 2), (PV.int .i64 0), (PV.int .i64 8), (PV.int .i64 1)], [(PV.int .i64 (-2)), (PV.int .i64 3), (PV.int .i64 4), (PV.int .i64 0)]] [[(PV.int .i64 1), (PV.int .i64 2)]] [[(PV.fs [[(PV.int .i64 0)], [(PV.int .i64 1)], [(PV.int .i64 2)]])], [(PV.fs [[(PV.int .i64 3)], [(PV.int .i64 0)], [(PV.int .i64 4)]])], [(PV.fs [[(PV.int .i64 5)], [(PV.int .i64 6)], [(PV.int .i64 0)]])]]) fun y54 =>
              cond ((y54 == (0 : Int)) == b20) (
                k0 false) (
                instBounds_l6 n n13 k14 i15 (IntKind.i64.wrap (i16 + (1 : Int))) es17 k0 k1)) (
              cond (k14 == (2 : Int)) (
                (fun (z3 : Option R) =>
                  meet (
                    meet (
                      z3) (
                      z3)) (
                    z3)) (
                  if 0 ≤ (0 : Int) ∧ (0 : Int) < ((List.set ([[(PV.int .i64 5), (PV.int .i64 1), (PV.int .i64 9)]] : List (List PV)) 0 [(PV.int .i64 5), (PV.int .i64 9), (PV.int .i64 9)]).length : Int) then
                    Option.bind ((List.set ([[(PV.int .i64 5), (PV.int .i64 1), (PV.int .i64 9)]] : List (List PV)) 0 [(PV.int .i64 5), (PV.int .i64 9), (PV.int .i64 9)])[0]?) fun e55 =>
                    Option.bind (e55[2]?) fun c56 =>
                    Option.bind (iCheck_d (List.set (List.set ([[(PV.int .i64 5), (PV.int .i64 1), (PV.int .i64 9)]] : List (List PV)) 0 [(PV.int .i64 5), (PV.int .i64 9), (PV.int .i64 9)]) 0 (List.set e55 2 (PV.int .i64 9))) [[(PV.int .i64 2), (PV.int .i64 0), (PV.int .i64 8), (PV.int .i64 1)], [(PV.int .i64 (-2)), (PV.int .i64 3), (PV.int .i64 4), (PV.int .i64 0)]] [[(PV.int .i64 1), (PV.int .i64 2)]] [[(PV.fs [[(PV.int .i64 0)], [(PV.int .i64 1)], [(PV.int .i64 2)]])], [(PV.fs [[(PV.int .i64 3)], [(PV.int .i64 0)], [(PV.int .i64 4)]])], [(PV.fs [[(PV.int .i64 5)], [(PV.int .i64 6)], [(PV.int .i64 0)]])]]) fun y57 =>
                    cond ((y57 == (0 : Int)) == b20) (
                      k0 false) (
                      instBounds_l6 n n13 k14 i15 (IntKind.i64.wrap (i16 + (1 : Int))) es17 k0 k1)
                  else none)) (
                cond (k14 == (3 : Int)) (
                  Option.bind (iCheck_d (List.set ([[(PV.int .i64 5), (PV.int .i64 1), (PV.int .i64 9)]] : List (List PV)) 0 [(PV.int .i64 5), (PV.int .i64 0), (PV.int .i64 9)]) [[(PV.int .i64 2), (PV.int .i64 0), (PV.int .i64 8), (PV.int .i64 1)], [(PV.int .i64 (-2)), (PV.int .i64 3), (PV.int .i64 4), (PV.int .i64 0)]] [[(PV.int .i64 1), (PV.int .i64 2)]] [[(PV.fs [[(PV.int .i64 0)], [(PV.int .i64 1)], [(PV.int .i64 2)]])], [(PV.fs [[(PV.int .i64 3)], [(PV.int .i64 0)], [(PV.int .i64 4)]])], [(PV.fs [[(PV.int .i64 5)], [(PV.int .i64 6)], [(PV.int .i64 0)]])]]) fun y64 =>
                  cond ((y64 == (0 : Int)) == b20) (
                    k0 false) (
                    instBounds_l6 n n13 k14 i15 (IntKind.i64.wrap (i16 + (1 : Int))) es17 k0 k1)) (
                  cond (k14 == (4 : Int)) (
                    Option.bind (iCheck_d (List.set ([[(PV.int .i64 5), (PV.int .i64 1), (PV.int .i64 9)]] : List (List PV)) 0 [(PV.int .i64 5), (PV.int .i64 1), (PV.int .i64 1000)]) [[(PV.int .i64 2), (PV.int .i64 0), (PV.int .i64 8), (PV.int .i64 1)], [(PV.int .i64 (-2)), (PV.int .i64 3), (PV.int .i64 4), (PV.int .i64 0)]] [[(PV.int .i64 1), (PV.int .i64 2)]] [[(PV.fs [[(PV.int .i64 0)], [(PV.int .i64 1)], [(PV.int .i64 2)]])], [(PV.fs [[(PV.int .i64 3)], [(PV.int .i64 0)], [(PV.int .i64 4)]])], [(PV.fs [[(PV.int .i64 5)], [(PV.int .i64 6)], [(PV.int .i64 0)]])]]) fun y65 =>
                    cond ((y65 == (0 : Int)) == b20) (
                      k0 false) (
                      instBounds_l6 n n13 k14 i15 (IntKind.i64.wrap (i16 + (1 : Int))) es17 k0 k1)) (
                    cond (k14 == (5 : Int)) (
                      (fun (z4 : Option R) =>
                        meet (
                          meet (
                            z4) (
                            z4)) (
                          z4)) (
                        if 0 ≤ (1 : Int) ∧ (1 : Int) < ((List.set ([[(PV.int .i64 2), (PV.int .i64 0), (PV.int .i64 8), (PV.int .i64 1)], [(PV.int .i64 (-2)), (PV.int .i64 3), (PV.int .i64 4), (PV.int .i64 0)]] : List (List PV)) 0 [(PV.int .i64 20), (PV.int .i64 0), (PV.int .i64 8), (PV.int .i64 1)]).length : Int) then
                          Option.bind ((List.set ([[(PV.int .i64 2), (PV.int .i64 0), (PV.int .i64 8), (PV.int .i64 1)], [(PV.int .i64 (-2)), (PV.int .i64 3), (PV.int .i64 4), (PV.int .i64 0)]] : List (List PV)) 0 [(PV.int .i64 20), (PV.int .i64 0), (PV.int .i64 8), (PV.int .i64 1)])[1]?) fun e66 =>
                          Option.bind (e66[0]?) fun c67 =>
                          Option.bind (iCheck_d [[(PV.int .i64 5), (PV.int .i64 1), (PV.int .i64 9)]] (List.set (List.set ([[(PV.int .i64 2), (PV.int .i64 0), (PV.int .i64 8), (PV.int .i64 1)], [(PV.int .i64 (-2)), (PV.int .i64 3), (PV.int .i64 4), (PV.int .i64 0)]] : List (List PV)) 0 [(PV.int .i64 20), (PV.int .i64 0), (PV.int .i64 8), (PV.int .i64 1)]) 1 (List.set e66 0 (PV.int .i64 (-20)))) [[(PV.int .i64 1), (PV.int .i64 2)]] [[(PV.fs [[(PV.int .i64 0)], [(PV.int .i64 1)], [(PV.int .i64 2)]])], [(PV.fs [[(PV.int .i64 3)], [(PV.int .i64 0)], [(PV.int .i64 4)]])], [(PV.fs [[(PV.int .i64 5)], [(PV.int .i64 6)], [(PV.int .i64 0)]])]]) fun y68 =>
                          cond ((y68 == (0 : Int)) == b20) (
                            k0 false) (
                            instBounds_l6 n n13 k14 i15 (IntKind.i64.wrap (i16 + (1 : Int))) es17 k0 k1)
                        else none)) (
                      cond (k14 == (6 : Int)) (
                        Option.bind (iCheck_d [[(PV.int .i64 5), (PV.int .i64 1), (PV.int .i64 9)]] (List.set ([[(PV.int .i64 2), (PV.int .i64 0), (PV.int .i64 8), (PV.int .i64 1)], [(PV.int .i64 (-2)), (PV.int .i64 3), (PV.int .i64 4), (PV.int .i64 0)]] : List (List PV)) 1 [(PV.int .i64 (-2)), (PV.int .i64 3), (PV.int .i64 4), (PV.int .i64 0)]) [[(PV.int .i64 1), (PV.int .i64 2)]] [[(PV.fs [[(PV.int .i64 0)], [(PV.int .i64 1)], [(PV.int .i64 2)]])], [(PV.fs [[(PV.int .i64 3)], [(PV.int .i64 0)], [(PV.int .i64 4)]])], [(PV.fs [[(PV.int .i64 5)], [(PV.int .i64 6)], [(PV.int .i64 0)]])]]) fun y75 =>
                        cond ((y75 == (0 : Int)) == b20) (
                          k0 false) (
                          instBounds_l6 n n13 k14 i15 (IntKind.i64.wrap (i16 + (1 : Int))) es17 k0 k1)) (
                        cond (k14 == (7 : Int)) (
                          Option.bind (iCheck_d [[(PV.int .i64 5), (PV.int .i64 1), (PV.int .i64 9)]] (List.set ([[(PV.int .i64 2), (PV.int .i64 0), (PV.int .i64 8), (PV.int .i64 1)], [(PV.int .i64 (-2)), (PV.int .i64 3), (PV.int .i64 4), (PV.int .i64 0)]] : List (List PV)) 0 [(PV.int .i64 2), (PV.int .i64 0), (PV.int .i64 8), (PV.int .i64 1)]) [[(PV.int .i64 1), (PV.int .i64 2)]] [[(PV.fs [[(PV.int .i64 0)], [(PV.int .i64 1)], [(PV.int .i64 2)]])], [(PV.fs [[(PV.int .i64 3)], [(PV.int .i64 0)], [(PV.int .i64 4)]])], [(PV.fs [[(PV.int .i64 5)], [(PV.int .i64 6)], [(PV.int .i64 0)]])]]) fun y76 =>
                          cond ((y76 == (0 : Int)) == b20) (
                            k0 false) (
                            instBounds_l6 n n13 k14 i15 (IntKind.i64.wrap (i16 + (1 : Int))) es17 k0 k1)) (
                          cond (k14 == (8 : Int)) (
                            Option.bind (iCheck_d [[(PV.int .i64 5), (PV.int .i64 1), (PV.int .i64 9)]] (List.set ([[(PV.int .i64 2), (PV.int .i64 0), (PV.int .i64 8), (PV.int .i64 1)], [(PV.int .i64 (-2)), (PV.int .i64 3), (PV.int .i64 4), (PV.int .i64 0)]] : List (List PV)) 0 [(PV.int .i64 2), (PV.int .i64 8), (PV.int .i64 8), (PV.int .i64 1)]) [[(PV.int .i64 1), (PV.int .i64 2)]] [[(PV.fs [[(PV.int .i64 0)], [(PV.int .i64 1)], [(PV.int .i64 2)]])], [(PV.fs [[(PV.int .i64 3)], [(PV.int .i64 0)], [(PV.int .i64 4)]])], [(PV.fs [[(PV.int .i64 5)], [(PV.int .i64 6)], [(PV.int .i64 0)]])]]) fun y77 =>
                            cond ((y77 == (0 : Int)) == b20) (
                              k0 false) (
                              instBounds_l6 n n13 k14 i15 (IntKind.i64.wrap (i16 + (1 : Int))) es17 k0 k1)) (
                            cond (k14 == (9 : Int)) (
                              Option.bind (iCheck_d [[(PV.int .i64 5), (PV.int .i64 1), (PV.int .i64 9)]] (List.set ([[(PV.int .i64 2), (PV.int .i64 0), (PV.int .i64 8), (PV.int .i64 1)], [(PV.int .i64 (-2)), (PV.int .i64 3), (PV.int .i64 4), (PV.int .i64 0)]] : List (List PV)) 0 [(PV.int .i64 2), (PV.int .i64 0), (PV.int .i64 1000), (PV.int .i64 1)]) [[(PV.int .i64 1), (PV.int .i64 2)]] [[(PV.fs [[(PV.int .i64 0)], [(PV.int .i64 1)], [(PV.int .i64 2)]])], [(PV.fs [[(PV.int .i64 3)], [(PV.int .i64 0)], [(PV.int .i64 4)]])], [(PV.fs [[(PV.int .i64 5)], [(PV.int .i64 6)], [(PV.int .i64 0)]])]]) fun y78 =>
                              cond ((y78 == (0 : Int)) == b20) (
                                k0 false) (
                                instBounds_l6 n n13 k14 i15 (IntKind.i64.wrap (i16 + (1 : Int))) es17 k0 k1)) (
                              cond (k14 == (10 : Int)) (
                                Option.bind (iCheck_d [[(PV.int .i64 5), (PV.int .i64 1), (PV.int .i64 9)]] (List.set ([[(PV.int .i64 2), (PV.int .i64 0), (PV.int .i64 8), (PV.int .i64 1)], [(PV.int .i64 (-2)), (PV.int .i64 3), (PV.int .i64 4), (PV.int .i64 0)]] : List (List PV)) 0 [(PV.int .i64 2), (PV.int .i64 0), (PV.int .i64 8), (PV.int .i64 0)]) [[(PV.int .i64 1), (PV.int .i64 2)]] [[(PV.fs [[(PV.int .i64 0)], [(PV.int .i64 1)], [(PV.int .i64 2)]])], [(PV.fs [[(PV.int .i64 3)], [(PV.int .i64 0)], [(PV.int .i64 4)]])], [(PV.fs [[(PV.int .i64 5)], [(PV.int .i64 6)], [(PV.int .i64 0)]])]]) fun y79 =>
                                cond ((y79 == (0 : Int)) == b20) (
                                  k0 false) (
                                  instBounds_l6 n n13 k14 i15 (IntKind.i64.wrap (i16 + (1 : Int))) es17 k0 k1)) (
                                cond (k14 == (11 : Int)) (
                                  Option.bind (iCheck_d [[(PV.int .i64 5), (PV.int .i64 1), (PV.int .i64 9)]] (List.set ([[(PV.int .i64 2), (PV.int .i64 0), (PV.int .i64 8), (PV.int .i64 1)], [(PV.int .i64 (-2)), (PV.int .i64 3), (PV.int .i64 4), (PV.int .i64 0)]] : List (List PV)) 0 [(PV.int .i64 2), (PV.int .i64 0), (PV.int .i64 8), (PV.int .i64 1000)]) [[(PV.int .i64 1), (PV.int .i64 2)]] [[(PV.fs [[(PV.int .i64 0)], [(PV.int .i64 1)], [(PV.int .i64 2)]])], [(PV.fs [[(PV.int .i64 3)], [(PV.int .i64 0)], [(PV.int .i64 4)]])], [(PV.fs [[(PV.int .i64 5)], [(PV.int .i64 6)], [(PV.int .i64 0)]])]]) fun y80 =>
                                  cond ((y80 == (0 : Int)) == b20) (
                                    k0 false) (
                                    instBounds_l6 n n13 k14 i15 (IntKind.i64.wrap (i16 + (1 : Int))) es17 k0 k1)) (
                                  cond (k14 == (12 : Int)) (
                                    Option.bind (iCheck_d [[(PV.int .i64 5), (PV.int .i64 1), (PV.int .i64 9)]] [[(PV.int .i64 2), (PV.int .i64 0), (PV.int .i64 8), (PV.int .i64 1)], [(PV.int .i64 (-2)), (PV.int .i64 3), (PV.int .i64 4), (PV.int .i64 0)]] [[(PV.int .i64 1), (PV.int .i64 2)]] [[(PV.fs [[(PV.int .i64 0)], [(PV.int .i64 1)], [(PV.int .i64 2)]])], [(PV.fs (List.set ([[(PV.int .i64 3)], [(PV.int .i64 0)], [(PV.int .i64 4)]] : List (List PV)) 2 [(PV.int .i64 1000)]))], [(PV.fs [[(PV.int .i64 5)], [(PV.int .i64 6)], [(PV.int .i64 0)]])]]) fun y81 =>
                                    cond ((y81 == (0 : Int)) == b20) (
                                      k0 false) (
                                      instBounds_l6 n n13 k14 i15 (IntKind.i64.wrap (i16 + (1 : Int))) es17 k0 k1)) (
                                    cond (k14 == (13 : Int)) (
                                      Option.bind (iCheck_d [[(PV.int .i64 5), (PV.int .i64 1), (PV.int .i64 9)]] [[(PV.int .i64 2), (PV.int .i64 0), (PV.int .i64 8), (PV.int .i64 1)], [(PV.int .i64 (-2)), (PV.int .i64 3), (PV.int .i64 4), (PV.int .i64 0)]] [[(PV.int .i64 1), (PV.int .i64 2)]] [[(PV.fs [[(PV.int .i64 0)], [(PV.int .i64 1)], [(PV.int .i64 2)]])], [(PV.fs (List.set ([[(PV.int .i64 3)], [(PV.int .i64 0)], [(PV.int .i64 4)]] : List (List PV)) 2 [(PV.int .i64 0)]))], [(PV.fs [[(PV.int .i64 5)], [(PV.int .i64 6)], [(PV.int .i64 0)]])]]) fun y82 =>
                                      cond ((y82 == (0 : Int)) == b20) (
                                        k0 false) (
                                        instBounds_l6 n n13 k14 i15 (IntKind.i64.wrap (i16 + (1 : Int))) es17 k0 k1)) (
                                      cond (k14 == (14 : Int)) (
                                        Option.bind (iCheck_d [[(PV.int .i64 5), (PV.int .i64 1), (PV.int .i64 9)]] [[(PV.int .i64 2), (PV.int .i64 0), (PV.int .i64 8), (PV.int .i64 1)], [(PV.int .i64 (-2)), (PV.int .i64 3), (PV.int .i64 4), (PV.int .i64 0)]] [[(PV.int .i64 1), (PV.int .i64 2)]] [[(PV.fs [[(PV.int .i64 0)], [(PV.int .i64 1)], [(PV.int .i64 2)]])], [(PV.fs [[(PV.int .i64 3)], [(PV.int .i64 0)], [(PV.int .i64 4)]])], [(PV.fs (List.set ([[(PV.int .i64 5)], [(PV.int .i64 6)], [(PV.int .i64 0)]] : List (List PV)) 2 [(PV.int .i64 0)]))]]) fun y83 =>
                                        cond ((y83 == (0 : Int)) == b20) (
                                          k0 false) (
                                          instBounds_l6 n n13 k14 i15 (IntKind.i64.wrap (i16 + (1 : Int))) es17 k0 k1)) (
                                        Option.bind (iCheck_d [[(PV.int .i64 5), (PV.int .i64 1), (PV.int .i64 9)]] [[(PV.int .i64 2), (PV.int .i64 0), (PV.int .i64 8), (PV.int .i64 1)], [(PV.int .i64 (-2)), (PV.int .i64 3), (PV.int .i64 4), (PV.int .i64 0)]] (List.set ([[(PV.int .i64 1), (PV.int .i64 2)]] : List (List PV)) 0 [(PV.int .i64 1), (PV.int .i64 2)]) [[(PV.fs [[(PV.int .i64 0)], [(PV.int .i64 1)], [(PV.int .i64 2)]])], [(PV.fs [[(PV.int .i64 3)], [(PV.int .i64 0)], [(PV.int .i64 4)]])], [(PV.fs [[(PV.int .i64 5)], [(PV.int .i64 6)], [(PV.int .i64 0)]])]]) fun y84 =>
                                        cond ((y84 == (0 : Int)) == b20) (
                                          k0 false) (
                                          instBounds_l6 n n13 k14 i15 (IntKind.i64.wrap (i16 + (1 : Int))) es17 k0 k1)))))))))))))))))
      else none) (
      k1 n13 k14)
def instBounds_l3 {R : Type} : Nat → Int → Int → (Unit → Option R) → (Bool → Option R) → Option R
  | 0, _, _, _, _ => none
  | n + 1, n8, k9, k0, k1 =>
    cond (decide (k9 < (16 : Int))) (
      instBounds_l6 n n8 k9 2 0 [[(PV.bool false)], [(PV.bool true)]] k1
        (fun (n11 : Int) (k12 : Int) =>
          instBounds_l3 n n11 (IntKind.i64.wrap (k12 + (1 : Int))) k0 k1)) (
      k0 ())
def instBounds_b {R : Type} (n : Nat) (n1 : Int) (k : Bool → Option R) : Option R :=
  Option.bind (within_d n1 1099511627776) fun y2 =>
  instBounds_l3 n (IntKind.i64.wrap ((1 : Int) + y2)) 0
    (fun (_ : Unit) =>
      Option.bind (iCheck_d [[(PV.int .i64 5), (PV.int .i64 1), (PV.int .i64 9)]] [[(PV.int .i64 2), (PV.int .i64 0), (PV.int .i64 8), (PV.int .i64 1)], [(PV.int .i64 (-2)), (PV.int .i64 3), (PV.int .i64 4), (PV.int .i64 0)]] [[(PV.int .i64 2), (PV.int .i64 1)]] [[(PV.fs [[(PV.int .i64 0)], [(PV.int .i64 1)], [(PV.int .i64 2)]])], [(PV.fs [[(PV.int .i64 3)], [(PV.int .i64 0)], [(PV.int .i64 4)]])], [(PV.fs [[(PV.int .i64 5)], [(PV.int .i64 6)], [(PV.int .i64 0)]])]]) fun y3 =>
      cond (y3 == (1 : Int)) (
        Option.bind (iCheck_d [[(PV.int .i64 5), (PV.int .i64 1), (PV.int .i64 9)]] [[(PV.int .i64 2), (PV.int .i64 0), (PV.int .i64 8), (PV.int .i64 1)], [(PV.int .i64 (-2)), (PV.int .i64 3), (PV.int .i64 4), (PV.int .i64 0)]] [[(PV.int .i64 1), (PV.int .i64 2)], [(PV.int .i64 1), (PV.int .i64 2)]] [[(PV.fs [[(PV.int .i64 0)], [(PV.int .i64 1)], [(PV.int .i64 2)]])], [(PV.fs [[(PV.int .i64 3)], [(PV.int .i64 0)], [(PV.int .i64 4)]])], [(PV.fs [[(PV.int .i64 5)], [(PV.int .i64 6)], [(PV.int .i64 0)]])]]) fun y4 =>
        cond (y4 == (1 : Int)) (
          Option.bind (iCheck_d [[(PV.int .i64 5), (PV.int .i64 1), (PV.int .i64 9)]] [[(PV.int .i64 2), (PV.int .i64 0), (PV.int .i64 8), (PV.int .i64 1)], [(PV.int .i64 (-2)), (PV.int .i64 3), (PV.int .i64 4), (PV.int .i64 0)]] [[(PV.int .i64 1), (PV.int .i64 1)]] [[(PV.fs [[(PV.int .i64 0)], [(PV.int .i64 1)], [(PV.int .i64 2)]])], [(PV.fs [[(PV.int .i64 3)], [(PV.int .i64 0)], [(PV.int .i64 4)]])], [(PV.fs [[(PV.int .i64 5)], [(PV.int .i64 6)], [(PV.int .i64 0)]])]]) fun y5 =>
          cond (y5 == (1 : Int)) (
            Option.bind (wakes03_d) fun y6 =>
            k y6) (
            k false)) (
          k false)) (
        k false)) k
def instBounds_E (y : Bool) : PV × List PV := ((PV.bool y), [])
def instBounds_D : List PV → Option (Bool)
  | [(PV.int .i64 n1)] => sInstBounds n1
  | _ => none
def instBounds_Γ : List (Nat × Cal) := [(4, .ctr within_C), (5, small03_I), (6, .ctr iCheck_C), (7, .ctr wakes03_C)]
def instBounds_C : Ctr := ⟨[none], Bool, instBounds_D, instBounds_E, true, .d⟩
def instBounds_cfg : List (Nat × LC) := [(3, ⟨[0, 3], [], [], [], []⟩),
  (6, ⟨[0, 3, 18, 19, 20], [], [], [], []⟩),
  (1003000, ⟨[], [], [], [], []⟩),
  (2000006, ⟨[2], [], [], [], []⟩),
  (1006002, ⟨[0, 3], [], [], [], []⟩),
  (2000003, ⟨[2], [], [], [], []⟩)]
def instBounds_p6 : SP := ⟨sparse .undef [(0, (.val (.int .i64))), (3, (.val (.int .i64))), (18, (.ow 0)), (19, (.val (.int .i64))), (20, (.val (.int .i64)))] 0 203, [(.row 1)], []⟩
def instBounds_p3 : SP := ⟨sparse .undef [(0, (.val (.int .i64))), (3, (.val (.int .i64)))] 0 203, [], []⟩
def instBounds_pat : Nat → Option SP
  | 6 => some instBounds_p6
  | 3 => some instBounds_p3
  | _ => none
def instBounds_patj : Nat → Option SP
  | _ => none
def instBounds_L6 (n : Nat) (ls : List Leaf) (R : Type) (k : Ex → St → Option R) : Option R :=
  match ls with
  | [.int n13, .int k14, .int i15, .int i16, .rows es17] => instBounds_l6 n n13 k14 i15 i16 es17 (fun y1085 => k .ret ⟨sparse .undef [(2, (TV.val (PV.bool y1085)))] 0 203, [], []⟩)
      (fun y1086 y1087 => k (.exit 2) ⟨sparse .undef [(0, (TV.val (PV.int .i64 y1086))), (3, (TV.val (PV.int .i64 y1087)))] 0 203, [], []⟩)
  | _ => none
def instBounds_L3 (n : Nat) (ls : List Leaf) (R : Type) (k : Ex → St → Option R) : Option R :=
  match ls with
  | [.int n8, .int k9] => instBounds_l3 n n8 k9 (fun _ => k (.exit 0) ⟨sparse .undef [] 0 203, [], []⟩)
      (fun y2088 => k .ret ⟨sparse .undef [(2, (TV.val (PV.bool y2088)))] 0 203, [], []⟩)
  | _ => none
def instBounds_L (n key : Nat) (ls : List Leaf) (R : Type) (k : Ex → St → Option R) : Option R :=
  match key with
  | 6 => instBounds_L6 n ls R k
  | 3 => instBounds_L3 n ls R k
  | _ => none
def instBounds_J (n key : Nat) (ls : List Leaf) (R : Type) (k : Ex → St → Option R) : Option R :=
  match key with
  | _ => none
def instBounds_on : Code → Bool := fun _ => false
def instBounds_Λ : Nat → Loops := patL (normBy instBounds_cfg) instBounds_pat instBounds_L (normJ instBounds_cfg) instBounds_on instBounds_patj instBounds_J
theorem instBounds_step3 (n : Nat) (n8 : Int) (k9 : Int)  (R : Type) (k : Ex → St → Option R) :
    roundK T G0 (ctrOf instBounds_Γ) (normBy instBounds_cfg) (instBounds_Λ n) (codeAt [1, 1, 0, 1, 0, 0] (bodyOf Try.f3)) (buildSt instBounds_p3 [.int n8, .int k9]) R k = instBounds_L3 (n + 1) [.int n8, .int k9] R k := by kernel_rfl
theorem instBounds_step6 (n : Nat) (n13 : Int) (k14 : Int) (i15 : Int) (i16 : Int) (es17 : List (List PV))  (R : Type) (k : Ex → St → Option R) :
    roundK T G0 (ctrOf instBounds_Γ) (normBy instBounds_cfg) (instBounds_Λ n) (codeAt [1, 1, 0, 1, 0, 0, 1, 0, 0, 1, 0, 0] (bodyOf Try.f3)) (buildSt instBounds_p6 [.int n13, .int k14, .int i15, .int i16, .rows es17]) R k = instBounds_L6 (n + 1) [.int n13, .int k14, .int i15, .int i16, .rows es17] R k := by kernel_rfl
theorem instBounds_eq (n : Nat) (n1 : Int) :
    funK T G0 (ctrOf instBounds_Γ) (instBounds_Λ n) .d true [none] (funOf Try.f3) [(PV.int .i64 n1)] = instBounds_b n  n1 (fun a0 => some (instBounds_E a0)) := by kernel_rfl
theorem instBounds_inv {ps : List PV} {y : Bool} (h : instBounds_D ps = some y) : ∃ (n1 : Int), ps = [(PV.int .i64 n1)] := by
  unfold instBounds_D at h
  split at h
  · exact ⟨_, rfl⟩
  · cases h
theorem instBounds_loops : loopsOf (bodyOf Try.f3) = [codeAt [1, 1, 0, 1, 0, 0] (bodyOf Try.f3), codeAt [1, 1, 0, 1, 0, 0, 1, 0, 0, 1, 0, 0] (bodyOf Try.f3)] := by kernel_rfl
theorem instBounds_holds (hΓ : HoldsAll Try.prog G0 instBounds_Γ) (hok : ∀ (n1 : Int) (y : Bool), sInstBounds n1 = some y → ∃ n, ∀ (R : Type) (k : Bool → Option R), instBounds_b n  n1 k = k y) : Holds Try.prog G0 3 instBounds_C := by
  refine fun_pat mixed tOk (ctrOf_ok hΓ) Try.func3 rfl rfl rfl rfl (F := funOf Try.f3) (normBy_ok instBounds_cfg) (pat := instBounds_pat) (L := instBounds_L) (normJ_ok instBounds_cfg) (on := instBounds_on) (patj := instBounds_patj) (J := instBounds_J) (fun c hc ls R k => ?_) (fun c hc p hp m ls R k r h => ?_) (fun c hc p hp m ls R k r h => ?_) (fun ps x h => ?_)
  · rw [show (funOf Try.f3).code = bodyOf Try.f3 from rfl, instBounds_loops] at hc
    simp only [List.mem_cons, List.not_mem_nil, or_false] at hc
    rcases hc with rfl | rfl
    · show instBounds_L3 0 ls R k = none
      unfold instBounds_L3
      split
      · rfl
      · rfl
    · show instBounds_L6 0 ls R k = none
      unfold instBounds_L6
      split
      · rfl
      · rfl
  · rw [show (funOf Try.f3).code = bodyOf Try.f3 from rfl, instBounds_loops] at hc
    simp only [List.mem_cons, List.not_mem_nil, or_false] at hc
    rcases hc with rfl | rfl
    · obtain rfl : instBounds_p3 = p := Option.some.inj hp
      change instBounds_L3 (m + 1) ls R k = some r at h
      have h' := h
      unfold instBounds_L3 at h'
      split at h'
      · exact (instBounds_step3 m _ _ R k).trans h
      · cases h'
    · obtain rfl : instBounds_p6 = p := Option.some.inj hp
      change instBounds_L6 (m + 1) ls R k = some r at h
      have h' := h
      unfold instBounds_L6 at h'
      split at h'
      · exact (instBounds_step6 m _ _ _ _ _ R k).trans h
      · cases h'
  · cases (List.mem_filter.1 hc).2
  · obtain ⟨y, hy, hx⟩ := bind_inv h
    cases hx
    obtain ⟨n1, rfl⟩ := instBounds_inv hy
    obtain ⟨n, hn⟩ := hok n1 y hy
    exact ⟨n, (instBounds_eq n n1).trans (hn _ _)⟩

end
end Go.Proofs.YtpaifgipdhgfkaaV
