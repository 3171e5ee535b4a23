/- What the functions of the program come to, as the reading machine has it: printed by auto.py. -/
import Derived.Test.YtpaifgipdhgfkaaGreatDoorVTab
import Derived.Test.YtpaifgipdhgfkaaGreatDoorAS
import Derived.Test.YtpaifgipdhgfkaaGreatDoorDL
import Derived.Test.YtpaifgipdhgfkaaGreatDoorTX1
namespace Go.Proofs.YtpaifgipdhgfkaaGreatDoorV
open Go
set_option maxRecDepth 100000
set_option linter.unusedVariables false
set_option linter.unusedSimpArgs false
noncomputable section
/-! ## drayman/seen.all -/
def aSeenAll_q20 {R : Type} (p51 : Cs) (c52 : Cs) (d53 : Cs) (i54 : Int) (b55 : Bool) (k0 : Rs → Option R) (k1 : Unit → Option R) : Option R :=
  cond b55 (
    Option.bind (subAgg p51 0 7) fun p56 =>
    Option.bind (subAgg d53 0 3) fun p57 =>
    Option.bind (aSeenEdit_D [p56, p57]) fun y58 =>
    k0 y58) (
    cond (i54 == (11 : Int)) (
      Option.bind (c52[2]?) fun c59 =>
      Option.bind (PV.asI .i64 c59) fun n60 =>
      k0 [[(PV.int .i64 1), (PV.int .i64 n60)]]) (
      cond (i54 == (12 : Int)) (
        none) (
        cond (i54 == (13 : Int)) (
          Option.bind (subAgg p51 0 7) fun p61 =>
          (fun (z1 : Option R) =>
            meet (
              z1) (
              z1)) (
            none)) (
          k1 ()))))
def aSeenAll_q15 {R : Type} (p35 : Cs) (c36 : Cs) (d37 : Cs) (i38 : Int) (b39 : Bool) (k0 : Rs → Option R) (k1 : Unit → Option R) : Option R :=
  cond b39 (
    Option.bind (c36[2]?) fun c40 =>
    Option.bind (PV.asI .i64 c40) fun n41 =>
    k0 [[(PV.int .i64 3), (PV.int .i64 n41)]]) (
    cond (i38 == (8 : Int)) (
      Option.bind (subAgg p35 0 7) fun p42 =>
      Option.bind (c36[2]?) fun c43 =>
      Option.bind (PV.asI .i64 c43) fun n44 =>
      Option.bind (subAgg p35 0 7) fun p45 =>
      Option.bind (c36[7]?) fun c46 =>
      Option.bind (PV.asI .i64 c46) fun n47 =>
      Option.bind (subAgg p35 0 7) fun p48 =>
      (fun (z2 : Option R) =>
        meet (
          z2) (
          z2)) (
        none)) (
      cond (i38 == (9 : Int)) (
        aSeenAll_q20 p35 c36 d37 i38 true k0
          (fun (_ : Unit) =>
            k1 ())) (
        aSeenAll_q20 p35 c36 d37 i38 (i38 == (10 : Int)) k0
          (fun (_ : Unit) =>
            k1 ()))))
def aSeenAll_q12 {R : Type} (p26 : Cs) (c27 : Cs) (d28 : Cs) (i29 : Int) (b30 : Bool) (k0 : Rs → Option R) (k1 : Unit → Option R) : Option R :=
  cond b30 (
    Option.bind (c27[1]?) fun c31 =>
    Option.bind (PV.asI .i64 c31) fun n32 =>
    none) (
    cond (i29 == (6 : Int)) (
      aSeenAll_q15 p26 c27 d28 i29 true k0
        (fun (_ : Unit) =>
          k1 ())) (
      aSeenAll_q15 p26 c27 d28 i29 (i29 == (7 : Int)) k0
        (fun (_ : Unit) =>
          k1 ())))
def aSeenAll_b {R : Type} (i1 : Rs) (i2 : Rs) (i3 : Rs) (i4 : Rs) (p5 : Rs) (p6 : Rs) (p7 : Rs) (p8 : Rs) (p9 : Rs) (p10 : Rs) (p11 : Int) (c12 : Int) (c13 : Int) (c14 : Int) (c15 : Int) (c16 : Int) (c17 : Int) (c18 : Int) (c19 : Int) (d20 : Rs) (d21 : Rs) (d22 : Rs) (k : Rs → Option R) : Option R :=
  Option.bind (aInstMate_t i1 i2 i3 i4 c13) fun y23 =>
  cond (c12 == (1 : Int)) (
    none) (
    cond (c12 == (2 : Int)) (
      (fun (z3 : Option R) =>
        meet (
          meet (
            z3) (
            z3)) (
          z3)) (
        none)) (
      cond (c12 == (3 : Int)) (
        (fun (z4 : Option R) =>
          meet (
            meet (
              z4) (
              z4)) (
            z4)) (
          none)) (
        cond (c12 == (4 : Int)) (
          aSeenAll_q12 [(PV.fs p5), (PV.fs p6), (PV.fs p7), (PV.fs p8), (PV.fs p9), (PV.fs p10), (PV.int .i64 p11)] [(PV.int .i64 c12), (PV.int .i64 c13), (PV.int .i64 c14), (PV.int .i64 c15), (PV.int .i64 c16), (PV.int .i64 c17), (PV.int .i64 c18), (PV.int .i64 c19)] [(PV.fs d20), (PV.fs d21), (PV.fs d22)] c12 true k
            (fun (_ : Unit) =>
              k [])) (
          aSeenAll_q12 [(PV.fs p5), (PV.fs p6), (PV.fs p7), (PV.fs p8), (PV.fs p9), (PV.fs p10), (PV.int .i64 p11)] [(PV.int .i64 c12), (PV.int .i64 c13), (PV.int .i64 c14), (PV.int .i64 c15), (PV.int .i64 c16), (PV.int .i64 c17), (PV.int .i64 c18), (PV.int .i64 c19)] [(PV.fs d20), (PV.fs d21), (PV.fs d22)] c12 (c12 == (5 : Int)) k
            (fun (_ : Unit) =>
              k [])))))
def aSeenAll_E (y : Rs) : PV × Cs := ((PV.os y 2), [])
def aSeenAll_tq20 (p51 : Cs) (c52 : Cs) (d53 : Cs) (i54 : Int) (b55 : Bool) : Option ((Rs) ⊕ (Unit)) :=
  cond b55 (
    Option.bind (subAgg p51 0 7) fun p56 =>
    Option.bind (subAgg d53 0 3) fun p57 =>
    Option.bind (aSeenEdit_D [p56, p57]) fun y58 =>
    some (Sum.inl y58)) (
    cond (i54 == (11 : Int)) (
      Option.bind (c52[2]?) fun c59 =>
      Option.bind (PV.asI .i64 c59) fun n60 =>
      some (Sum.inl [[(PV.int .i64 1), (PV.int .i64 n60)]])) (
      cond (i54 == (12 : Int)) (
        none) (
        cond (i54 == (13 : Int)) (
          Option.bind (subAgg p51 0 7) fun p61 =>
          none) (
          some (Sum.inr ())))))
theorem aSeenAll_twq20 {R : Type} (p51 : Cs) (c52 : Cs) (d53 : Cs) (i54 : Int) (b55 : Bool) (k0 : Rs → Option R) (k1 : Unit → Option R) : Tw (aSeenAll_tq20 p51 c52 d53 i54 b55) (aSeenAll_q20 p51 c52 d53 i54 b55 k0 k1) (fun s => match s with | (Sum.inl a0) => k0 a0 | (Sum.inr _) => k1 ()) := by
  unfold aSeenAll_tq20 aSeenAll_q20
  refine tw_cond (fun _ => ?_) (fun _ => ?_)
  · refine tw_bind fun p56 _ => ?_
    refine tw_bind fun p57 _ => ?_
    refine tw_bind fun y58 _ => ?_
    exact tw_some rfl
  · refine tw_cond (fun _ => ?_) (fun _ => ?_)
    · refine tw_bind fun c59 _ => ?_
      refine tw_bind fun n60 _ => ?_
      exact tw_some rfl
    · refine tw_cond (fun _ => ?_) (fun _ => ?_)
      · exact tw_none
      · refine tw_cond (fun _ => ?_) (fun _ => ?_)
        · refine tw_bind fun p61 _ => ?_
          intro s hs
          cases hs
        · exact tw_some rfl
def aSeenAll_tq15 (p35 : Cs) (c36 : Cs) (d37 : Cs) (i38 : Int) (b39 : Bool) : Option ((Rs) ⊕ (Unit)) :=
  cond b39 (
    Option.bind (c36[2]?) fun c40 =>
    Option.bind (PV.asI .i64 c40) fun n41 =>
    some (Sum.inl [[(PV.int .i64 3), (PV.int .i64 n41)]])) (
    cond (i38 == (8 : Int)) (
      Option.bind (subAgg p35 0 7) fun p42 =>
      Option.bind (c36[2]?) fun c43 =>
      Option.bind (PV.asI .i64 c43) fun n44 =>
      Option.bind (subAgg p35 0 7) fun p45 =>
      Option.bind (c36[7]?) fun c46 =>
      Option.bind (PV.asI .i64 c46) fun n47 =>
      Option.bind (subAgg p35 0 7) fun p48 =>
      none) (
      cond (i38 == (9 : Int)) (
        Option.bind (aSeenAll_tq20 p35 c36 d37 i38 true) fun s => match s with
          | (Sum.inl es49) =>
            some (Sum.inl es49)
          | (Sum.inr _) =>
            some (Sum.inr ())) (
        Option.bind (aSeenAll_tq20 p35 c36 d37 i38 (i38 == (10 : Int))) fun s => match s with
          | (Sum.inl es50) =>
            some (Sum.inl es50)
          | (Sum.inr _) =>
            some (Sum.inr ()))))
theorem aSeenAll_twq15 {R : Type} (p35 : Cs) (c36 : Cs) (d37 : Cs) (i38 : Int) (b39 : Bool) (k0 : Rs → Option R) (k1 : Unit → Option R) : Tw (aSeenAll_tq15 p35 c36 d37 i38 b39) (aSeenAll_q15 p35 c36 d37 i38 b39 k0 k1) (fun s => match s with | (Sum.inl a0) => k0 a0 | (Sum.inr _) => k1 ()) := by
  unfold aSeenAll_tq15 aSeenAll_q15
  refine tw_cond (fun _ => ?_) (fun _ => ?_)
  · refine tw_bind fun c40 _ => ?_
    refine tw_bind fun n41 _ => ?_
    exact tw_some rfl
  · refine tw_cond (fun _ => ?_) (fun _ => ?_)
    · refine tw_bind fun p42 _ => ?_
      refine tw_bind fun c43 _ => ?_
      refine tw_bind fun n44 _ => ?_
      refine tw_bind fun p45 _ => ?_
      refine tw_bind fun c46 _ => ?_
      refine tw_bind fun n47 _ => ?_
      refine tw_bind fun p48 _ => ?_
      intro s hs
      cases hs
    · refine tw_cond (fun _ => ?_) (fun _ => ?_)
      · refine tw_call (aSeenAll_twq20 _ _ _ _ _ _ _) (fun s => ?_)
        rcases s with es49 | ⟨⟩
        · exact tw_some rfl
        · exact tw_some rfl
      · refine tw_call (aSeenAll_twq20 _ _ _ _ _ _ _) (fun s => ?_)
        rcases s with es50 | ⟨⟩
        · exact tw_some rfl
        · exact tw_some rfl
def aSeenAll_tq12 (p26 : Cs) (c27 : Cs) (d28 : Cs) (i29 : Int) (b30 : Bool) : Option ((Rs) ⊕ (Unit)) :=
  cond b30 (
    Option.bind (c27[1]?) fun c31 =>
    Option.bind (PV.asI .i64 c31) fun n32 =>
    none) (
    cond (i29 == (6 : Int)) (
      Option.bind (aSeenAll_tq15 p26 c27 d28 i29 true) fun s => match s with
        | (Sum.inl es33) =>
          some (Sum.inl es33)
        | (Sum.inr _) =>
          some (Sum.inr ())) (
      Option.bind (aSeenAll_tq15 p26 c27 d28 i29 (i29 == (7 : Int))) fun s => match s with
        | (Sum.inl es34) =>
          some (Sum.inl es34)
        | (Sum.inr _) =>
          some (Sum.inr ())))
theorem aSeenAll_twq12 {R : Type} (p26 : Cs) (c27 : Cs) (d28 : Cs) (i29 : Int) (b30 : Bool) (k0 : Rs → Option R) (k1 : Unit → Option R) : Tw (aSeenAll_tq12 p26 c27 d28 i29 b30) (aSeenAll_q12 p26 c27 d28 i29 b30 k0 k1) (fun s => match s with | (Sum.inl a0) => k0 a0 | (Sum.inr _) => k1 ()) := by
  unfold aSeenAll_tq12 aSeenAll_q12
  refine tw_cond (fun _ => ?_) (fun _ => ?_)
  · refine tw_bind fun c31 _ => ?_
    refine tw_bind fun n32 _ => ?_
    exact tw_none
  · refine tw_cond (fun _ => ?_) (fun _ => ?_)
    · refine tw_call (aSeenAll_twq15 _ _ _ _ _ _ _) (fun s => ?_)
      rcases s with es33 | ⟨⟩
      · exact tw_some rfl
      · exact tw_some rfl
    · refine tw_call (aSeenAll_twq15 _ _ _ _ _ _ _) (fun s => ?_)
      rcases s with es34 | ⟨⟩
      · exact tw_some rfl
      · exact tw_some rfl
def aSeenAll_t (i1 : Rs) (i2 : Rs) (i3 : Rs) (i4 : Rs) (p5 : Rs) (p6 : Rs) (p7 : Rs) (p8 : Rs) (p9 : Rs) (p10 : Rs) (p11 : Int) (c12 : Int) (c13 : Int) (c14 : Int) (c15 : Int) (c16 : Int) (c17 : Int) (c18 : Int) (c19 : Int) (d20 : Rs) (d21 : Rs) (d22 : Rs) : Option (Rs) :=
  Option.bind (aInstMate_t i1 i2 i3 i4 c13) fun y23 =>
  cond (c12 == (1 : Int)) (
    none) (
    cond (c12 == (2 : Int)) (
      none) (
      cond (c12 == (3 : Int)) (
        none) (
        cond (c12 == (4 : Int)) (
          Option.bind (aSeenAll_tq12 [(PV.fs p5), (PV.fs p6), (PV.fs p7), (PV.fs p8), (PV.fs p9), (PV.fs p10), (PV.int .i64 p11)] [(PV.int .i64 c12), (PV.int .i64 c13), (PV.int .i64 c14), (PV.int .i64 c15), (PV.int .i64 c16), (PV.int .i64 c17), (PV.int .i64 c18), (PV.int .i64 c19)] [(PV.fs d20), (PV.fs d21), (PV.fs d22)] c12 true) fun s => match s with
            | (Sum.inl es24) =>
              some es24
            | (Sum.inr _) =>
              some []) (
          Option.bind (aSeenAll_tq12 [(PV.fs p5), (PV.fs p6), (PV.fs p7), (PV.fs p8), (PV.fs p9), (PV.fs p10), (PV.int .i64 p11)] [(PV.int .i64 c12), (PV.int .i64 c13), (PV.int .i64 c14), (PV.int .i64 c15), (PV.int .i64 c16), (PV.int .i64 c17), (PV.int .i64 c18), (PV.int .i64 c19)] [(PV.fs d20), (PV.fs d21), (PV.fs d22)] c12 (c12 == (5 : Int))) fun s => match s with
            | (Sum.inl es25) =>
              some es25
            | (Sum.inr _) =>
              some []))))
theorem aSeenAll_tw {R : Type} (i1 : Rs) (i2 : Rs) (i3 : Rs) (i4 : Rs) (p5 : Rs) (p6 : Rs) (p7 : Rs) (p8 : Rs) (p9 : Rs) (p10 : Rs) (p11 : Int) (c12 : Int) (c13 : Int) (c14 : Int) (c15 : Int) (c16 : Int) (c17 : Int) (c18 : Int) (c19 : Int) (d20 : Rs) (d21 : Rs) (d22 : Rs) (k : Rs → Option R) : Tw (aSeenAll_t i1 i2 i3 i4 p5 p6 p7 p8 p9 p10 p11 c12 c13 c14 c15 c16 c17 c18 c19 d20 d21 d22) (aSeenAll_b  i1 i2 i3 i4 p5 p6 p7 p8 p9 p10 p11 c12 c13 c14 c15 c16 c17 c18 c19 d20 d21 d22 k) (fun s => match s with | a0 => k a0) := by
  unfold aSeenAll_t aSeenAll_b
  refine tw_bind fun y23 _ => ?_
  refine tw_cond (fun _ => ?_) (fun _ => ?_)
  · exact tw_none
  · refine tw_cond (fun _ => ?_) (fun _ => ?_)
    · intro s hs
      cases hs
    · refine tw_cond (fun _ => ?_) (fun _ => ?_)
      · intro s hs
        cases hs
      · refine tw_cond (fun _ => ?_) (fun _ => ?_)
        · refine tw_call (aSeenAll_twq12 _ _ _ _ _ _ _) (fun s => ?_)
          rcases s with es24 | ⟨⟩
          · exact tw_some rfl
          · exact tw_some rfl
        · refine tw_call (aSeenAll_twq12 _ _ _ _ _ _ _) (fun s => ?_)
          rcases s with es25 | ⟨⟩
          · exact tw_some rfl
          · exact tw_some rfl
theorem aSeenAll_ok : ∀ (i1 : Rs) (i2 : Rs) (i3 : Rs) (i4 : Rs) (p5 : Rs) (p6 : Rs) (p7 : Rs) (p8 : Rs) (p9 : Rs) (p10 : Rs) (p11 : Int) (c12 : Int) (c13 : Int) (c14 : Int) (c15 : Int) (c16 : Int) (c17 : Int) (c18 : Int) (c19 : Int) (d20 : Rs) (d21 : Rs) (d22 : Rs) (y : Rs), aSeenAll_t i1 i2 i3 i4 p5 p6 p7 p8 p9 p10 p11 c12 c13 c14 c15 c16 c17 c18 c19 d20 d21 d22 = some y → ∀ (R : Type) (k : Rs → Option R), aSeenAll_b  i1 i2 i3 i4 p5 p6 p7 p8 p9 p10 p11 c12 c13 c14 c15 c16 c17 c18 c19 d20 d21 d22 k = k y := fun i1 i2 i3 i4 p5 p6 p7 p8 p9 p10 p11 c12 c13 c14 c15 c16 c17 c18 c19 d20 d21 d22 y h => fun R k => aSeenAll_tw i1 i2 i3 i4 p5 p6 p7 p8 p9 p10 p11 c12 c13 c14 c15 c16 c17 c18 c19 d20 d21 d22 k y h
def aSeenAll_D : Cs → Option (Rs)
  | [(PV.agg [(PV.fs i1), (PV.fs i2), (PV.fs i3), (PV.fs i4)]), (PV.agg [(PV.fs p5), (PV.fs p6), (PV.fs p7), (PV.fs p8), (PV.fs p9), (PV.fs p10), (PV.int .i64 p11)]), (PV.agg [(PV.int .i64 c12), (PV.int .i64 c13), (PV.int .i64 c14), (PV.int .i64 c15), (PV.int .i64 c16), (PV.int .i64 c17), (PV.int .i64 c18), (PV.int .i64 c19)]), (PV.agg [(PV.fs d20), (PV.fs d21), (PV.fs d22)])] => aSeenAll_t i1 i2 i3 i4 p5 p6 p7 p8 p9 p10 p11 c12 c13 c14 c15 c16 c17 c18 c19 d20 d21 d22
  | _ => none
def aSeenAll_Γ : List (Nat × Cal) := [(62, .ctr aInstMate_C), (67, .ctr aSeenEdit_C), (1000000004, ro_I), (1000000005, ro_I), (1000000006, ro_I), (1000000007, ro_I)]
def aSeenAll_C : Ctr := ⟨[none, none, none, none], Rs, aSeenAll_D, aSeenAll_E, false, .s⟩
def aSeenAll_cfg : List (Nat × LC) := [(4000012, ⟨[5, 6, 7, 15, 63], [], [], [], [5, 6, 7]⟩),
  (6000012, ⟨[8], [], [], [], []⟩),
  (4000015, ⟨[5, 6, 7, 15, 70], [], [], [], []⟩),
  (6000015, ⟨[8], [], [], [], []⟩),
  (4000020, ⟨[5, 6, 7, 15, 94], [], [], [], []⟩),
  (6000020, ⟨[8], [], [], [], []⟩),
  (5000020, ⟨[], [], [], [], []⟩),
  (5000015, ⟨[], [], [], [], []⟩),
  (5000012, ⟨[], [], [], [], []⟩)]
def aSeenAll_pj20 : SP := ⟨sparse .undef [(5, (.val (.rp 0))), (6, (.val (.rp 0))), (7, (.val (.rp 0))), (15, (.val (.int .i64))), (94, (.val .bool))] 0 117, [], []⟩
def aSeenAll_pj15 : SP := ⟨sparse .undef [(5, (.val (.rp 0))), (6, (.val (.rp 0))), (7, (.val (.rp 0))), (15, (.val (.int .i64))), (70, (.val .bool))] 0 117, [], []⟩
def aSeenAll_pj12 : SP := ⟨sparse .undef [(5, (.val (.rp 0))), (6, (.val (.rp 0))), (7, (.val (.rp 0))), (15, (.val (.int .i64))), (63, (.val .bool))] 0 117, [], []⟩
def aSeenAll_pat : Nat → Option SP
  | _ => none
def aSeenAll_patj : Nat → Option SP
  | 20 => some aSeenAll_pj20
  | 15 => some aSeenAll_pj15
  | 12 => some aSeenAll_pj12
  | _ => none
def aSeenAll_J20 (n : Nat) (ls : List Leaf) (R : Type) (k : Ex → St → Option R) : Option R :=
  match ls with
  | [.cells p51, .cells c52, .cells d53, .int i54, .bool b55] => aSeenAll_q20 p51 c52 d53 i54 b55 (fun y1068 => k .ret ⟨sparse .undef [(8, (TV.ow 0))] 0 117, [(Ob.row y1068 2)], []⟩)
      (fun _ => k .normal ⟨sparse .undef [] 0 117, [], []⟩)
  | _ => none
def aSeenAll_J15 (n : Nat) (ls : List Leaf) (R : Type) (k : Ex → St → Option R) : Option R :=
  match ls with
  | [.cells p35, .cells c36, .cells d37, .int i38, .bool b39] => aSeenAll_q15 p35 c36 d37 i38 b39 (fun y2069 => k .ret ⟨sparse .undef [(8, (TV.ow 0))] 0 117, [(Ob.row y2069 2)], []⟩)
      (fun _ => k .normal ⟨sparse .undef [] 0 117, [], []⟩)
  | _ => none
def aSeenAll_J12 (n : Nat) (ls : List Leaf) (R : Type) (k : Ex → St → Option R) : Option R :=
  match ls with
  | [.cells p26, .cells c27, .cells d28, .int i29, .bool b30] => aSeenAll_q12 p26 c27 d28 i29 b30 (fun y3070 => k .ret ⟨sparse .undef [(8, (TV.ow 0))] 0 117, [(Ob.row y3070 2)], []⟩)
      (fun _ => k .normal ⟨sparse .undef [] 0 117, [], []⟩)
  | _ => none
def aSeenAll_L (n key : Nat) (ls : List Leaf) (R : Type) (k : Ex → St → Option R) : Option R :=
  match key with
  | _ => none
def aSeenAll_J (n key : Nat) (ls : List Leaf) (R : Type) (k : Ex → St → Option R) : Option R :=
  match key with
  | 20 => aSeenAll_J20 n ls R k
  | 15 => aSeenAll_J15 n ls R k
  | 12 => aSeenAll_J12 n ls R k
  | _ => none
def aSeenAll_on : Code → Bool := onKeys [12, 15, 20]
def aSeenAll_Λ : Nat → Loops := patL (normBy aSeenAll_cfg) aSeenAll_pat aSeenAll_L (normJ aSeenAll_cfg) aSeenAll_on aSeenAll_patj aSeenAll_J
theorem aSeenAll_stepq12 (n : Nat) (p26 : Cs) (c27 : Cs) (d28 : Cs) (i29 : Int) (b30 : Bool)  (R : Type) (k : Ex → St → Option R) :
    joinK T G0 (ctrOf aSeenAll_Γ) (normJ aSeenAll_cfg) (aSeenAll_Λ n) (codeAt [1, 1, 0, 1, 0, 1, 1, 1, 1, 1, 1, 1] (bodyOf Tryz.f33)) (buildSt aSeenAll_pj12 [.cells p26, .cells c27, .cells d28, .int i29, .bool b30]) R k = aSeenAll_J12 n [.cells p26, .cells c27, .cells d28, .int i29, .bool b30] R k := by kernel_rfl
theorem aSeenAll_stepq15 (n : Nat) (p35 : Cs) (c36 : Cs) (d37 : Cs) (i38 : Int) (b39 : Bool)  (R : Type) (k : Ex → St → Option R) :
    joinK T G0 (ctrOf aSeenAll_Γ) (normJ aSeenAll_cfg) (aSeenAll_Λ n) (codeAt [1, 1, 0, 1, 0, 1, 1, 1, 1, 1, 1, 1, 1, 1] (bodyOf Tryz.f33)) (buildSt aSeenAll_pj15 [.cells p35, .cells c36, .cells d37, .int i38, .bool b39]) R k = aSeenAll_J15 n [.cells p35, .cells c36, .cells d37, .int i38, .bool b39] R k := by kernel_rfl
theorem aSeenAll_stepq20 (n : Nat) (p51 : Cs) (c52 : Cs) (d53 : Cs) (i54 : Int) (b55 : Bool)  (R : Type) (k : Ex → St → Option R) :
    joinK T G0 (ctrOf aSeenAll_Γ) (normJ aSeenAll_cfg) (aSeenAll_Λ n) (codeAt [1, 1, 0, 1, 0, 1, 1, 1, 1, 1, 1, 1, 1, 1, 1, 1, 1, 1] (bodyOf Tryz.f33)) (buildSt aSeenAll_pj20 [.cells p51, .cells c52, .cells d53, .int i54, .bool b55]) R k = aSeenAll_J20 n [.cells p51, .cells c52, .cells d53, .int i54, .bool b55] R k := by kernel_rfl
theorem aSeenAll_eq (i1 : Rs) (i2 : Rs) (i3 : Rs) (i4 : Rs) (p5 : Rs) (p6 : Rs) (p7 : Rs) (p8 : Rs) (p9 : Rs) (p10 : Rs) (p11 : Int) (c12 : Int) (c13 : Int) (c14 : Int) (c15 : Int) (c16 : Int) (c17 : Int) (c18 : Int) (c19 : Int) (d20 : Rs) (d21 : Rs) (d22 : Rs) :
    funK T G0 (ctrOf aSeenAll_Γ) (aSeenAll_Λ 0) .s false [none, none, none, none] (funOf Tryz.f33) [(PV.agg [(PV.fs i1), (PV.fs i2), (PV.fs i3), (PV.fs i4)]), (PV.agg [(PV.fs p5), (PV.fs p6), (PV.fs p7), (PV.fs p8), (PV.fs p9), (PV.fs p10), (PV.int .i64 p11)]), (PV.agg [(PV.int .i64 c12), (PV.int .i64 c13), (PV.int .i64 c14), (PV.int .i64 c15), (PV.int .i64 c16), (PV.int .i64 c17), (PV.int .i64 c18), (PV.int .i64 c19)]), (PV.agg [(PV.fs d20), (PV.fs d21), (PV.fs d22)])] = aSeenAll_b  i1 i2 i3 i4 p5 p6 p7 p8 p9 p10 p11 c12 c13 c14 c15 c16 c17 c18 c19 d20 d21 d22 (fun a0 => some (aSeenAll_E a0)) := by kernel_rfl
theorem aSeenAll_inv {ps : Cs} {y : Rs} (h : aSeenAll_D ps = some y) : ∃ (i1 : Rs) (i2 : Rs) (i3 : Rs) (i4 : Rs) (p5 : Rs) (p6 : Rs) (p7 : Rs) (p8 : Rs) (p9 : Rs) (p10 : Rs) (p11 : Int) (c12 : Int) (c13 : Int) (c14 : Int) (c15 : Int) (c16 : Int) (c17 : Int) (c18 : Int) (c19 : Int) (d20 : Rs) (d21 : Rs) (d22 : Rs), ps = [(PV.agg [(PV.fs i1), (PV.fs i2), (PV.fs i3), (PV.fs i4)]), (PV.agg [(PV.fs p5), (PV.fs p6), (PV.fs p7), (PV.fs p8), (PV.fs p9), (PV.fs p10), (PV.int .i64 p11)]), (PV.agg [(PV.int .i64 c12), (PV.int .i64 c13), (PV.int .i64 c14), (PV.int .i64 c15), (PV.int .i64 c16), (PV.int .i64 c17), (PV.int .i64 c18), (PV.int .i64 c19)]), (PV.agg [(PV.fs d20), (PV.fs d21), (PV.fs d22)])] := by
  unfold aSeenAll_D at h
  split at h
  · exact ⟨_, _, _, _, _, _, _, _, _, _, _, _, _, _, _, _, _, _, _, _, _, _, rfl⟩
  · cases h
theorem aSeenAll_loops : loopsOf (bodyOf Tryz.f33) = [] := by kernel_rfl
theorem aSeenAll_joins : (joinsOf (bodyOf Tryz.f33)).filter aSeenAll_on = [codeAt [1, 1, 0, 1, 0, 1, 1, 1, 1, 1, 1, 1] (bodyOf Tryz.f33), codeAt [1, 1, 0, 1, 0, 1, 1, 1, 1, 1, 1, 1, 1, 1] (bodyOf Tryz.f33), codeAt [1, 1, 0, 1, 0, 1, 1, 1, 1, 1, 1, 1, 1, 1, 1, 1, 1, 1] (bodyOf Tryz.f33)] := by kernel_rfl
theorem aSeenAll_holds (hΓ : HoldsAll Tryz.prog G0 aSeenAll_Γ) (hok : ∀ (i1 : Rs) (i2 : Rs) (i3 : Rs) (i4 : Rs) (p5 : Rs) (p6 : Rs) (p7 : Rs) (p8 : Rs) (p9 : Rs) (p10 : Rs) (p11 : Int) (c12 : Int) (c13 : Int) (c14 : Int) (c15 : Int) (c16 : Int) (c17 : Int) (c18 : Int) (c19 : Int) (d20 : Rs) (d21 : Rs) (d22 : Rs) (y : Rs), aSeenAll_t i1 i2 i3 i4 p5 p6 p7 p8 p9 p10 p11 c12 c13 c14 c15 c16 c17 c18 c19 d20 d21 d22 = some y → ∀ (R : Type) (k : Rs → Option R), aSeenAll_b  i1 i2 i3 i4 p5 p6 p7 p8 p9 p10 p11 c12 c13 c14 c15 c16 c17 c18 c19 d20 d21 d22 k = k y) : Holds Tryz.prog G0 33 aSeenAll_C := by
  refine fun_pat mixed tOk (ctrOf_ok hΓ) Tryz.func33 rfl rfl rfl rfl (F := funOf Tryz.f33) (normBy_ok aSeenAll_cfg) (pat := aSeenAll_pat) (L := aSeenAll_L) (normJ_ok aSeenAll_cfg) (on := aSeenAll_on) (patj := aSeenAll_patj) (J := aSeenAll_J) (fun c hc ls R k => ?_) (fun c hc p hp m ls R k r h => ?_) (fun c hc p hp m ls R k r h => ?_) (fun ps x h => ?_)
  · rw [show (funOf Tryz.f33).code = bodyOf Tryz.f33 from rfl, aSeenAll_loops] at hc
    cases hc
  · rw [show (funOf Tryz.f33).code = bodyOf Tryz.f33 from rfl, aSeenAll_loops] at hc
    cases hc
  · rw [show (funOf Tryz.f33).code = bodyOf Tryz.f33 from rfl, aSeenAll_joins] at hc
    simp only [List.mem_cons, List.not_mem_nil, or_false] at hc
    rcases hc with rfl | rfl | rfl
    · obtain rfl : aSeenAll_pj12 = p := Option.some.inj hp
      change aSeenAll_J12 m ls R k = some r at h
      have h' := h
      unfold aSeenAll_J12 at h'
      split at h'
      · exact (aSeenAll_stepq12 m _ _ _ _ _ R k).trans h
      · cases h'
    · obtain rfl : aSeenAll_pj15 = p := Option.some.inj hp
      change aSeenAll_J15 m ls R k = some r at h
      have h' := h
      unfold aSeenAll_J15 at h'
      split at h'
      · exact (aSeenAll_stepq15 m _ _ _ _ _ R k).trans h
      · cases h'
    · obtain rfl : aSeenAll_pj20 = p := Option.some.inj hp
      change aSeenAll_J20 m ls R k = some r at h
      have h' := h
      unfold aSeenAll_J20 at h'
      split at h'
      · exact (aSeenAll_stepq20 m _ _ _ _ _ R k).trans h
      · cases h'
  · obtain ⟨y, hy, hx⟩ := bind_inv h
    cases hx
    obtain ⟨i1, i2, i3, i4, p5, p6, p7, p8, p9, p10, p11, c12, c13, c14, c15, c16, c17, c18, c19, d20, d21, d22, rfl⟩ := aSeenAll_inv hy
    exact ⟨0, (aSeenAll_eq i1 i2 i3 i4 p5 p6 p7 p8 p9 p10 p11 c12 c13 c14 c15 c16 c17 c18 c19 d20 d21 d22).trans (hok i1 i2 i3 i4 p5 p6 p7 p8 p9 p10 p11 c12 c13 c14 c15 c16 c17 c18 c19 d20 d21 d22 y hy _ _)⟩

/-! ## drayman/seen.at -/
def aSeenAt_b {R : Type} (l1 : Rs) (n2 : Int) (least3 : Int) (k : Int → Option R) : Option R :=
  cond (decide (n2 < least3)) (
    k (-1)) (
    cond (decide (n2 ≥ (l1.length : Int))) (
      k (-1)) (
      Option.bind (idx l1 n2) fun e4 =>
      if e4.length = 1 then
        Option.bind (e4[0]?) fun c5 =>
        Option.bind (PV.asI .i64 c5) fun n6 =>
        k n6
      else none))
def aSeenAt_E (y : Int) : PV × Cs := ((PV.int .i64 y), [])
def aSeenAt_d (l1 : Rs) (n2 : Int) (least3 : Int) : Option (Int) := aSeenAt_b l1 n2 least3 fun a0 => some a0
def aSeenAt_D : Cs → Option (Int)
  | [(PV.fs l1), (PV.int .i64 n2), (PV.int .i64 least3)] => aSeenAt_d l1 n2 least3
  | _ => none
def aSeenAt_Γ : List (Nat × Cal) := []
def aSeenAt_C : Ctr := ⟨[none, none, none], Int, aSeenAt_D, aSeenAt_E, true, .d⟩
theorem aSeenAt_eq (l1 : Rs) (n2 : Int) (least3 : Int) :
    funK T G0 (ctrOf aSeenAt_Γ) noL .d true [none, none, none] (funOf Tryz.f60) [(PV.fs l1), (PV.int .i64 n2), (PV.int .i64 least3)] = aSeenAt_b  l1 n2 least3 (fun a0 => some (aSeenAt_E a0)) := by kernel_rfl
theorem aSeenAt_inv {ps : Cs} {y : Int} (h : aSeenAt_D ps = some y) : ∃ (l1 : Rs) (n2 : Int) (least3 : Int), ps = [(PV.fs l1), (PV.int .i64 n2), (PV.int .i64 least3)] := by
  unfold aSeenAt_D at h
  split at h
  · exact ⟨_, _, _, rfl⟩
  · cases h
theorem aSeenAt_nat {R : Type} (l1 : Rs) (n2 : Int) (least3 : Int) (k : Int → Option R) : aSeenAt_b l1 n2 least3 k = Option.bind (aSeenAt_b l1 n2 least3 fun a0 => some a0) fun y => k y := by
  unfold aSeenAt_b
  first | rfl | simp only [Option.bind_assoc, bind_cond, bind_ite, Option.bind_some, Option.bind_none]
theorem aSeenAt_holds (hΓ : HoldsAll Tryz.prog G0 aSeenAt_Γ) : Holds Tryz.prog G0 60 aSeenAt_C := by
  refine fun_ok mixed tOk (ctrOf_ok hΓ) Tryz.func60 rfl rfl rfl rfl (F := funOf Tryz.f60) (fun ps x h => ?_)
  obtain ⟨y, hy, hx⟩ := bind_inv h
  cases hx
  obtain ⟨l1, n2, least3, rfl⟩ := aSeenAt_inv hy
  have hy' : aSeenAt_d l1 n2 least3 = some y := hy
  refine ⟨noL, noL_ok _, (aSeenAt_eq l1 n2 least3).trans ?_⟩
  unfold aSeenAt_d at hy'
  rw [aSeenAt_nat, hy']
  rfl

/-! ## drayman/seen.Version -/
def aSeenVersion_b {R : Type} (p1 : Rs) (p2 : Rs) (p3 : Rs) (p4 : Rs) (p5 : Rs) (p6 : Rs) (p7 : Int) (k8 : Int) (k9 : Int) (k : Int → Option R) : Option R :=
  cond (k8 == (1 : Int)) (
    Option.bind (aSeenAt_d p4 k9 0) fun y10 =>
    k y10) (
    cond (k8 == (2 : Int)) (
      Option.bind (aSeenAt_d p5 k9 1) fun y11 =>
      k y11) (
      cond (k8 == (3 : Int)) (
        Option.bind (aSeenAt_d p6 k9 0) fun y12 =>
        k y12) (
        cond ((k8 == (4 : Int)) && ((k9 == (0 : Int)) && true)) (
          k p7) (
          k (-1)))))
def aSeenVersion_E (y : Int) : PV × Cs := ((PV.int .i64 y), [])
def aSeenVersion_d (p1 : Rs) (p2 : Rs) (p3 : Rs) (p4 : Rs) (p5 : Rs) (p6 : Rs) (p7 : Int) (k8 : Int) (k9 : Int) : Option (Int) := aSeenVersion_b p1 p2 p3 p4 p5 p6 p7 k8 k9 fun a0 => some a0
def aSeenVersion_D : Cs → Option (Int)
  | [(PV.agg [(PV.fs p1), (PV.fs p2), (PV.fs p3), (PV.fs p4), (PV.fs p5), (PV.fs p6), (PV.int .i64 p7)]), (PV.agg [(PV.int .i64 k8), (PV.int .i64 k9)])] => aSeenVersion_d p1 p2 p3 p4 p5 p6 p7 k8 k9
  | _ => none
def aSeenVersion_Γ : List (Nat × Cal) := [(60, .ctr aSeenAt_C), (1000000002, ro_I), (1000000003, ro_I)]
def aSeenVersion_C : Ctr := ⟨[none, none], Int, aSeenVersion_D, aSeenVersion_E, true, .d⟩
theorem aSeenVersion_eq (p1 : Rs) (p2 : Rs) (p3 : Rs) (p4 : Rs) (p5 : Rs) (p6 : Rs) (p7 : Int) (k8 : Int) (k9 : Int) :
    funK T G0 (ctrOf aSeenVersion_Γ) noL .d true [none, none] (funOf Tryz.f31) [(PV.agg [(PV.fs p1), (PV.fs p2), (PV.fs p3), (PV.fs p4), (PV.fs p5), (PV.fs p6), (PV.int .i64 p7)]), (PV.agg [(PV.int .i64 k8), (PV.int .i64 k9)])] = aSeenVersion_b  p1 p2 p3 p4 p5 p6 p7 k8 k9 (fun a0 => some (aSeenVersion_E a0)) := by kernel_rfl
theorem aSeenVersion_inv {ps : Cs} {y : Int} (h : aSeenVersion_D ps = some y) : ∃ (p1 : Rs) (p2 : Rs) (p3 : Rs) (p4 : Rs) (p5 : Rs) (p6 : Rs) (p7 : Int) (k8 : Int) (k9 : Int), ps = [(PV.agg [(PV.fs p1), (PV.fs p2), (PV.fs p3), (PV.fs p4), (PV.fs p5), (PV.fs p6), (PV.int .i64 p7)]), (PV.agg [(PV.int .i64 k8), (PV.int .i64 k9)])] := by
  unfold aSeenVersion_D at h
  split at h
  · exact ⟨_, _, _, _, _, _, _, _, _, rfl⟩
  · cases h
theorem aSeenVersion_nat {R : Type} (p1 : Rs) (p2 : Rs) (p3 : Rs) (p4 : Rs) (p5 : Rs) (p6 : Rs) (p7 : Int) (k8 : Int) (k9 : Int) (k : Int → Option R) : aSeenVersion_b p1 p2 p3 p4 p5 p6 p7 k8 k9 k = Option.bind (aSeenVersion_b p1 p2 p3 p4 p5 p6 p7 k8 k9 fun a0 => some a0) fun y => k y := by
  unfold aSeenVersion_b
  first | rfl | simp only [Option.bind_assoc, bind_cond, bind_ite, Option.bind_some, Option.bind_none]
theorem aSeenVersion_holds (hΓ : HoldsAll Tryz.prog G0 aSeenVersion_Γ) : Holds Tryz.prog G0 31 aSeenVersion_C := by
  refine fun_ok mixed tOk (ctrOf_ok hΓ) Tryz.func31 rfl rfl rfl rfl (F := funOf Tryz.f31) (fun ps x h => ?_)
  obtain ⟨y, hy, hx⟩ := bind_inv h
  cases hx
  obtain ⟨p1, p2, p3, p4, p5, p6, p7, k8, k9, rfl⟩ := aSeenVersion_inv hy
  have hy' : aSeenVersion_d p1 p2 p3 p4 p5 p6 p7 k8 k9 = some y := hy
  refine ⟨noL, noL_ok _, (aSeenVersion_eq p1 p2 p3 p4 p5 p6 p7 k8 k9).trans ?_⟩
  unfold aSeenVersion_d at hy'
  rw [aSeenVersion_nat, hy']
  rfl

/-! ## drayman/seen.Of$1 -/
def aSeenOf1c1_b {R : Type} (k1 : Int) (k2 : Int) (cs3 : Cs) (k : Bool → Option R) : Option R :=
  Option.bind (subAgg cs3 0 7) fun p4 =>
  Option.bind (aSeenVersion_D [p4, (PV.agg [(PV.int .i64 k1), (PV.int .i64 k2)])]) fun y5 =>
  k (decide (y5 < (0 : Int)))
def aSeenOf1c1_E (y : Bool) : PV × Cs := ((PV.bool y), [])
def aSeenOf1c1_d (k1 : Int) (k2 : Int) (cs3 : Cs) : Option (Bool) := aSeenOf1c1_b k1 k2 cs3 fun a0 => some a0
def aSeenOf1c1_D : Cs → Option (Bool)
  | [(PV.agg [(PV.int .i64 k1), (PV.int .i64 k2)]), (PV.rp cs3 0)] => aSeenOf1c1_d k1 k2 cs3
  | _ => none
def aSeenOf1c1_Γ : List (Nat × Cal) := [(31, .ctr aSeenVersion_C), (1000000002, ro_I)]
def aSeenOf1c1_C : Ctr := ⟨[none, none], Bool, aSeenOf1c1_D, aSeenOf1c1_E, true, .d⟩
theorem aSeenOf1c1_eq (k1 : Int) (k2 : Int) (cs3 : Cs) :
    funK T G0 (ctrOf aSeenOf1c1_Γ) noL .d true [none, none] (funOf Tryz.f34) [(PV.agg [(PV.int .i64 k1), (PV.int .i64 k2)]), (PV.rp cs3 0)] = aSeenOf1c1_b  k1 k2 cs3 (fun a0 => some (aSeenOf1c1_E a0)) := by kernel_rfl
theorem aSeenOf1c1_inv {ps : Cs} {y : Bool} (h : aSeenOf1c1_D ps = some y) : ∃ (k1 : Int) (k2 : Int) (cs3 : Cs), ps = [(PV.agg [(PV.int .i64 k1), (PV.int .i64 k2)]), (PV.rp cs3 0)] := by
  unfold aSeenOf1c1_D at h
  split at h
  · exact ⟨_, _, _, rfl⟩
  · cases h
theorem aSeenOf1c1_nat {R : Type} (k1 : Int) (k2 : Int) (cs3 : Cs) (k : Bool → Option R) : aSeenOf1c1_b k1 k2 cs3 k = Option.bind (aSeenOf1c1_b k1 k2 cs3 fun a0 => some a0) fun y => k y := by
  unfold aSeenOf1c1_b
  first | rfl | simp only [Option.bind_assoc, bind_cond, bind_ite, Option.bind_some, Option.bind_none]
theorem aSeenOf1c1_holds (hΓ : HoldsAll Tryz.prog G0 aSeenOf1c1_Γ) : Holds Tryz.prog G0 34 aSeenOf1c1_C := by
  refine fun_ok mixed tOk (ctrOf_ok hΓ) Tryz.func34 rfl rfl rfl rfl (F := funOf Tryz.f34) (fun ps x h => ?_)
  obtain ⟨y, hy, hx⟩ := bind_inv h
  cases hx
  obtain ⟨k1, k2, cs3, rfl⟩ := aSeenOf1c1_inv hy
  have hy' : aSeenOf1c1_d k1 k2 cs3 = some y := hy
  refine ⟨noL, noL_ok _, (aSeenOf1c1_eq k1 k2 cs3).trans ?_⟩
  unfold aSeenOf1c1_d at hy'
  rw [aSeenOf1c1_nat, hy']
  rfl

/-! ## slices.IndexFunc[[]drayman/seen.Key,drayman/seen.Key] -/
def aSlicesIndexFunc_l2 {R : Type} : Nat → Rs → Cs → Int → Int → (Int → Option R) → (Unit → Option R) → Option R
  | 0, _, _, _, _, _, _ => none
  | n + 1, s10, f11, i12, i13, k0, k1 =>
    cond (decide (i13 < i12)) (
      Option.bind (idx s10 i13) fun e14 =>
      if e14.length = 2 then
        Option.bind (subAgg e14 0 2) fun p15 =>
        Option.bind (aSeenOf1c1_D [p15, (PV.rp f11 0)]) fun y16 =>
        cond y16 (
          k0 i13) (
          aSlicesIndexFunc_l2 n s10 f11 i12 (IntKind.i64.wrap (i13 + (1 : Int))) k0 k1)
      else none) (
      k1 ())
def aSlicesIndexFunc_b {R : Type} (n : Nat) (s1 : Rs) (es2 : Rs) (es3 : Rs) (es4 : Rs) (es5 : Rs) (es6 : Rs) (es7 : Rs) (n8 : Int) (k : Int → Option R) : Option R :=
  aSlicesIndexFunc_l2 n s1 [(PV.fs es2), (PV.fs es3), (PV.fs es4), (PV.fs es5), (PV.fs es6), (PV.fs es7), (PV.int .i64 n8)] (s1.length : Int) 0 k
    (fun (_ : Unit) =>
      k (-1))
def aSlicesIndexFunc_E (y : Int) : PV × Cs := ((PV.int .i64 y), [])
def aSlicesIndexFunc_tl2 : Nat → Rs → Cs → Int → Int → Option ((Int) ⊕ (Unit))
  | 0, _, _, _, _ => none
  | n + 1, s10, f11, i12, i13 =>
    cond (decide (i13 < i12)) (
      Option.bind (idx s10 i13) fun e14 =>
      if e14.length = 2 then
        Option.bind (subAgg e14 0 2) fun p15 =>
        Option.bind (aSeenOf1c1_D [p15, (PV.rp f11 0)]) fun y16 =>
        cond y16 (
          some (Sum.inl i13)) (
          aSlicesIndexFunc_tl2 n s10 f11 i12 (IntKind.i64.wrap (i13 + (1 : Int))))
      else none) (
      some (Sum.inr ()))
theorem aSlicesIndexFunc_twl2 {R : Type} (n : Nat) (s10 : Rs) (f11 : Cs) (i12 : Int) (i13 : Int) (k0 : Int → Option R) (k1 : Unit → Option R) : Tw (aSlicesIndexFunc_tl2 n s10 f11 i12 i13) (aSlicesIndexFunc_l2 n s10 f11 i12 i13 k0 k1) (fun s => match s with | (Sum.inl a0) => k0 a0 | (Sum.inr _) => k1 ()) := by
  induction n generalizing s10 f11 i12 i13 with
  | zero => exact tw_none
  | succ n ih =>
    unfold aSlicesIndexFunc_tl2 aSlicesIndexFunc_l2
    refine tw_cond (fun _ => ?_) (fun _ => ?_)
    · refine tw_bind fun e14 _ => ?_
      refine tw_ite fun _ => ?_
      refine tw_bind fun p15 _ => ?_
      refine tw_bind fun y16 _ => ?_
      refine tw_cond (fun _ => ?_) (fun _ => ?_)
      · exact tw_some rfl
      · exact ih _ _ _ _
    · exact tw_some rfl
def aSlicesIndexFunc_t (s1 : Rs) (es2 : Rs) (es3 : Rs) (es4 : Rs) (es5 : Rs) (es6 : Rs) (es7 : Rs) (n8 : Int) : Option (Int) :=
  Option.bind (aSlicesIndexFunc_tl2 9223372036854775808 s1 [(PV.fs es2), (PV.fs es3), (PV.fs es4), (PV.fs es5), (PV.fs es6), (PV.fs es7), (PV.int .i64 n8)] (s1.length : Int) 0) fun s => match s with
    | (Sum.inl i9) =>
      some i9
    | (Sum.inr _) =>
      some (-1)
theorem aSlicesIndexFunc_tw {R : Type} (s1 : Rs) (es2 : Rs) (es3 : Rs) (es4 : Rs) (es5 : Rs) (es6 : Rs) (es7 : Rs) (n8 : Int) (k : Int → Option R) : Tw (aSlicesIndexFunc_t s1 es2 es3 es4 es5 es6 es7 n8) (aSlicesIndexFunc_b 9223372036854775808 s1 es2 es3 es4 es5 es6 es7 n8 k) (fun s => match s with | a0 => k a0) := by
  unfold aSlicesIndexFunc_t aSlicesIndexFunc_b
  refine tw_call (aSlicesIndexFunc_twl2 _ _ _ _ _ _ _) (fun s => ?_)
  rcases s with i9 | ⟨⟩
  · exact tw_some rfl
  · exact tw_some rfl
theorem aSlicesIndexFunc_ok : ∀ (s1 : Rs) (es2 : Rs) (es3 : Rs) (es4 : Rs) (es5 : Rs) (es6 : Rs) (es7 : Rs) (n8 : Int) (y : Int), aSlicesIndexFunc_t s1 es2 es3 es4 es5 es6 es7 n8 = some y → ∃ n, ∀ (R : Type) (k : Int → Option R), aSlicesIndexFunc_b n s1 es2 es3 es4 es5 es6 es7 n8 k = k y := fun s1 es2 es3 es4 es5 es6 es7 n8 y h => ⟨9223372036854775808, fun R k => aSlicesIndexFunc_tw s1 es2 es3 es4 es5 es6 es7 n8 k y h⟩
def aSlicesIndexFunc_D : Cs → Option (Int)
  | [(PV.fs s1), (PV.fn (Fn.func 34) [(PV.rp [(PV.fs es2), (PV.fs es3), (PV.fs es4), (PV.fs es5), (PV.fs es6), (PV.fs es7), (PV.int .i64 n8)] 0)])] => aSlicesIndexFunc_t s1 es2 es3 es4 es5 es6 es7 n8
  | _ => none
def aSlicesIndexFunc_Γ : List (Nat × Cal) := [(34, .ctr aSeenOf1c1_C)]
def aSlicesIndexFunc_C : Ctr := ⟨[none, none], Int, aSlicesIndexFunc_D, aSlicesIndexFunc_E, true, .d⟩
def aSlicesIndexFunc_cfg : List (Nat × LC) := [(2, ⟨[0, 1, 7, 8], [], [], [], []⟩),
  (2000002, ⟨[4], [], [], [], []⟩),
  (1002000, ⟨[], [], [], [], []⟩)]
def aSlicesIndexFunc_p2 : SP := ⟨sparse .undef [(0, (.val .fs)), (1, (.val (.fn 34 [(.rp 0)]))), (7, (.val (.int .i64))), (8, (.val (.int .i64)))] 0 19, [], []⟩
def aSlicesIndexFunc_pat : Nat → Option SP
  | 2 => some aSlicesIndexFunc_p2
  | _ => none
def aSlicesIndexFunc_patj : Nat → Option SP
  | _ => none
def aSlicesIndexFunc_L2 (n : Nat) (ls : List Leaf) (R : Type) (k : Ex → St → Option R) : Option R :=
  match ls with
  | [.rows s10, .cells f11, .int i12, .int i13] => aSlicesIndexFunc_l2 n s10 f11 i12 i13 (fun y1017 => k .ret ⟨sparse .undef [(4, (TV.val (PV.int .i64 y1017)))] 0 19, [], []⟩)
      (fun _ => k (.exit 0) ⟨sparse .undef [] 0 19, [], []⟩)
  | _ => none
def aSlicesIndexFunc_L (n key : Nat) (ls : List Leaf) (R : Type) (k : Ex → St → Option R) : Option R :=
  match key with
  | 2 => aSlicesIndexFunc_L2 n ls R k
  | _ => none
def aSlicesIndexFunc_J (n key : Nat) (ls : List Leaf) (R : Type) (k : Ex → St → Option R) : Option R :=
  match key with
  | _ => none
def aSlicesIndexFunc_on : Code → Bool := fun _ => false
def aSlicesIndexFunc_Λ : Nat → Loops := patL (normBy aSlicesIndexFunc_cfg) aSlicesIndexFunc_pat aSlicesIndexFunc_L (normJ aSlicesIndexFunc_cfg) aSlicesIndexFunc_on aSlicesIndexFunc_patj aSlicesIndexFunc_J
theorem aSlicesIndexFunc_step2 (n : Nat) (s10 : Rs) (f11 : Cs) (i12 : Int) (i13 : Int)  (R : Type) (k : Ex → St → Option R) :
    roundK T G0 (ctrOf aSlicesIndexFunc_Γ) (normBy aSlicesIndexFunc_cfg) (aSlicesIndexFunc_Λ n) (codeAt [1, 0, 1, 0, 0] (bodyOf Tryz.f61)) (buildSt aSlicesIndexFunc_p2 [.rows s10, .cells f11, .int i12, .int i13]) R k = aSlicesIndexFunc_L2 (n + 1) [.rows s10, .cells f11, .int i12, .int i13] R k := by kernel_rfl
theorem aSlicesIndexFunc_eq (n : Nat) (s1 : Rs) (es2 : Rs) (es3 : Rs) (es4 : Rs) (es5 : Rs) (es6 : Rs) (es7 : Rs) (n8 : Int) :
    funK T G0 (ctrOf aSlicesIndexFunc_Γ) (aSlicesIndexFunc_Λ n) .d true [none, none] (funOf Tryz.f61) [(PV.fs s1), (PV.fn (Fn.func 34) [(PV.rp [(PV.fs es2), (PV.fs es3), (PV.fs es4), (PV.fs es5), (PV.fs es6), (PV.fs es7), (PV.int .i64 n8)] 0)])] = aSlicesIndexFunc_b n  s1 es2 es3 es4 es5 es6 es7 n8 (fun a0 => some (aSlicesIndexFunc_E a0)) := by kernel_rfl
theorem aSlicesIndexFunc_inv {ps : Cs} {y : Int} (h : aSlicesIndexFunc_D ps = some y) : ∃ (s1 : Rs) (es2 : Rs) (es3 : Rs) (es4 : Rs) (es5 : Rs) (es6 : Rs) (es7 : Rs) (n8 : Int), ps = [(PV.fs s1), (PV.fn (Fn.func 34) [(PV.rp [(PV.fs es2), (PV.fs es3), (PV.fs es4), (PV.fs es5), (PV.fs es6), (PV.fs es7), (PV.int .i64 n8)] 0)])] := by
  unfold aSlicesIndexFunc_D at h
  split at h
  · exact ⟨_, _, _, _, _, _, _, _, rfl⟩
  · cases h
theorem aSlicesIndexFunc_loops : loopsOf (bodyOf Tryz.f61) = [codeAt [1, 0, 1, 0, 0] (bodyOf Tryz.f61)] := by kernel_rfl
theorem aSlicesIndexFunc_holds (hΓ : HoldsAll Tryz.prog G0 aSlicesIndexFunc_Γ) (hok : ∀ (s1 : Rs) (es2 : Rs) (es3 : Rs) (es4 : Rs) (es5 : Rs) (es6 : Rs) (es7 : Rs) (n8 : Int) (y : Int), aSlicesIndexFunc_t s1 es2 es3 es4 es5 es6 es7 n8 = some y → ∃ n, ∀ (R : Type) (k : Int → Option R), aSlicesIndexFunc_b n  s1 es2 es3 es4 es5 es6 es7 n8 k = k y) : Holds Tryz.prog G0 61 aSlicesIndexFunc_C := by
  refine fun_pat mixed tOk (ctrOf_ok hΓ) Tryz.func61 rfl rfl rfl rfl (F := funOf Tryz.f61) (normBy_ok aSlicesIndexFunc_cfg) (pat := aSlicesIndexFunc_pat) (L := aSlicesIndexFunc_L) (normJ_ok aSlicesIndexFunc_cfg) (on := aSlicesIndexFunc_on) (patj := aSlicesIndexFunc_patj) (J := aSlicesIndexFunc_J) (fun c hc ls R k => ?_) (fun c hc p hp m ls R k r h => ?_) (fun c hc p hp m ls R k r h => ?_) (fun ps x h => ?_)
  · rw [show (funOf Tryz.f61).code = bodyOf Tryz.f61 from rfl, aSlicesIndexFunc_loops] at hc
    simp only [List.mem_cons, List.not_mem_nil, or_false] at hc
    rcases hc with rfl
    · show aSlicesIndexFunc_L2 0 ls R k = none
      unfold aSlicesIndexFunc_L2
      split
      · rfl
      · rfl
  · rw [show (funOf Tryz.f61).code = bodyOf Tryz.f61 from rfl, aSlicesIndexFunc_loops] at hc
    simp only [List.mem_cons, List.not_mem_nil, or_false] at hc
    rcases hc with rfl
    · obtain rfl : aSlicesIndexFunc_p2 = p := Option.some.inj hp
      change aSlicesIndexFunc_L2 (m + 1) ls R k = some r at h
      have h' := h
      unfold aSlicesIndexFunc_L2 at h'
      split at h'
      · exact (aSlicesIndexFunc_step2 m _ _ _ _ R k).trans h
      · cases h'
  · cases (List.mem_filter.1 hc).2
  · obtain ⟨y, hy, hx⟩ := bind_inv h
    cases hx
    obtain ⟨s1, es2, es3, es4, es5, es6, es7, n8, rfl⟩ := aSlicesIndexFunc_inv hy
    obtain ⟨n, hn⟩ := hok s1 es2 es3 es4 es5 es6 es7 n8 y hy
    exact ⟨n, (aSlicesIndexFunc_eq n s1 es2 es3 es4 es5 es6 es7 n8).trans (hn _ _)⟩

/-! ## slices.DeleteFunc[[]drayman/seen.Key,drayman/seen.Key] -/
def aSlicesDeleteFunc_l5 {R : Type} : Nat → Cs → Int → Int → Rs → (Int → Rs → Option R) → Option R
  | 0, _, _, _, _, _ => none
  | n + 1, del12, i13, j14, es15, k0 =>
    cond (decide (j14 < (es15.length : Int))) (
      if 0 ≤ j14 ∧ j14 < (es15.length : Int) then
        Option.bind (es15[(Int.toNat j14)]?) fun e16 =>
        Option.bind (subAgg e16 0 2) fun p17 =>
        if (PV.isAgg p17 2) = true then
          Option.bind (aSeenOf1c1_D [p17, (PV.rp del12 0)]) fun y18 =>
          cond (!y18) (
            if 0 ≤ i13 ∧ i13 < (es15.length : Int) then
              if (PV.isAgg p17 2) = true then
                Option.bind (es15[(Int.toNat i13)]?) fun e19 =>
                aSlicesDeleteFunc_l5 n del12 (IntKind.i64.wrap (i13 + (1 : Int))) (IntKind.i64.wrap (j14 + (1 : Int))) (List.set es15 (Int.toNat i13) (PV.cells p17)) k0
              else none
            else none) (
            aSlicesDeleteFunc_l5 n del12 i13 (IntKind.i64.wrap (j14 + (1 : Int))) es15 k0)
        else none
      else none) (
      k0 i13 es15)
def aSlicesDeleteFunc_b {R : Type} (n : Nat) (s1 : Rs) (es2 : Rs) (es3 : Rs) (es4 : Rs) (es5 : Rs) (es6 : Rs) (es7 : Rs) (n8 : Int) (k : Rs → Option R) : Option R :=
  Option.bind (aSlicesIndexFunc_t s1 es2 es3 es4 es5 es6 es7 n8) fun y9 =>
  cond (y9 == (-1 : Int)) (
    k s1) (
    aSlicesDeleteFunc_l5 n [(PV.fs es2), (PV.fs es3), (PV.fs es4), (PV.fs es5), (PV.fs es6), (PV.fs es7), (PV.int .i64 n8)] y9 (IntKind.i64.wrap (y9 + (1 : Int))) s1
      (fun (i10 : Int) (es11 : Rs) =>
        if (0 : Int) ≤ i10 ∧ i10 ≤ (es11.length : Int) ∧ (es11.length : Int) = (es11.length : Int) ∧ (es11.length : Int) ≤ (es11.length : Int) ∧ 2 = 2 then
          if (0 : Int) ≤ (0 : Int) ∧ (0 : Int) ≤ i10 ∧ i10 = i10 ∧ i10 ≤ ((((es11.take (Int.toNat i10)) ++ (List.replicate (Int.toNat ((es11.length : Int) - i10)) [(PV.int .i64 0), (PV.int .i64 0)])) ++ (es11.drop ((Int.toNat i10) + (Int.toNat ((es11.length : Int) - i10))))).length : Int) ∧ 2 = 2 then
            k (((((es11.take (Int.toNat i10)) ++ (List.replicate (Int.toNat ((es11.length : Int) - i10)) [(PV.int .i64 0), (PV.int .i64 0)])) ++ (es11.drop ((Int.toNat i10) + (Int.toNat ((es11.length : Int) - i10))))).drop 0).take (Int.toNat (i10 - (0 : Int))))
          else none
        else none))
def aSlicesDeleteFunc_E (y : Rs) : PV × Cs := ((PV.os y 2), [])
def aSlicesDeleteFunc_tl5 : Nat → Cs → Int → Int → Rs → Option ((Int × Rs))
  | 0, _, _, _, _ => none
  | n + 1, del12, i13, j14, es15 =>
    cond (decide (j14 < (es15.length : Int))) (
      if 0 ≤ j14 ∧ j14 < (es15.length : Int) then
        Option.bind (es15[(Int.toNat j14)]?) fun e16 =>
        Option.bind (subAgg e16 0 2) fun p17 =>
        if (PV.isAgg p17 2) = true then
          Option.bind (aSeenOf1c1_D [p17, (PV.rp del12 0)]) fun y18 =>
          cond (!y18) (
            if 0 ≤ i13 ∧ i13 < (es15.length : Int) then
              if (PV.isAgg p17 2) = true then
                Option.bind (es15[(Int.toNat i13)]?) fun e19 =>
                aSlicesDeleteFunc_tl5 n del12 (IntKind.i64.wrap (i13 + (1 : Int))) (IntKind.i64.wrap (j14 + (1 : Int))) (List.set es15 (Int.toNat i13) (PV.cells p17))
              else none
            else none) (
            aSlicesDeleteFunc_tl5 n del12 i13 (IntKind.i64.wrap (j14 + (1 : Int))) es15)
        else none
      else none) (
      some (i13, es15))
theorem aSlicesDeleteFunc_twl5 {R : Type} (n : Nat) (del12 : Cs) (i13 : Int) (j14 : Int) (es15 : Rs) (k0 : Int → Rs → Option R) : Tw (aSlicesDeleteFunc_tl5 n del12 i13 j14 es15) (aSlicesDeleteFunc_l5 n del12 i13 j14 es15 k0) (fun s => match s with | (a0, a1) => k0 a0 a1) := by
  induction n generalizing del12 i13 j14 es15 with
  | zero => exact tw_none
  | succ n ih =>
    unfold aSlicesDeleteFunc_tl5 aSlicesDeleteFunc_l5
    refine tw_cond (fun _ => ?_) (fun _ => ?_)
    · refine tw_ite fun _ => ?_
      refine tw_bind fun e16 _ => ?_
      refine tw_bind fun p17 _ => ?_
      refine tw_ite fun _ => ?_
      refine tw_bind fun y18 _ => ?_
      refine tw_cond (fun _ => ?_) (fun _ => ?_)
      · refine tw_ite fun _ => ?_
        refine tw_ite fun _ => ?_
        refine tw_bind fun e19 _ => ?_
        exact ih _ _ _ _
      · exact ih _ _ _ _
    · exact tw_some rfl
def aSlicesDeleteFunc_t (s1 : Rs) (es2 : Rs) (es3 : Rs) (es4 : Rs) (es5 : Rs) (es6 : Rs) (es7 : Rs) (n8 : Int) : Option (Rs) :=
  Option.bind (aSlicesIndexFunc_t s1 es2 es3 es4 es5 es6 es7 n8) fun y9 =>
  cond (y9 == (-1 : Int)) (
    some s1) (
    Option.bind (aSlicesDeleteFunc_tl5 9223372036854775808 [(PV.fs es2), (PV.fs es3), (PV.fs es4), (PV.fs es5), (PV.fs es6), (PV.fs es7), (PV.int .i64 n8)] y9 (IntKind.i64.wrap (y9 + (1 : Int))) s1) fun s => match s with
      | (i10, es11) =>
        if (0 : Int) ≤ i10 ∧ i10 ≤ (es11.length : Int) ∧ (es11.length : Int) = (es11.length : Int) ∧ (es11.length : Int) ≤ (es11.length : Int) ∧ 2 = 2 then
          if (0 : Int) ≤ (0 : Int) ∧ (0 : Int) ≤ i10 ∧ i10 = i10 ∧ i10 ≤ ((((es11.take (Int.toNat i10)) ++ (List.replicate (Int.toNat ((es11.length : Int) - i10)) [(PV.int .i64 0), (PV.int .i64 0)])) ++ (es11.drop ((Int.toNat i10) + (Int.toNat ((es11.length : Int) - i10))))).length : Int) ∧ 2 = 2 then
            some (((((es11.take (Int.toNat i10)) ++ (List.replicate (Int.toNat ((es11.length : Int) - i10)) [(PV.int .i64 0), (PV.int .i64 0)])) ++ (es11.drop ((Int.toNat i10) + (Int.toNat ((es11.length : Int) - i10))))).drop 0).take (Int.toNat (i10 - (0 : Int))))
          else none
        else none)
theorem aSlicesDeleteFunc_tw {R : Type} (s1 : Rs) (es2 : Rs) (es3 : Rs) (es4 : Rs) (es5 : Rs) (es6 : Rs) (es7 : Rs) (n8 : Int) (k : Rs → Option R) : Tw (aSlicesDeleteFunc_t s1 es2 es3 es4 es5 es6 es7 n8) (aSlicesDeleteFunc_b 9223372036854775808 s1 es2 es3 es4 es5 es6 es7 n8 k) (fun s => match s with | a0 => k a0) := by
  unfold aSlicesDeleteFunc_t aSlicesDeleteFunc_b
  refine tw_bind fun y9 _ => ?_
  refine tw_cond (fun _ => ?_) (fun _ => ?_)
  · exact tw_some rfl
  · refine tw_call (aSlicesDeleteFunc_twl5 _ _ _ _ _ _) (fun s => ?_)
    rcases s with ⟨i10, es11⟩
    · refine tw_ite fun _ => ?_
      refine tw_ite fun _ => ?_
      exact tw_some rfl
theorem aSlicesDeleteFunc_ok : ∀ (s1 : Rs) (es2 : Rs) (es3 : Rs) (es4 : Rs) (es5 : Rs) (es6 : Rs) (es7 : Rs) (n8 : Int) (y : Rs), aSlicesDeleteFunc_t s1 es2 es3 es4 es5 es6 es7 n8 = some y → ∃ n, ∀ (R : Type) (k : Rs → Option R), aSlicesDeleteFunc_b n s1 es2 es3 es4 es5 es6 es7 n8 k = k y := fun s1 es2 es3 es4 es5 es6 es7 n8 y h => ⟨9223372036854775808, fun R k => aSlicesDeleteFunc_tw s1 es2 es3 es4 es5 es6 es7 n8 k y h⟩
def aSlicesDeleteFunc_D : Cs → Option (Rs)
  | [(PV.os s1 2), (PV.fn (Fn.func 34) [(PV.rp [(PV.fs es2), (PV.fs es3), (PV.fs es4), (PV.fs es5), (PV.fs es6), (PV.fs es7), (PV.int .i64 n8)] 0)])] => aSlicesDeleteFunc_t s1 es2 es3 es4 es5 es6 es7 n8
  | _ => none
def aSlicesDeleteFunc_Γ : List (Nat × Cal) := [(61, .ctr aSlicesIndexFunc_C), (34, .ctr aSeenOf1c1_C)]
def aSlicesDeleteFunc_C : Ctr := ⟨[some (.s, false), none], Rs, aSlicesDeleteFunc_D, aSlicesDeleteFunc_E, false, .s⟩
def aSlicesDeleteFunc_cfg : List (Nat × LC) := [(5, ⟨[0, 1, 5, 6], [], [], [], []⟩),
  (1005000, ⟨[0, 5], [], [], [], []⟩)]
def aSlicesDeleteFunc_p5 : SP := ⟨sparse .undef [(0, (.ow 0)), (1, (.val (.fn 34 [(.rp 0)]))), (5, (.val (.int .i64))), (6, (.val (.int .i64)))] 0 42, [(.row 2)], []⟩
def aSlicesDeleteFunc_pat : Nat → Option SP
  | 5 => some aSlicesDeleteFunc_p5
  | _ => none
def aSlicesDeleteFunc_patj : Nat → Option SP
  | _ => none
def aSlicesDeleteFunc_L5 (n : Nat) (ls : List Leaf) (R : Type) (k : Ex → St → Option R) : Option R :=
  match ls with
  | [.cells del12, .int i13, .int j14, .rows es15] => aSlicesDeleteFunc_l5 n del12 i13 j14 es15 (fun y1020 y1021 => k (.exit 0) ⟨sparse .undef [(0, (TV.ow 0)), (5, (TV.val (PV.int .i64 y1020)))] 0 42, [(Ob.row y1021 2)], []⟩)
  | _ => none
def aSlicesDeleteFunc_L (n key : Nat) (ls : List Leaf) (R : Type) (k : Ex → St → Option R) : Option R :=
  match key with
  | 5 => aSlicesDeleteFunc_L5 n ls R k
  | _ => none
def aSlicesDeleteFunc_J (n key : Nat) (ls : List Leaf) (R : Type) (k : Ex → St → Option R) : Option R :=
  match key with
  | _ => none
def aSlicesDeleteFunc_on : Code → Bool := fun _ => false
def aSlicesDeleteFunc_Λ : Nat → Loops := patL (normBy aSlicesDeleteFunc_cfg) aSlicesDeleteFunc_pat aSlicesDeleteFunc_L (normJ aSlicesDeleteFunc_cfg) aSlicesDeleteFunc_on aSlicesDeleteFunc_patj aSlicesDeleteFunc_J
theorem aSlicesDeleteFunc_step5 (n : Nat) (del12 : Cs) (i13 : Int) (j14 : Int) (es15 : Rs)  (R : Type) (k : Ex → St → Option R) :
    roundK T G0 (ctrOf aSlicesDeleteFunc_Γ) (normBy aSlicesDeleteFunc_cfg) (aSlicesDeleteFunc_Λ n) (codeAt [1, 1, 1, 0, 1, 0, 0] (bodyOf Tryz.f32)) (buildSt aSlicesDeleteFunc_p5 [.cells del12, .int i13, .int j14, .rows es15]) R k = aSlicesDeleteFunc_L5 (n + 1) [.cells del12, .int i13, .int j14, .rows es15] R k := by kernel_rfl
theorem aSlicesDeleteFunc_eq (n : Nat) (s1 : Rs) (es2 : Rs) (es3 : Rs) (es4 : Rs) (es5 : Rs) (es6 : Rs) (es7 : Rs) (n8 : Int) :
    funK T G0 (ctrOf aSlicesDeleteFunc_Γ) (aSlicesDeleteFunc_Λ n) .s false [some (.s, false), none] (funOf Tryz.f32) [(PV.os s1 2), (PV.fn (Fn.func 34) [(PV.rp [(PV.fs es2), (PV.fs es3), (PV.fs es4), (PV.fs es5), (PV.fs es6), (PV.fs es7), (PV.int .i64 n8)] 0)])] = aSlicesDeleteFunc_b n  s1 es2 es3 es4 es5 es6 es7 n8 (fun a0 => some (aSlicesDeleteFunc_E a0)) := by kernel_rfl
theorem aSlicesDeleteFunc_inv {ps : Cs} {y : Rs} (h : aSlicesDeleteFunc_D ps = some y) : ∃ (s1 : Rs) (es2 : Rs) (es3 : Rs) (es4 : Rs) (es5 : Rs) (es6 : Rs) (es7 : Rs) (n8 : Int), ps = [(PV.os s1 2), (PV.fn (Fn.func 34) [(PV.rp [(PV.fs es2), (PV.fs es3), (PV.fs es4), (PV.fs es5), (PV.fs es6), (PV.fs es7), (PV.int .i64 n8)] 0)])] := by
  unfold aSlicesDeleteFunc_D at h
  split at h
  · exact ⟨_, _, _, _, _, _, _, _, rfl⟩
  · cases h
theorem aSlicesDeleteFunc_loops : loopsOf (bodyOf Tryz.f32) = [codeAt [1, 1, 1, 0, 1, 0, 0] (bodyOf Tryz.f32)] := by kernel_rfl
theorem aSlicesDeleteFunc_holds (hΓ : HoldsAll Tryz.prog G0 aSlicesDeleteFunc_Γ) (hok : ∀ (s1 : Rs) (es2 : Rs) (es3 : Rs) (es4 : Rs) (es5 : Rs) (es6 : Rs) (es7 : Rs) (n8 : Int) (y : Rs), aSlicesDeleteFunc_t s1 es2 es3 es4 es5 es6 es7 n8 = some y → ∃ n, ∀ (R : Type) (k : Rs → Option R), aSlicesDeleteFunc_b n  s1 es2 es3 es4 es5 es6 es7 n8 k = k y) : Holds Tryz.prog G0 32 aSlicesDeleteFunc_C := by
  refine fun_pat mixed tOk (ctrOf_ok hΓ) Tryz.func32 rfl rfl rfl rfl (F := funOf Tryz.f32) (normBy_ok aSlicesDeleteFunc_cfg) (pat := aSlicesDeleteFunc_pat) (L := aSlicesDeleteFunc_L) (normJ_ok aSlicesDeleteFunc_cfg) (on := aSlicesDeleteFunc_on) (patj := aSlicesDeleteFunc_patj) (J := aSlicesDeleteFunc_J) (fun c hc ls R k => ?_) (fun c hc p hp m ls R k r h => ?_) (fun c hc p hp m ls R k r h => ?_) (fun ps x h => ?_)
  · rw [show (funOf Tryz.f32).code = bodyOf Tryz.f32 from rfl, aSlicesDeleteFunc_loops] at hc
    simp only [List.mem_cons, List.not_mem_nil, or_false] at hc
    rcases hc with rfl
    · show aSlicesDeleteFunc_L5 0 ls R k = none
      unfold aSlicesDeleteFunc_L5
      split
      · rfl
      · rfl
  · rw [show (funOf Tryz.f32).code = bodyOf Tryz.f32 from rfl, aSlicesDeleteFunc_loops] at hc
    simp only [List.mem_cons, List.not_mem_nil, or_false] at hc
    rcases hc with rfl
    · obtain rfl : aSlicesDeleteFunc_p5 = p := Option.some.inj hp
      change aSlicesDeleteFunc_L5 (m + 1) ls R k = some r at h
      have h' := h
      unfold aSlicesDeleteFunc_L5 at h'
      split at h'
      · exact (aSlicesDeleteFunc_step5 m _ _ _ _ R k).trans h
      · cases h'
  · cases (List.mem_filter.1 hc).2
  · obtain ⟨y, hy, hx⟩ := bind_inv h
    cases hx
    obtain ⟨s1, es2, es3, es4, es5, es6, es7, n8, rfl⟩ := aSlicesDeleteFunc_inv hy
    obtain ⟨n, hn⟩ := hok s1 es2 es3 es4 es5 es6 es7 n8 y hy
    exact ⟨n, (aSlicesDeleteFunc_eq n s1 es2 es3 es4 es5 es6 es7 n8).trans (hn _ _)⟩

/-! ## math/bits.Len64 -/
def aBitsLen64_q8 {R : Type} (x8 : Int) (n9 : Int) (k0 : Int → Option R) : Option R :=
  cond (decide (x8 ≥ (256 : Int))) (
    Option.bind (idx ((ByteArray.mk #[0, 1, 2, 2, 3, 3, 3, 3, 4, 4, 4, 4, 4, 4, 4, 4, 5, 5, 5, 5, 5, 5, 5, 5, 5, 5, 5, 5, 5, 5, 5, 5, 6, 6, 6, 6, 6, 6, 6, 6, 6, 6, 6, 6, 6, 6, 6, 6, 6, 6, 6, 6, 6, 6, 6, 6, 6, 6, 6, 6, 6, 6, 6, 6, 7, 7, 7, 7, 7, 7, 7, 7, 7, 7, 7, 7, 7, 7, 7, 7, 7, 7, 7, 7, 7, 7, 7, 7, 7, 7, 7, 7, 7, 7, 7, 7, 7, 7, 7, 7, 7, 7, 7, 7, 7, 7, 7, 7, 7, 7, 7, 7, 7, 7, 7, 7, 7, 7, 7, 7, 7, 7, 7, 7, 7, 7, 7, 7, 8, 8, 8, 8, 8, 8, 8, 8, 8, 8, 8, 8, 8, 8, 8, 8, 8, 8, 8, 8, 8, 8, 8, 8, 8, 8, 8, 8, 8, 8, 8, 8, 8, 8, 8, 8, 8, 8, 8, 8, 8, 8, 8, 8, 8, 8, 8, 8, 8, 8, 8, 8, 8, 8, 8, 8, 8, 8, 8, 8, 8, 8, 8, 8, 8, 8, 8, 8, 8, 8, 8, 8, 8, 8, 8, 8, 8, 8, 8, 8, 8, 8, 8, 8, 8, 8, 8, 8, 8, 8, 8, 8, 8, 8, 8, 8, 8, 8, 8, 8, 8, 8, 8, 8, 8, 8, 8, 8, 8, 8, 8, 8, 8, 8, 8, 8, 8, 8, 8, 8, 8, 8, 8, 8, 8, 8, 8, 8])).data.toList (IntKind.u8.wrap (Int.fdiv x8 (2 ^ 8)))) fun u10 =>
    k0 (IntKind.i64.wrap ((IntKind.i64.wrap (n9 + (8 : Int))) + (IntKind.i64.wrap (u10.toNat : Int))))) (
    Option.bind (idx ((ByteArray.mk #[0, 1, 2, 2, 3, 3, 3, 3, 4, 4, 4, 4, 4, 4, 4, 4, 5, 5, 5, 5, 5, 5, 5, 5, 5, 5, 5, 5, 5, 5, 5, 5, 6, 6, 6, 6, 6, 6, 6, 6, 6, 6, 6, 6, 6, 6, 6, 6, 6, 6, 6, 6, 6, 6, 6, 6, 6, 6, 6, 6, 6, 6, 6, 6, 7, 7, 7, 7, 7, 7, 7, 7, 7, 7, 7, 7, 7, 7, 7, 7, 7, 7, 7, 7, 7, 7, 7, 7, 7, 7, 7, 7, 7, 7, 7, 7, 7, 7, 7, 7, 7, 7, 7, 7, 7, 7, 7, 7, 7, 7, 7, 7, 7, 7, 7, 7, 7, 7, 7, 7, 7, 7, 7, 7, 7, 7, 7, 7, 8, 8, 8, 8, 8, 8, 8, 8, 8, 8, 8, 8, 8, 8, 8, 8, 8, 8, 8, 8, 8, 8, 8, 8, 8, 8, 8, 8, 8, 8, 8, 8, 8, 8, 8, 8, 8, 8, 8, 8, 8, 8, 8, 8, 8, 8, 8, 8, 8, 8, 8, 8, 8, 8, 8, 8, 8, 8, 8, 8, 8, 8, 8, 8, 8, 8, 8, 8, 8, 8, 8, 8, 8, 8, 8, 8, 8, 8, 8, 8, 8, 8, 8, 8, 8, 8, 8, 8, 8, 8, 8, 8, 8, 8, 8, 8, 8, 8, 8, 8, 8, 8, 8, 8, 8, 8, 8, 8, 8, 8, 8, 8, 8, 8, 8, 8, 8, 8, 8, 8, 8, 8, 8, 8, 8, 8, 8, 8])).data.toList (IntKind.u8.wrap x8)) fun u11 =>
    k0 (IntKind.i64.wrap (n9 + (IntKind.i64.wrap (u11.toNat : Int)))))
def aBitsLen64_q5 {R : Type} (x4 : Int) (n5 : Int) (k0 : Int → Option R) : Option R :=
  cond (decide (x4 ≥ (65536 : Int))) (
    aBitsLen64_q8 (Int.fdiv x4 (2 ^ 16)) (IntKind.i64.wrap (n5 + (16 : Int))) k0) (
    aBitsLen64_q8 x4 n5 k0)
def aBitsLen64_b {R : Type} (x1 : Int) (k : Int → Option R) : Option R :=
  cond (decide (x1 ≥ (4294967296 : Int))) (
    aBitsLen64_q5 (Int.fdiv x1 (2 ^ 32)) 32 k) (
    aBitsLen64_q5 x1 0 k)
def aBitsLen64_E (y : Int) : PV × Cs := ((PV.int .i64 y), [])
def aBitsLen64_tq8 (x8 : Int) (n9 : Int) : Option ((Int)) :=
  cond (decide (x8 ≥ (256 : Int))) (
    Option.bind (idx ((ByteArray.mk #[0, 1, 2, 2, 3, 3, 3, 3, 4, 4, 4, 4, 4, 4, 4, 4, 5, 5, 5, 5, 5, 5, 5, 5, 5, 5, 5, 5, 5, 5, 5, 5, 6, 6, 6, 6, 6, 6, 6, 6, 6, 6, 6, 6, 6, 6, 6, 6, 6, 6, 6, 6, 6, 6, 6, 6, 6, 6, 6, 6, 6, 6, 6, 6, 7, 7, 7, 7, 7, 7, 7, 7, 7, 7, 7, 7, 7, 7, 7, 7, 7, 7, 7, 7, 7, 7, 7, 7, 7, 7, 7, 7, 7, 7, 7, 7, 7, 7, 7, 7, 7, 7, 7, 7, 7, 7, 7, 7, 7, 7, 7, 7, 7, 7, 7, 7, 7, 7, 7, 7, 7, 7, 7, 7, 7, 7, 7, 7, 8, 8, 8, 8, 8, 8, 8, 8, 8, 8, 8, 8, 8, 8, 8, 8, 8, 8, 8, 8, 8, 8, 8, 8, 8, 8, 8, 8, 8, 8, 8, 8, 8, 8, 8, 8, 8, 8, 8, 8, 8, 8, 8, 8, 8, 8, 8, 8, 8, 8, 8, 8, 8, 8, 8, 8, 8, 8, 8, 8, 8, 8, 8, 8, 8, 8, 8, 8, 8, 8, 8, 8, 8, 8, 8, 8, 8, 8, 8, 8, 8, 8, 8, 8, 8, 8, 8, 8, 8, 8, 8, 8, 8, 8, 8, 8, 8, 8, 8, 8, 8, 8, 8, 8, 8, 8, 8, 8, 8, 8, 8, 8, 8, 8, 8, 8, 8, 8, 8, 8, 8, 8, 8, 8, 8, 8, 8, 8])).data.toList (IntKind.u8.wrap (Int.fdiv x8 (2 ^ 8)))) fun u10 =>
    some (IntKind.i64.wrap ((IntKind.i64.wrap (n9 + (8 : Int))) + (IntKind.i64.wrap (u10.toNat : Int))))) (
    Option.bind (idx ((ByteArray.mk #[0, 1, 2, 2, 3, 3, 3, 3, 4, 4, 4, 4, 4, 4, 4, 4, 5, 5, 5, 5, 5, 5, 5, 5, 5, 5, 5, 5, 5, 5, 5, 5, 6, 6, 6, 6, 6, 6, 6, 6, 6, 6, 6, 6, 6, 6, 6, 6, 6, 6, 6, 6, 6, 6, 6, 6, 6, 6, 6, 6, 6, 6, 6, 6, 7, 7, 7, 7, 7, 7, 7, 7, 7, 7, 7, 7, 7, 7, 7, 7, 7, 7, 7, 7, 7, 7, 7, 7, 7, 7, 7, 7, 7, 7, 7, 7, 7, 7, 7, 7, 7, 7, 7, 7, 7, 7, 7, 7, 7, 7, 7, 7, 7, 7, 7, 7, 7, 7, 7, 7, 7, 7, 7, 7, 7, 7, 7, 7, 8, 8, 8, 8, 8, 8, 8, 8, 8, 8, 8, 8, 8, 8, 8, 8, 8, 8, 8, 8, 8, 8, 8, 8, 8, 8, 8, 8, 8, 8, 8, 8, 8, 8, 8, 8, 8, 8, 8, 8, 8, 8, 8, 8, 8, 8, 8, 8, 8, 8, 8, 8, 8, 8, 8, 8, 8, 8, 8, 8, 8, 8, 8, 8, 8, 8, 8, 8, 8, 8, 8, 8, 8, 8, 8, 8, 8, 8, 8, 8, 8, 8, 8, 8, 8, 8, 8, 8, 8, 8, 8, 8, 8, 8, 8, 8, 8, 8, 8, 8, 8, 8, 8, 8, 8, 8, 8, 8, 8, 8, 8, 8, 8, 8, 8, 8, 8, 8, 8, 8, 8, 8, 8, 8, 8, 8, 8, 8])).data.toList (IntKind.u8.wrap x8)) fun u11 =>
    some (IntKind.i64.wrap (n9 + (IntKind.i64.wrap (u11.toNat : Int)))))
theorem aBitsLen64_twq8 {R : Type} (x8 : Int) (n9 : Int) (k0 : Int → Option R) : Tw (aBitsLen64_tq8 x8 n9) (aBitsLen64_q8 x8 n9 k0) (fun s => match s with | a0 => k0 a0) := by
  unfold aBitsLen64_tq8 aBitsLen64_q8
  refine tw_cond (fun _ => ?_) (fun _ => ?_)
  · refine tw_bind fun u10 _ => ?_
    exact tw_some rfl
  · refine tw_bind fun u11 _ => ?_
    exact tw_some rfl
def aBitsLen64_tq5 (x4 : Int) (n5 : Int) : Option ((Int)) :=
  cond (decide (x4 ≥ (65536 : Int))) (
    Option.bind (aBitsLen64_tq8 (Int.fdiv x4 (2 ^ 16)) (IntKind.i64.wrap (n5 + (16 : Int)))) fun s => match s with
      | n6 =>
        some n6) (
    Option.bind (aBitsLen64_tq8 x4 n5) fun s => match s with
      | n7 =>
        some n7)
theorem aBitsLen64_twq5 {R : Type} (x4 : Int) (n5 : Int) (k0 : Int → Option R) : Tw (aBitsLen64_tq5 x4 n5) (aBitsLen64_q5 x4 n5 k0) (fun s => match s with | a0 => k0 a0) := by
  unfold aBitsLen64_tq5 aBitsLen64_q5
  refine tw_cond (fun _ => ?_) (fun _ => ?_)
  · refine tw_call (aBitsLen64_twq8 _ _ _) (fun s => ?_)
    rcases s with n6
    · exact tw_some rfl
  · refine tw_call (aBitsLen64_twq8 _ _ _) (fun s => ?_)
    rcases s with n7
    · exact tw_some rfl
def aBitsLen64_t (x1 : Int) : Option (Int) :=
  cond (decide (x1 ≥ (4294967296 : Int))) (
    Option.bind (aBitsLen64_tq5 (Int.fdiv x1 (2 ^ 32)) 32) fun s => match s with
      | n2 =>
        some n2) (
    Option.bind (aBitsLen64_tq5 x1 0) fun s => match s with
      | n3 =>
        some n3)
theorem aBitsLen64_tw {R : Type} (x1 : Int) (k : Int → Option R) : Tw (aBitsLen64_t x1) (aBitsLen64_b  x1 k) (fun s => match s with | a0 => k a0) := by
  unfold aBitsLen64_t aBitsLen64_b
  refine tw_cond (fun _ => ?_) (fun _ => ?_)
  · refine tw_call (aBitsLen64_twq5 _ _ _) (fun s => ?_)
    rcases s with n2
    · exact tw_some rfl
  · refine tw_call (aBitsLen64_twq5 _ _ _) (fun s => ?_)
    rcases s with n3
    · exact tw_some rfl
theorem aBitsLen64_ok : ∀ (x1 : Int) (y : Int), aBitsLen64_t x1 = some y → ∀ (R : Type) (k : Int → Option R), aBitsLen64_b  x1 k = k y := fun x1 y h => fun R k => aBitsLen64_tw x1 k y h
def aBitsLen64_D : Cs → Option (Int)
  | [(PV.int .u64 x1)] => aBitsLen64_t x1
  | _ => none
def aBitsLen64_Γ : List (Nat × Cal) := []
def aBitsLen64_C : Ctr := ⟨[none], Int, aBitsLen64_D, aBitsLen64_E, true, .d⟩
def aBitsLen64_cfg : List (Nat × LC) := [(4000008, ⟨[0, 2], [], [], [], []⟩),
  (4000005, ⟨[0, 2], [], [], [], []⟩),
  (6000008, ⟨[2], [], [], [], []⟩),
  (6000005, ⟨[2], [], [], [], []⟩)]
def aBitsLen64_pj8 : SP := ⟨sparse .undef [(0, (.val (.int .u64))), (2, (.val (.int .i64)))] 0 25, [], []⟩
def aBitsLen64_pj5 : SP := ⟨sparse .undef [(0, (.val (.int .u64))), (2, (.val (.int .i64)))] 0 25, [], []⟩
def aBitsLen64_pat : Nat → Option SP
  | _ => none
def aBitsLen64_patj : Nat → Option SP
  | 8 => some aBitsLen64_pj8
  | 5 => some aBitsLen64_pj5
  | _ => none
def aBitsLen64_J8 (n : Nat) (ls : List Leaf) (R : Type) (k : Ex → St → Option R) : Option R :=
  match ls with
  | [.int x8, .int n9] => aBitsLen64_q8 x8 n9 (fun y1012 => k .ret ⟨sparse .undef [(2, (TV.val (PV.int .i64 y1012)))] 0 25, [], []⟩)
  | _ => none
def aBitsLen64_J5 (n : Nat) (ls : List Leaf) (R : Type) (k : Ex → St → Option R) : Option R :=
  match ls with
  | [.int x4, .int n5] => aBitsLen64_q5 x4 n5 (fun y2013 => k .ret ⟨sparse .undef [(2, (TV.val (PV.int .i64 y2013)))] 0 25, [], []⟩)
  | _ => none
def aBitsLen64_L (n key : Nat) (ls : List Leaf) (R : Type) (k : Ex → St → Option R) : Option R :=
  match key with
  | _ => none
def aBitsLen64_J (n key : Nat) (ls : List Leaf) (R : Type) (k : Ex → St → Option R) : Option R :=
  match key with
  | 8 => aBitsLen64_J8 n ls R k
  | 5 => aBitsLen64_J5 n ls R k
  | _ => none
def aBitsLen64_on : Code → Bool := onKeys [5, 8]
def aBitsLen64_Λ : Nat → Loops := patL (normBy aBitsLen64_cfg) aBitsLen64_pat aBitsLen64_L (normJ aBitsLen64_cfg) aBitsLen64_on aBitsLen64_patj aBitsLen64_J
theorem aBitsLen64_stepq5 (n : Nat) (x4 : Int) (n5 : Int)  (R : Type) (k : Ex → St → Option R) :
    joinK T G0 (ctrOf aBitsLen64_Γ) (normJ aBitsLen64_cfg) (aBitsLen64_Λ n) (codeAt [1, 1] (bodyOf Tryz.f117)) (buildSt aBitsLen64_pj5 [.int x4, .int n5]) R k = aBitsLen64_J5 n [.int x4, .int n5] R k := by kernel_rfl
theorem aBitsLen64_stepq8 (n : Nat) (x8 : Int) (n9 : Int)  (R : Type) (k : Ex → St → Option R) :
    joinK T G0 (ctrOf aBitsLen64_Γ) (normJ aBitsLen64_cfg) (aBitsLen64_Λ n) (codeAt [1, 1, 1] (bodyOf Tryz.f117)) (buildSt aBitsLen64_pj8 [.int x8, .int n9]) R k = aBitsLen64_J8 n [.int x8, .int n9] R k := by kernel_rfl
theorem aBitsLen64_eq (x1 : Int) :
    funK T G0 (ctrOf aBitsLen64_Γ) (aBitsLen64_Λ 0) .d true [none] (funOf Tryz.f117) [(PV.int .u64 x1)] = aBitsLen64_b  x1 (fun a0 => some (aBitsLen64_E a0)) := by kernel_rfl
theorem aBitsLen64_inv {ps : Cs} {y : Int} (h : aBitsLen64_D ps = some y) : ∃ (x1 : Int), ps = [(PV.int .u64 x1)] := by
  unfold aBitsLen64_D at h
  split at h
  · exact ⟨_, rfl⟩
  · cases h
theorem aBitsLen64_loops : loopsOf (bodyOf Tryz.f117) = [] := by kernel_rfl
theorem aBitsLen64_joins : (joinsOf (bodyOf Tryz.f117)).filter aBitsLen64_on = [codeAt [1, 1] (bodyOf Tryz.f117), codeAt [1, 1, 1] (bodyOf Tryz.f117)] := by kernel_rfl
theorem aBitsLen64_holds (hΓ : HoldsAll Tryz.prog G0 aBitsLen64_Γ) (hok : ∀ (x1 : Int) (y : Int), aBitsLen64_t x1 = some y → ∀ (R : Type) (k : Int → Option R), aBitsLen64_b  x1 k = k y) : Holds Tryz.prog G0 117 aBitsLen64_C := by
  refine fun_pat mixed tOk (ctrOf_ok hΓ) Tryz.func117 rfl rfl rfl rfl (F := funOf Tryz.f117) (normBy_ok aBitsLen64_cfg) (pat := aBitsLen64_pat) (L := aBitsLen64_L) (normJ_ok aBitsLen64_cfg) (on := aBitsLen64_on) (patj := aBitsLen64_patj) (J := aBitsLen64_J) (fun c hc ls R k => ?_) (fun c hc p hp m ls R k r h => ?_) (fun c hc p hp m ls R k r h => ?_) (fun ps x h => ?_)
  · rw [show (funOf Tryz.f117).code = bodyOf Tryz.f117 from rfl, aBitsLen64_loops] at hc
    cases hc
  · rw [show (funOf Tryz.f117).code = bodyOf Tryz.f117 from rfl, aBitsLen64_loops] at hc
    cases hc
  · rw [show (funOf Tryz.f117).code = bodyOf Tryz.f117 from rfl, aBitsLen64_joins] at hc
    simp only [List.mem_cons, List.not_mem_nil, or_false] at hc
    rcases hc with rfl | rfl
    · obtain rfl : aBitsLen64_pj5 = p := Option.some.inj hp
      change aBitsLen64_J5 m ls R k = some r at h
      have h' := h
      unfold aBitsLen64_J5 at h'
      split at h'
      · exact (aBitsLen64_stepq5 m _ _ R k).trans h
      · cases h'
    · obtain rfl : aBitsLen64_pj8 = p := Option.some.inj hp
      change aBitsLen64_J8 m ls R k = some r at h
      have h' := h
      unfold aBitsLen64_J8 at h'
      split at h'
      · exact (aBitsLen64_stepq8 m _ _ R k).trans h
      · cases h'
  · obtain ⟨y, hy, hx⟩ := bind_inv h
    cases hx
    obtain ⟨x1, rfl⟩ := aBitsLen64_inv hy
    exact ⟨0, (aBitsLen64_eq x1).trans (hok x1 y hy _ _)⟩

/-! ## math/bits.Len -/
def aBitsLen_b {R : Type} (x1 : Int) (k : Int → Option R) : Option R :=
  Option.bind (aBitsLen64_t x1) fun y2 =>
  k y2
def aBitsLen_E (y : Int) : PV × Cs := ((PV.int .i64 y), [])
def aBitsLen_d (x1 : Int) : Option (Int) := aBitsLen_b x1 fun a0 => some a0
def aBitsLen_D : Cs → Option (Int)
  | [(PV.int .u64 x1)] => aBitsLen_d x1
  | _ => none
def aBitsLen_Γ : List (Nat × Cal) := [(117, .ctr aBitsLen64_C)]
def aBitsLen_C : Ctr := ⟨[none], Int, aBitsLen_D, aBitsLen_E, true, .d⟩
theorem aBitsLen_eq (x1 : Int) :
    funK T G0 (ctrOf aBitsLen_Γ) noL .d true [none] (funOf Tryz.f70) [(PV.int .u64 x1)] = aBitsLen_b  x1 (fun a0 => some (aBitsLen_E a0)) := by kernel_rfl
theorem aBitsLen_inv {ps : Cs} {y : Int} (h : aBitsLen_D ps = some y) : ∃ (x1 : Int), ps = [(PV.int .u64 x1)] := by
  unfold aBitsLen_D at h
  split at h
  · exact ⟨_, rfl⟩
  · cases h
theorem aBitsLen_nat {R : Type} (x1 : Int) (k : Int → Option R) : aBitsLen_b x1 k = Option.bind (aBitsLen_b x1 fun a0 => some a0) fun y => k y := by
  unfold aBitsLen_b
  first | rfl | simp only [Option.bind_assoc, bind_cond, bind_ite, Option.bind_some, Option.bind_none]
theorem aBitsLen_holds (hΓ : HoldsAll Tryz.prog G0 aBitsLen_Γ) : Holds Tryz.prog G0 70 aBitsLen_C := by
  refine fun_ok mixed tOk (ctrOf_ok hΓ) Tryz.func70 rfl rfl rfl rfl (F := funOf Tryz.f70) (fun ps x h => ?_)
  obtain ⟨y, hy, hx⟩ := bind_inv h
  cases hx
  obtain ⟨x1, rfl⟩ := aBitsLen_inv hy
  have hy' : aBitsLen_d x1 = some y := hy
  refine ⟨noL, noL_ok _, (aBitsLen_eq x1).trans ?_⟩
  unfold aBitsLen_d at hy'
  rw [aBitsLen_nat, hy']
  rfl

/-! ## cmp.isNaN[int] -/
def aCmpIsNaN_b {R : Type} (x1 : Int) (k : Bool → Option R) : Option R :=
  k (x1 != x1)
def aCmpIsNaN_E (y : Bool) : PV × Cs := ((PV.bool y), [])
def aCmpIsNaN_d (x1 : Int) : Option (Bool) := aCmpIsNaN_b x1 fun a0 => some a0
def aCmpIsNaN_D : Cs → Option (Bool)
  | [(PV.int .i64 x1)] => aCmpIsNaN_d x1
  | _ => none
def aCmpIsNaN_Γ : List (Nat × Cal) := []
def aCmpIsNaN_C : Ctr := ⟨[none], Bool, aCmpIsNaN_D, aCmpIsNaN_E, true, .d⟩
theorem aCmpIsNaN_eq (x1 : Int) :
    funK T G0 (ctrOf aCmpIsNaN_Γ) noL .d true [none] (funOf Tryz.f71) [(PV.int .i64 x1)] = aCmpIsNaN_b  x1 (fun a0 => some (aCmpIsNaN_E a0)) := by kernel_rfl
theorem aCmpIsNaN_inv {ps : Cs} {y : Bool} (h : aCmpIsNaN_D ps = some y) : ∃ (x1 : Int), ps = [(PV.int .i64 x1)] := by
  unfold aCmpIsNaN_D at h
  split at h
  · exact ⟨_, rfl⟩
  · cases h
theorem aCmpIsNaN_nat {R : Type} (x1 : Int) (k : Bool → Option R) : aCmpIsNaN_b x1 k = Option.bind (aCmpIsNaN_b x1 fun a0 => some a0) fun y => k y := by
  unfold aCmpIsNaN_b
  first | rfl | simp only [Option.bind_assoc, bind_cond, bind_ite, Option.bind_some, Option.bind_none]
theorem aCmpIsNaN_holds (hΓ : HoldsAll Tryz.prog G0 aCmpIsNaN_Γ) : Holds Tryz.prog G0 71 aCmpIsNaN_C := by
  refine fun_ok mixed tOk (ctrOf_ok hΓ) Tryz.func71 rfl rfl rfl rfl (F := funOf Tryz.f71) (fun ps x h => ?_)
  obtain ⟨y, hy, hx⟩ := bind_inv h
  cases hx
  obtain ⟨x1, rfl⟩ := aCmpIsNaN_inv hy
  have hy' : aCmpIsNaN_d x1 = some y := hy
  refine ⟨noL, noL_ok _, (aCmpIsNaN_eq x1).trans ?_⟩
  unfold aCmpIsNaN_d at hy'
  rw [aCmpIsNaN_nat, hy']
  rfl

/-! ## cmp.Compare[int] -/
def aCmpCompare_b {R : Type} (x1 : Int) (y2 : Int) (k : Int → Option R) : Option R :=
  Option.bind (aCmpIsNaN_d x1) fun y3 =>
  Option.bind (aCmpIsNaN_d y2) fun y4 =>
  cond y3 (
    cond y4 (
      k 0) (
      k (-1))) (
    cond y4 (
      k 1) (
      cond (decide (x1 < y2)) (
        k (-1)) (
        cond (decide (x1 > y2)) (
          k 1) (
          k 0))))
def aCmpCompare_E (y : Int) : PV × Cs := ((PV.int .i64 y), [])
def aCmpCompare_d (x1 : Int) (y2 : Int) : Option (Int) := aCmpCompare_b x1 y2 fun a0 => some a0
def aCmpCompare_D : Cs → Option (Int)
  | [(PV.int .i64 x1), (PV.int .i64 y2)] => aCmpCompare_d x1 y2
  | _ => none
def aCmpCompare_Γ : List (Nat × Cal) := [(71, .ctr aCmpIsNaN_C)]
def aCmpCompare_C : Ctr := ⟨[none, none], Int, aCmpCompare_D, aCmpCompare_E, true, .d⟩
theorem aCmpCompare_eq (x1 : Int) (y2 : Int) :
    funK T G0 (ctrOf aCmpCompare_Γ) noL .d true [none, none] (funOf Tryz.f38) [(PV.int .i64 x1), (PV.int .i64 y2)] = aCmpCompare_b  x1 y2 (fun a0 => some (aCmpCompare_E a0)) := by kernel_rfl
theorem aCmpCompare_inv {ps : Cs} {y : Int} (h : aCmpCompare_D ps = some y) : ∃ (x1 : Int) (y2 : Int), ps = [(PV.int .i64 x1), (PV.int .i64 y2)] := by
  unfold aCmpCompare_D at h
  split at h
  · exact ⟨_, _, rfl⟩
  · cases h
theorem aCmpCompare_nat {R : Type} (x1 : Int) (y2 : Int) (k : Int → Option R) : aCmpCompare_b x1 y2 k = Option.bind (aCmpCompare_b x1 y2 fun a0 => some a0) fun y => k y := by
  unfold aCmpCompare_b
  first | rfl | simp only [Option.bind_assoc, bind_cond, bind_ite, Option.bind_some, Option.bind_none]
theorem aCmpCompare_holds (hΓ : HoldsAll Tryz.prog G0 aCmpCompare_Γ) : Holds Tryz.prog G0 38 aCmpCompare_C := by
  refine fun_ok mixed tOk (ctrOf_ok hΓ) Tryz.func38 rfl rfl rfl rfl (F := funOf Tryz.f38) (fun ps x h => ?_)
  obtain ⟨y, hy, hx⟩ := bind_inv h
  cases hx
  obtain ⟨x1, y2, rfl⟩ := aCmpCompare_inv hy
  have hy' : aCmpCompare_d x1 y2 = some y := hy
  refine ⟨noL, noL_ok _, (aCmpCompare_eq x1 y2).trans ?_⟩
  unfold aCmpCompare_d at hy'
  rw [aCmpCompare_nat, hy']
  rfl

/-! ## cmp.Or[int] -/
def aCmpOr_l3 {R : Type} : Nat → Int → Rs → Int → Int → (Int → Option R) → (Int → Option R) → Option R
  | 0, _, _, _, _, _, _ => none
  | n + 1, zero4, es5, i6, i7, k0, k1 =>
    cond (decide (i7 < i6)) (
      Option.bind (idx es5 i7) fun e8 =>
      if e8.length = 1 then
        Option.bind (e8[0]?) fun c9 =>
        Option.bind (PV.asI .i64 c9) fun n10 =>
        cond (n10 != zero4) (
          k0 n10) (
          aCmpOr_l3 n zero4 es5 i6 (IntKind.i64.wrap (i7 + (1 : Int))) k0 k1)
      else none) (
      k1 zero4)
def aCmpOr_b {R : Type} (n : Nat) (vals1 : Rs) (k : Int → Option R) : Option R :=
  aCmpOr_l3 n 0 vals1 (vals1.length : Int) 0 k k
def aCmpOr_E (y : Int) : PV × Cs := ((PV.int .i64 y), [])
def aCmpOr_tl3 : Nat → Int → Rs → Int → Int → Option ((Int) ⊕ (Int))
  | 0, _, _, _, _ => none
  | n + 1, zero4, es5, i6, i7 =>
    cond (decide (i7 < i6)) (
      Option.bind (idx es5 i7) fun e8 =>
      if e8.length = 1 then
        Option.bind (e8[0]?) fun c9 =>
        Option.bind (PV.asI .i64 c9) fun n10 =>
        cond (n10 != zero4) (
          some (Sum.inl n10)) (
          aCmpOr_tl3 n zero4 es5 i6 (IntKind.i64.wrap (i7 + (1 : Int))))
      else none) (
      some (Sum.inr zero4))
theorem aCmpOr_twl3 {R : Type} (n : Nat) (zero4 : Int) (es5 : Rs) (i6 : Int) (i7 : Int) (k0 : Int → Option R) (k1 : Int → Option R) : Tw (aCmpOr_tl3 n zero4 es5 i6 i7) (aCmpOr_l3 n zero4 es5 i6 i7 k0 k1) (fun s => match s with | (Sum.inl a0) => k0 a0 | (Sum.inr a0) => k1 a0) := by
  induction n generalizing zero4 es5 i6 i7 with
  | zero => exact tw_none
  | succ n ih =>
    unfold aCmpOr_tl3 aCmpOr_l3
    refine tw_cond (fun _ => ?_) (fun _ => ?_)
    · refine tw_bind fun e8 _ => ?_
      refine tw_ite fun _ => ?_
      refine tw_bind fun c9 _ => ?_
      refine tw_bind fun n10 _ => ?_
      refine tw_cond (fun _ => ?_) (fun _ => ?_)
      · exact tw_some rfl
      · exact ih _ _ _ _
    · exact tw_some rfl
def aCmpOr_t (vals1 : Rs) : Option (Int) :=
  Option.bind (aCmpOr_tl3 9223372036854775808 0 vals1 (vals1.length : Int) 0) fun s => match s with
    | (Sum.inl i2) =>
      some i2
    | (Sum.inr zero3) =>
      some zero3
theorem aCmpOr_tw {R : Type} (vals1 : Rs) (k : Int → Option R) : Tw (aCmpOr_t vals1) (aCmpOr_b 9223372036854775808 vals1 k) (fun s => match s with | a0 => k a0) := by
  unfold aCmpOr_t aCmpOr_b
  refine tw_call (aCmpOr_twl3 _ _ _ _ _ _ _) (fun s => ?_)
  rcases s with i2 | zero3
  · exact tw_some rfl
  · exact tw_some rfl
theorem aCmpOr_ok : ∀ (vals1 : Rs) (y : Int), aCmpOr_t vals1 = some y → ∃ n, ∀ (R : Type) (k : Int → Option R), aCmpOr_b n vals1 k = k y := fun vals1 y h => ⟨9223372036854775808, fun R k => aCmpOr_tw vals1 k y h⟩
def aCmpOr_D : Cs → Option (Int)
  | [(PV.fs vals1)] => aCmpOr_t vals1
  | _ => none
def aCmpOr_Γ : List (Nat × Cal) := []
def aCmpOr_C : Ctr := ⟨[none], Int, aCmpOr_D, aCmpOr_E, true, .d⟩
def aCmpOr_cfg : List (Nat × LC) := [(3, ⟨[3, 6, 7, 8], [], [], [], []⟩),
  (2000003, ⟨[2], [], [], [], []⟩),
  (1003000, ⟨[3], [], [], [], []⟩)]
def aCmpOr_p3 : SP := ⟨sparse .undef [(3, (.val (.int .i64))), (6, (.val .fs)), (7, (.val (.int .i64))), (8, (.val (.int .i64)))] 0 18, [], []⟩
def aCmpOr_pat : Nat → Option SP
  | 3 => some aCmpOr_p3
  | _ => none
def aCmpOr_patj : Nat → Option SP
  | _ => none
def aCmpOr_L3 (n : Nat) (ls : List Leaf) (R : Type) (k : Ex → St → Option R) : Option R :=
  match ls with
  | [.int zero4, .rows es5, .int i6, .int i7] => aCmpOr_l3 n zero4 es5 i6 i7 (fun y1011 => k .ret ⟨sparse .undef [(2, (TV.val (PV.int .i64 y1011)))] 0 18, [], []⟩)
      (fun y1012 => k (.exit 0) ⟨sparse .undef [(3, (TV.val (PV.int .i64 y1012)))] 0 18, [], []⟩)
  | _ => none
def aCmpOr_L (n key : Nat) (ls : List Leaf) (R : Type) (k : Ex → St → Option R) : Option R :=
  match key with
  | 3 => aCmpOr_L3 n ls R k
  | _ => none
def aCmpOr_J (n key : Nat) (ls : List Leaf) (R : Type) (k : Ex → St → Option R) : Option R :=
  match key with
  | _ => none
def aCmpOr_on : Code → Bool := fun _ => false
def aCmpOr_Λ : Nat → Loops := patL (normBy aCmpOr_cfg) aCmpOr_pat aCmpOr_L (normJ aCmpOr_cfg) aCmpOr_on aCmpOr_patj aCmpOr_J
theorem aCmpOr_step3 (n : Nat) (zero4 : Int) (es5 : Rs) (i6 : Int) (i7 : Int)  (R : Type) (k : Ex → St → Option R) :
    roundK T G0 (ctrOf aCmpOr_Γ) (normBy aCmpOr_cfg) (aCmpOr_Λ n) (codeAt [1, 1, 0, 1, 0, 0] (bodyOf Tryz.f37)) (buildSt aCmpOr_p3 [.int zero4, .rows es5, .int i6, .int i7]) R k = aCmpOr_L3 (n + 1) [.int zero4, .rows es5, .int i6, .int i7] R k := by kernel_rfl
theorem aCmpOr_eq (n : Nat) (vals1 : Rs) :
    funK T G0 (ctrOf aCmpOr_Γ) (aCmpOr_Λ n) .d true [none] (funOf Tryz.f37) [(PV.fs vals1)] = aCmpOr_b n  vals1 (fun a0 => some (aCmpOr_E a0)) := by kernel_rfl
theorem aCmpOr_inv {ps : Cs} {y : Int} (h : aCmpOr_D ps = some y) : ∃ (vals1 : Rs), ps = [(PV.fs vals1)] := by
  unfold aCmpOr_D at h
  split at h
  · exact ⟨_, rfl⟩
  · cases h
theorem aCmpOr_loops : loopsOf (bodyOf Tryz.f37) = [codeAt [1, 1, 0, 1, 0, 0] (bodyOf Tryz.f37)] := by kernel_rfl
theorem aCmpOr_holds (hΓ : HoldsAll Tryz.prog G0 aCmpOr_Γ) (hok : ∀ (vals1 : Rs) (y : Int), aCmpOr_t vals1 = some y → ∃ n, ∀ (R : Type) (k : Int → Option R), aCmpOr_b n  vals1 k = k y) : Holds Tryz.prog G0 37 aCmpOr_C := by
  refine fun_pat mixed tOk (ctrOf_ok hΓ) Tryz.func37 rfl rfl rfl rfl (F := funOf Tryz.f37) (normBy_ok aCmpOr_cfg) (pat := aCmpOr_pat) (L := aCmpOr_L) (normJ_ok aCmpOr_cfg) (on := aCmpOr_on) (patj := aCmpOr_patj) (J := aCmpOr_J) (fun c hc ls R k => ?_) (fun c hc p hp m ls R k r h => ?_) (fun c hc p hp m ls R k r h => ?_) (fun ps x h => ?_)
  · rw [show (funOf Tryz.f37).code = bodyOf Tryz.f37 from rfl, aCmpOr_loops] at hc
    simp only [List.mem_cons, List.not_mem_nil, or_false] at hc
    rcases hc with rfl
    · show aCmpOr_L3 0 ls R k = none
      unfold aCmpOr_L3
      split
      · rfl
      · rfl
  · rw [show (funOf Tryz.f37).code = bodyOf Tryz.f37 from rfl, aCmpOr_loops] at hc
    simp only [List.mem_cons, List.not_mem_nil, or_false] at hc
    rcases hc with rfl
    · obtain rfl : aCmpOr_p3 = p := Option.some.inj hp
      change aCmpOr_L3 (m + 1) ls R k = some r at h
      have h' := h
      unfold aCmpOr_L3 at h'
      split at h'
      · exact (aCmpOr_step3 m _ _ _ _ R k).trans h
      · cases h'
  · cases (List.mem_filter.1 hc).2
  · obtain ⟨y, hy, hx⟩ := bind_inv h
    cases hx
    obtain ⟨vals1, rfl⟩ := aCmpOr_inv hy
    obtain ⟨n, hn⟩ := hok vals1 y hy
    exact ⟨n, (aCmpOr_eq n vals1).trans (hn _ _)⟩

/-! ## drayman/seen.Of$2 -/
def aSeenOf2c2_b {R : Type} (a1 : Int) (a2 : Int) (b3 : Int) (b4 : Int) (k : Int → Option R) : Option R :=
  Option.bind (aCmpCompare_d a1 b3) fun y5 =>
  Option.bind (aCmpCompare_d a2 b4) fun y6 =>
  Option.bind (aCmpOr_t [[(PV.int .i64 y5)], [(PV.int .i64 y6)]]) fun y7 =>
  k y7
def aSeenOf2c2_E (y : Int) : PV × Cs := ((PV.int .i64 y), [])
def aSeenOf2c2_d (a1 : Int) (a2 : Int) (b3 : Int) (b4 : Int) : Option (Int) := aSeenOf2c2_b a1 a2 b3 b4 fun a0 => some a0
def aSeenOf2c2_D : Cs → Option (Int)
  | [(PV.agg [(PV.int .i64 a1), (PV.int .i64 a2)]), (PV.agg [(PV.int .i64 b3), (PV.int .i64 b4)])] => aSeenOf2c2_d a1 a2 b3 b4
  | _ => none
def aSeenOf2c2_Γ : List (Nat × Cal) := [(38, .ctr aCmpCompare_C), (37, .ctr aCmpOr_C), (1000000002, ro_I), (1000000003, ro_I)]
def aSeenOf2c2_C : Ctr := ⟨[none, none], Int, aSeenOf2c2_D, aSeenOf2c2_E, true, .d⟩
theorem aSeenOf2c2_eq (a1 : Int) (a2 : Int) (b3 : Int) (b4 : Int) :
    funK T G0 (ctrOf aSeenOf2c2_Γ) noL .d true [none, none] (funOf Tryz.f36) [(PV.agg [(PV.int .i64 a1), (PV.int .i64 a2)]), (PV.agg [(PV.int .i64 b3), (PV.int .i64 b4)])] = aSeenOf2c2_b  a1 a2 b3 b4 (fun a0 => some (aSeenOf2c2_E a0)) := by kernel_rfl
theorem aSeenOf2c2_inv {ps : Cs} {y : Int} (h : aSeenOf2c2_D ps = some y) : ∃ (a1 : Int) (a2 : Int) (b3 : Int) (b4 : Int), ps = [(PV.agg [(PV.int .i64 a1), (PV.int .i64 a2)]), (PV.agg [(PV.int .i64 b3), (PV.int .i64 b4)])] := by
  unfold aSeenOf2c2_D at h
  split at h
  · exact ⟨_, _, _, _, rfl⟩
  · cases h
theorem aSeenOf2c2_nat {R : Type} (a1 : Int) (a2 : Int) (b3 : Int) (b4 : Int) (k : Int → Option R) : aSeenOf2c2_b a1 a2 b3 b4 k = Option.bind (aSeenOf2c2_b a1 a2 b3 b4 fun a0 => some a0) fun y => k y := by
  unfold aSeenOf2c2_b
  first | rfl | simp only [Option.bind_assoc, bind_cond, bind_ite, Option.bind_some, Option.bind_none]
theorem aSeenOf2c2_holds (hΓ : HoldsAll Tryz.prog G0 aSeenOf2c2_Γ) : Holds Tryz.prog G0 36 aSeenOf2c2_C := by
  refine fun_ok mixed tOk (ctrOf_ok hΓ) Tryz.func36 rfl rfl rfl rfl (F := funOf Tryz.f36) (fun ps x h => ?_)
  obtain ⟨y, hy, hx⟩ := bind_inv h
  cases hx
  obtain ⟨a1, a2, b3, b4, rfl⟩ := aSeenOf2c2_inv hy
  have hy' : aSeenOf2c2_d a1 a2 b3 b4 = some y := hy
  refine ⟨noL, noL_ok _, (aSeenOf2c2_eq a1 a2 b3 b4).trans ?_⟩
  unfold aSeenOf2c2_d at hy'
  rw [aSeenOf2c2_nat, hy']
  rfl

/-! ## slices.insertionSortCmpFunc[drayman/seen.Key] -/
def aSlicesInsertionSortCmpFunc_q7 {R : Type} (n : Nat) (a38 : Int) (b39 : Int) (i40 : Int) (j41 : Int) (es42 : Rs) (k0 : Int → Int → Int → Int → Rs → Option R) : Option R :=
  if 0 ≤ (IntKind.i64.wrap (j41 - (1 : Int))) ∧ (IntKind.i64.wrap (j41 - (1 : Int))) < (es42.length : Int) then
    if 0 ≤ j41 ∧ j41 < (es42.length : Int) then
      meet (
        Option.bind (es42[(Int.toNat (IntKind.i64.wrap (j41 - (1 : Int))))]?) fun e43 =>
        Option.bind (subAgg e43 0 2) fun p44 =>
        Option.bind (es42[(Int.toNat j41)]?) fun e45 =>
        Option.bind (subAgg e45 0 2) fun p46 =>
        if 0 ≤ j41 ∧ j41 < (es42.length : Int) then
          if (PV.isAgg p44 2) = true then
            Option.bind (es42[(Int.toNat j41)]?) fun e47 =>
            if 0 ≤ (IntKind.i64.wrap (j41 - (1 : Int))) ∧ (IntKind.i64.wrap (j41 - (1 : Int))) < ((List.set es42 (Int.toNat j41) (PV.cells p44)).length : Int) then
              if (PV.isAgg p46 2) = true then
                Option.bind ((List.set es42 (Int.toNat j41) (PV.cells p44))[(Int.toNat (IntKind.i64.wrap (j41 - (1 : Int))))]?) fun e48 =>
                k0 a38 b39 i40 (IntKind.i64.wrap (j41 - (1 : Int))) (List.set (List.set es42 (Int.toNat j41) (PV.cells p44)) (Int.toNat (IntKind.i64.wrap (j41 - (1 : Int)))) (PV.cells p46))
              else none
            else none
          else none
        else none) (
        Option.bind (es42[(Int.toNat j41)]?) fun e49 =>
        Option.bind (subAgg e49 0 2) fun p50 =>
        Option.bind (es42[(Int.toNat (IntKind.i64.wrap (j41 - (1 : Int))))]?) fun e51 =>
        Option.bind (subAgg e51 0 2) fun p52 =>
        if 0 ≤ j41 ∧ j41 < (es42.length : Int) then
          if (PV.isAgg p52 2) = true then
            Option.bind (es42[(Int.toNat j41)]?) fun e53 =>
            if 0 ≤ (IntKind.i64.wrap (j41 - (1 : Int))) ∧ (IntKind.i64.wrap (j41 - (1 : Int))) < ((List.set es42 (Int.toNat j41) (PV.cells p52)).length : Int) then
              if (PV.isAgg p50 2) = true then
                Option.bind ((List.set es42 (Int.toNat j41) (PV.cells p52))[(Int.toNat (IntKind.i64.wrap (j41 - (1 : Int))))]?) fun e54 =>
                k0 a38 b39 i40 (IntKind.i64.wrap (j41 - (1 : Int))) (List.set (List.set es42 (Int.toNat j41) (PV.cells p52)) (Int.toNat (IntKind.i64.wrap (j41 - (1 : Int)))) (PV.cells p50))
              else none
            else none
          else none
        else none)
    else none
  else none
def aSlicesInsertionSortCmpFunc_l4 {R : Type} : Nat → Int → Int → Int → Int → Rs → (Int → Int → Int → Rs → Option R) → Option R
  | 0, _, _, _, _, _, _ => none
  | n + 1, a13, b14, i15, j16, es17, k0 =>
    cond (decide (j16 > a13)) (
      if 0 ≤ j16 ∧ j16 < (es17.length : Int) then
        if 0 ≤ (IntKind.i64.wrap (j16 - (1 : Int))) ∧ (IntKind.i64.wrap (j16 - (1 : Int))) < (es17.length : Int) then
          meet (
            Option.bind (es17[(Int.toNat j16)]?) fun e18 =>
            Option.bind (subAgg e18 0 2) fun p19 =>
            Option.bind (es17[(Int.toNat (IntKind.i64.wrap (j16 - (1 : Int))))]?) fun e20 =>
            Option.bind (subAgg e20 0 2) fun p21 =>
            Option.bind (aSeenOf2c2_D [p19, p21]) fun y22 =>
            cond (decide (y22 < (0 : Int))) (
              aSlicesInsertionSortCmpFunc_q7 n a13 b14 i15 j16 es17
                (fun (a23 : Int) (b24 : Int) (i25 : Int) (j26 : Int) (es27 : Rs) =>
                  aSlicesInsertionSortCmpFunc_l4 n a23 b24 i25 j26 es27 k0)) (
              k0 a13 b14 i15 es17)) (
            Option.bind (es17[(Int.toNat (IntKind.i64.wrap (j16 - (1 : Int))))]?) fun e28 =>
            Option.bind (subAgg e28 0 2) fun p29 =>
            Option.bind (es17[(Int.toNat j16)]?) fun e30 =>
            Option.bind (subAgg e30 0 2) fun p31 =>
            Option.bind (aSeenOf2c2_D [p31, p29]) fun y32 =>
            cond (decide (y32 < (0 : Int))) (
              aSlicesInsertionSortCmpFunc_q7 n a13 b14 i15 j16 es17
                (fun (a33 : Int) (b34 : Int) (i35 : Int) (j36 : Int) (es37 : Rs) =>
                  aSlicesInsertionSortCmpFunc_l4 n a33 b34 i35 j36 es37 k0)) (
              k0 a13 b14 i15 es17))
        else none
      else none) (
      (fun (z1 : Option R) =>
        meet (
          z1) (
          z1)) (
        k0 a13 b14 i15 es17))
def aSlicesInsertionSortCmpFunc_l1 {R : Type} : Nat → Int → Int → Int → Rs → (Rs → Option R) → Option R
  | 0, _, _, _, _, _ => none
  | n + 1, a5, b6, i7, es8, k0 =>
    cond (decide (i7 < b6)) (
      aSlicesInsertionSortCmpFunc_l4 n a5 b6 i7 i7 es8
        (fun (a9 : Int) (b10 : Int) (i11 : Int) (es12 : Rs) =>
          aSlicesInsertionSortCmpFunc_l1 n a9 b10 (IntKind.i64.wrap (i11 + (1 : Int))) es12 k0)) (
      k0 es8)
def aSlicesInsertionSortCmpFunc_b {R : Type} (n : Nat) (data1 : Rs) (a2 : Int) (b3 : Int) (k : Rs → Option R) : Option R :=
  aSlicesInsertionSortCmpFunc_l1 n a2 b3 (IntKind.i64.wrap (a2 + (1 : Int))) data1 k
def aSlicesInsertionSortCmpFunc_E (y : Rs) : PV × Cs := ((PV.tuple []), [(PV.os y 2)])
def aSlicesInsertionSortCmpFunc_tq7 (n : Nat) (a38 : Int) (b39 : Int) (i40 : Int) (j41 : Int) (es42 : Rs) : Option ((Int × Int × Int × Int × Rs)) :=
  if 0 ≤ (IntKind.i64.wrap (j41 - (1 : Int))) ∧ (IntKind.i64.wrap (j41 - (1 : Int))) < (es42.length : Int) then
    if 0 ≤ j41 ∧ j41 < (es42.length : Int) then
      Option.bind (es42[(Int.toNat (IntKind.i64.wrap (j41 - (1 : Int))))]?) fun e43 =>
      Option.bind (subAgg e43 0 2) fun p44 =>
      Option.bind (es42[(Int.toNat j41)]?) fun e45 =>
      Option.bind (subAgg e45 0 2) fun p46 =>
      if 0 ≤ j41 ∧ j41 < (es42.length : Int) then
        if (PV.isAgg p44 2) = true then
          Option.bind (es42[(Int.toNat j41)]?) fun e47 =>
          if 0 ≤ (IntKind.i64.wrap (j41 - (1 : Int))) ∧ (IntKind.i64.wrap (j41 - (1 : Int))) < ((List.set es42 (Int.toNat j41) (PV.cells p44)).length : Int) then
            if (PV.isAgg p46 2) = true then
              Option.bind ((List.set es42 (Int.toNat j41) (PV.cells p44))[(Int.toNat (IntKind.i64.wrap (j41 - (1 : Int))))]?) fun e48 =>
              some (a38, b39, i40, (IntKind.i64.wrap (j41 - (1 : Int))), (List.set (List.set es42 (Int.toNat j41) (PV.cells p44)) (Int.toNat (IntKind.i64.wrap (j41 - (1 : Int)))) (PV.cells p46)))
            else none
          else none
        else none
      else none
    else none
  else none
theorem aSlicesInsertionSortCmpFunc_twq7 {R : Type} (n : Nat) (a38 : Int) (b39 : Int) (i40 : Int) (j41 : Int) (es42 : Rs) (k0 : Int → Int → Int → Int → Rs → Option R) : Tw (aSlicesInsertionSortCmpFunc_tq7 n a38 b39 i40 j41 es42) (aSlicesInsertionSortCmpFunc_q7 n a38 b39 i40 j41 es42 k0) (fun s => match s with | (a0, a1, a2, a3, a4) => k0 a0 a1 a2 a3 a4) := by
  unfold aSlicesInsertionSortCmpFunc_tq7 aSlicesInsertionSortCmpFunc_q7
  refine tw_ite fun _ => ?_
  refine tw_ite fun _ => ?_
  intro s hs
  obtain ⟨e43, h55, hs⟩ := bind_inv hs
  obtain ⟨p44, h56, hs⟩ := bind_inv hs
  obtain ⟨e45, h57, hs⟩ := bind_inv hs
  obtain ⟨p46, h58, hs⟩ := bind_inv hs
  obtain ⟨h59, hs⟩ := tw_iteI hs
  obtain ⟨h60, hs⟩ := tw_iteI hs
  obtain ⟨e47, h61, hs⟩ := bind_inv hs
  cases h57.symm.trans h61
  obtain ⟨h62, hs⟩ := tw_iteI hs
  obtain ⟨h63, hs⟩ := tw_iteI hs
  obtain ⟨e48, h64, hs⟩ := bind_inv hs
  cases hs
  simp only [h55, h56, h57, h58, h59, h60, h62, h63, h64, Option.bind_some, cond_true, cond_false, if_true, if_false, ite_true, ite_false, meet_self, and_self, true_and, and_true, eq_self, not_true_eq_false, not_false_eq_true, Bool.false_eq_true, reduceCtorEq]
def aSlicesInsertionSortCmpFunc_tl4 : Nat → Int → Int → Int → Int → Rs → Option ((Int × Int × Int × Rs))
  | 0, _, _, _, _, _ => none
  | n + 1, a13, b14, i15, j16, es17 =>
    cond (decide (j16 > a13)) (
      if 0 ≤ j16 ∧ j16 < (es17.length : Int) then
        if 0 ≤ (IntKind.i64.wrap (j16 - (1 : Int))) ∧ (IntKind.i64.wrap (j16 - (1 : Int))) < (es17.length : Int) then
          Option.bind (es17[(Int.toNat j16)]?) fun e18 =>
          Option.bind (subAgg e18 0 2) fun p19 =>
          Option.bind (es17[(Int.toNat (IntKind.i64.wrap (j16 - (1 : Int))))]?) fun e20 =>
          Option.bind (subAgg e20 0 2) fun p21 =>
          Option.bind (aSeenOf2c2_D [p19, p21]) fun y22 =>
          cond (decide (y22 < (0 : Int))) (
            Option.bind (aSlicesInsertionSortCmpFunc_tq7 n a13 b14 i15 j16 es17) fun s => match s with
              | (a23, b24, i25, j26, es27) =>
                aSlicesInsertionSortCmpFunc_tl4 n a23 b24 i25 j26 es27) (
            some (a13, b14, i15, es17))
        else none
      else none) (
      some (a13, b14, i15, es17))
theorem aSlicesInsertionSortCmpFunc_twl4 {R : Type} (n : Nat) (a13 : Int) (b14 : Int) (i15 : Int) (j16 : Int) (es17 : Rs) (k0 : Int → Int → Int → Rs → Option R) : Tw (aSlicesInsertionSortCmpFunc_tl4 n a13 b14 i15 j16 es17) (aSlicesInsertionSortCmpFunc_l4 n a13 b14 i15 j16 es17 k0) (fun s => match s with | (a0, a1, a2, a3) => k0 a0 a1 a2 a3) := by
  induction n generalizing a13 b14 i15 j16 es17 with
  | zero => exact tw_none
  | succ n ih =>
    unfold aSlicesInsertionSortCmpFunc_tl4 aSlicesInsertionSortCmpFunc_l4
    refine tw_cond (fun _ => ?_) (fun _ => ?_)
    · refine tw_ite fun _ => ?_
      refine tw_ite fun _ => ?_
      intro s hs
      obtain ⟨e18, h66, hs⟩ := bind_inv hs
      obtain ⟨p19, h67, hs⟩ := bind_inv hs
      obtain ⟨e20, h68, hs⟩ := bind_inv hs
      obtain ⟨p21, h69, hs⟩ := bind_inv hs
      obtain ⟨y22, h70, hs⟩ := bind_inv hs
      rcases tw_condI hs with ⟨h71, hs⟩ | ⟨h71, hs⟩
      · obtain ⟨s72, h72, hs⟩ := bind_inv hs
        have h72k := fun k0 => aSlicesInsertionSortCmpFunc_twq7 (R := R) _ _ _ _ _ _ k0 _ h72
        rcases s72 with ⟨a23, b24, i25, j26, es27⟩
        · have h73 := ih _ _ _ _ _ s hs
          simp only [h66, h67, h68, h69, h70, h71, h72k, h73, Option.bind_some, cond_true, cond_false, if_true, if_false, ite_true, ite_false, meet_self, and_self, true_and, and_true, eq_self, not_true_eq_false, not_false_eq_true, Bool.false_eq_true, reduceCtorEq]
      · cases hs
        simp only [h66, h67, h68, h69, h70, h71, Option.bind_some, cond_true, cond_false, if_true, if_false, ite_true, ite_false, meet_self, and_self, true_and, and_true, eq_self, not_true_eq_false, not_false_eq_true, Bool.false_eq_true, reduceCtorEq]
    · intro s hs
      cases hs
      simp only [Option.bind_some, cond_true, cond_false, if_true, if_false, ite_true, ite_false, meet_self, and_self, true_and, and_true, eq_self, not_true_eq_false, not_false_eq_true, Bool.false_eq_true, reduceCtorEq]
def aSlicesInsertionSortCmpFunc_tl1 : Nat → Int → Int → Int → Rs → Option ((Rs))
  | 0, _, _, _, _ => none
  | n + 1, a5, b6, i7, es8 =>
    cond (decide (i7 < b6)) (
      Option.bind (aSlicesInsertionSortCmpFunc_tl4 n a5 b6 i7 i7 es8) fun s => match s with
        | (a9, b10, i11, es12) =>
          aSlicesInsertionSortCmpFunc_tl1 n a9 b10 (IntKind.i64.wrap (i11 + (1 : Int))) es12) (
      some es8)
theorem aSlicesInsertionSortCmpFunc_twl1 {R : Type} (n : Nat) (a5 : Int) (b6 : Int) (i7 : Int) (es8 : Rs) (k0 : Rs → Option R) : Tw (aSlicesInsertionSortCmpFunc_tl1 n a5 b6 i7 es8) (aSlicesInsertionSortCmpFunc_l1 n a5 b6 i7 es8 k0) (fun s => match s with | a0 => k0 a0) := by
  induction n generalizing a5 b6 i7 es8 with
  | zero => exact tw_none
  | succ n ih =>
    unfold aSlicesInsertionSortCmpFunc_tl1 aSlicesInsertionSortCmpFunc_l1
    refine tw_cond (fun _ => ?_) (fun _ => ?_)
    · refine tw_call (aSlicesInsertionSortCmpFunc_twl4 _ _ _ _ _ _ _) (fun s => ?_)
      rcases s with ⟨a9, b10, i11, es12⟩
      · exact ih _ _ _ _
    · exact tw_some rfl
def aSlicesInsertionSortCmpFunc_t (data1 : Rs) (a2 : Int) (b3 : Int) : Option (Rs) :=
  Option.bind (aSlicesInsertionSortCmpFunc_tl1 9223372036854775808 a2 b3 (IntKind.i64.wrap (a2 + (1 : Int))) data1) fun s => match s with
    | es4 =>
      some es4
theorem aSlicesInsertionSortCmpFunc_tw {R : Type} (data1 : Rs) (a2 : Int) (b3 : Int) (k : Rs → Option R) : Tw (aSlicesInsertionSortCmpFunc_t data1 a2 b3) (aSlicesInsertionSortCmpFunc_b 9223372036854775808 data1 a2 b3 k) (fun s => match s with | a0 => k a0) := by
  unfold aSlicesInsertionSortCmpFunc_t aSlicesInsertionSortCmpFunc_b
  refine tw_call (aSlicesInsertionSortCmpFunc_twl1 _ _ _ _ _ _) (fun s => ?_)
  rcases s with es4
  · exact tw_some rfl
theorem aSlicesInsertionSortCmpFunc_ok : ∀ (data1 : Rs) (a2 : Int) (b3 : Int) (y : Rs), aSlicesInsertionSortCmpFunc_t data1 a2 b3 = some y → ∃ n, ∀ (R : Type) (k : Rs → Option R), aSlicesInsertionSortCmpFunc_b n data1 a2 b3 k = k y := fun data1 a2 b3 y h => ⟨9223372036854775808, fun R k => aSlicesInsertionSortCmpFunc_tw data1 a2 b3 k y h⟩
def aSlicesInsertionSortCmpFunc_D : Cs → Option (Rs)
  | [(PV.os data1 2), (PV.int .i64 a2), (PV.int .i64 b3), (PV.fn (Fn.func 36) [])] => aSlicesInsertionSortCmpFunc_t data1 a2 b3
  | _ => none
def aSlicesInsertionSortCmpFunc_Γ : List (Nat × Cal) := [(36, .ctr aSeenOf2c2_C)]
def aSlicesInsertionSortCmpFunc_C : Ctr := ⟨[some (.s, true), none, none, none], Rs, aSlicesInsertionSortCmpFunc_D, aSlicesInsertionSortCmpFunc_E, false, .d⟩
def aSlicesInsertionSortCmpFunc_cfg : List (Nat × LC) := [(1, ⟨[0, 1, 2, 3, 8], [], [], [], []⟩),
  (4, ⟨[0, 1, 2, 3, 8, 9], [], [], [], []⟩),
  (1001000, ⟨[], [], [], [], []⟩),
  (1004002, ⟨[0, 1, 2, 3, 8], [], [], [], []⟩),
  (4000007, ⟨[0, 1, 2, 3, 8, 9], [], [], [], []⟩),
  (5000007, ⟨[0, 1, 2, 3, 8, 9], [], [], [], []⟩)]
def aSlicesInsertionSortCmpFunc_pj7 : SP := ⟨sparse .undef [(0, (.ow 0)), (1, (.val (.int .i64))), (2, (.val (.int .i64))), (3, (.val (.fn 36 []))), (8, (.val (.int .i64))), (9, (.val (.int .i64)))] 0 53, [(.row 2)], [(.ow 0)]⟩
def aSlicesInsertionSortCmpFunc_p4 : SP := ⟨sparse .undef [(0, (.ow 0)), (1, (.val (.int .i64))), (2, (.val (.int .i64))), (3, (.val (.fn 36 []))), (8, (.val (.int .i64))), (9, (.val (.int .i64)))] 0 53, [(.row 2)], [(.ow 0)]⟩
def aSlicesInsertionSortCmpFunc_p1 : SP := ⟨sparse .undef [(0, (.ow 0)), (1, (.val (.int .i64))), (2, (.val (.int .i64))), (3, (.val (.fn 36 []))), (8, (.val (.int .i64)))] 0 53, [(.row 2)], [(.ow 0)]⟩
def aSlicesInsertionSortCmpFunc_pat : Nat → Option SP
  | 4 => some aSlicesInsertionSortCmpFunc_p4
  | 1 => some aSlicesInsertionSortCmpFunc_p1
  | _ => none
def aSlicesInsertionSortCmpFunc_patj : Nat → Option SP
  | 7 => some aSlicesInsertionSortCmpFunc_pj7
  | _ => none
def aSlicesInsertionSortCmpFunc_J7 (n : Nat) (ls : List Leaf) (R : Type) (k : Ex → St → Option R) : Option R :=
  match ls with
  | [.int a38, .int b39, .int i40, .int j41, .rows es42] => aSlicesInsertionSortCmpFunc_q7 n a38 b39 i40 j41 es42 (fun y1076 y1077 y1078 y1079 y1080 => k .normal ⟨sparse .undef [(0, (TV.ow 0)), (1, (TV.val (PV.int .i64 y1076))), (2, (TV.val (PV.int .i64 y1077))), (3, (TV.val (PV.fn (Fn.func 36) []))), (8, (TV.val (PV.int .i64 y1078))), (9, (TV.val (PV.int .i64 y1079)))] 0 53, [(Ob.row y1080 2)], [(TV.ow 0)]⟩)
  | _ => none
def aSlicesInsertionSortCmpFunc_L4 (n : Nat) (ls : List Leaf) (R : Type) (k : Ex → St → Option R) : Option R :=
  match ls with
  | [.int a13, .int b14, .int i15, .int j16, .rows es17] => aSlicesInsertionSortCmpFunc_l4 n a13 b14 i15 j16 es17 (fun y2081 y2082 y2083 y2084 => k (.exit 2) ⟨sparse .undef [(0, (TV.ow 0)), (1, (TV.val (PV.int .i64 y2081))), (2, (TV.val (PV.int .i64 y2082))), (3, (TV.val (PV.fn (Fn.func 36) []))), (8, (TV.val (PV.int .i64 y2083)))] 0 53, [(Ob.row y2084 2)], [(TV.ow 0)]⟩)
  | _ => none
def aSlicesInsertionSortCmpFunc_L1 (n : Nat) (ls : List Leaf) (R : Type) (k : Ex → St → Option R) : Option R :=
  match ls with
  | [.int a5, .int b6, .int i7, .rows es8] => aSlicesInsertionSortCmpFunc_l1 n a5 b6 i7 es8 (fun y3085 => k (.exit 0) ⟨sparse .undef [] 0 53, [(Ob.row y3085 2)], [(TV.ow 0)]⟩)
  | _ => none
def aSlicesInsertionSortCmpFunc_L (n key : Nat) (ls : List Leaf) (R : Type) (k : Ex → St → Option R) : Option R :=
  match key with
  | 4 => aSlicesInsertionSortCmpFunc_L4 n ls R k
  | 1 => aSlicesInsertionSortCmpFunc_L1 n ls R k
  | _ => none
def aSlicesInsertionSortCmpFunc_J (n key : Nat) (ls : List Leaf) (R : Type) (k : Ex → St → Option R) : Option R :=
  match key with
  | 7 => aSlicesInsertionSortCmpFunc_J7 n ls R k
  | _ => none
def aSlicesInsertionSortCmpFunc_on : Code → Bool := onKeys [7]
def aSlicesInsertionSortCmpFunc_Λ : Nat → Loops := patL (normBy aSlicesInsertionSortCmpFunc_cfg) aSlicesInsertionSortCmpFunc_pat aSlicesInsertionSortCmpFunc_L (normJ aSlicesInsertionSortCmpFunc_cfg) aSlicesInsertionSortCmpFunc_on aSlicesInsertionSortCmpFunc_patj aSlicesInsertionSortCmpFunc_J
theorem aSlicesInsertionSortCmpFunc_step1 (n : Nat) (a5 : Int) (b6 : Int) (i7 : Int) (es8 : Rs)  (R : Type) (k : Ex → St → Option R) :
    roundK T G0 (ctrOf aSlicesInsertionSortCmpFunc_Γ) (normBy aSlicesInsertionSortCmpFunc_cfg) (aSlicesInsertionSortCmpFunc_Λ n) (codeAt [1, 0, 0] (bodyOf Tryz.f108)) (buildSt aSlicesInsertionSortCmpFunc_p1 [.int a5, .int b6, .int i7, .rows es8]) R k = aSlicesInsertionSortCmpFunc_L1 (n + 1) [.int a5, .int b6, .int i7, .rows es8] R k := by kernel_rfl
theorem aSlicesInsertionSortCmpFunc_step4 (n : Nat) (a13 : Int) (b14 : Int) (i15 : Int) (j16 : Int) (es17 : Rs)  (R : Type) (k : Ex → St → Option R) :
    roundK T G0 (ctrOf aSlicesInsertionSortCmpFunc_Γ) (normBy aSlicesInsertionSortCmpFunc_cfg) (aSlicesInsertionSortCmpFunc_Λ n) (codeAt [1, 0, 0, 1, 0, 0, 1, 0, 0] (bodyOf Tryz.f108)) (buildSt aSlicesInsertionSortCmpFunc_p4 [.int a13, .int b14, .int i15, .int j16, .rows es17]) R k = aSlicesInsertionSortCmpFunc_L4 (n + 1) [.int a13, .int b14, .int i15, .int j16, .rows es17] R k := by kernel_rfl
theorem aSlicesInsertionSortCmpFunc_stepq7 (n : Nat) (a38 : Int) (b39 : Int) (i40 : Int) (j41 : Int) (es42 : Rs)  (R : Type) (k : Ex → St → Option R) :
    joinK T G0 (ctrOf aSlicesInsertionSortCmpFunc_Γ) (normJ aSlicesInsertionSortCmpFunc_cfg) (aSlicesInsertionSortCmpFunc_Λ n) (codeAt [1, 0, 0, 1, 0, 0, 1, 0, 0, 1] (bodyOf Tryz.f108)) (buildSt aSlicesInsertionSortCmpFunc_pj7 [.int a38, .int b39, .int i40, .int j41, .rows es42]) R k = aSlicesInsertionSortCmpFunc_J7 n [.int a38, .int b39, .int i40, .int j41, .rows es42] R k := by kernel_rfl
theorem aSlicesInsertionSortCmpFunc_eq (n : Nat) (data1 : Rs) (a2 : Int) (b3 : Int) :
    funK T G0 (ctrOf aSlicesInsertionSortCmpFunc_Γ) (aSlicesInsertionSortCmpFunc_Λ n) .d false [some (.s, true), none, none, none] (funOf Tryz.f108) [(PV.os data1 2), (PV.int .i64 a2), (PV.int .i64 b3), (PV.fn (Fn.func 36) [])] = aSlicesInsertionSortCmpFunc_b n  data1 a2 b3 (fun a0 => some (aSlicesInsertionSortCmpFunc_E a0)) := by kernel_rfl
theorem aSlicesInsertionSortCmpFunc_inv {ps : Cs} {y : Rs} (h : aSlicesInsertionSortCmpFunc_D ps = some y) : ∃ (data1 : Rs) (a2 : Int) (b3 : Int), ps = [(PV.os data1 2), (PV.int .i64 a2), (PV.int .i64 b3), (PV.fn (Fn.func 36) [])] := by
  unfold aSlicesInsertionSortCmpFunc_D at h
  split at h
  · exact ⟨_, _, _, rfl⟩
  · cases h
theorem aSlicesInsertionSortCmpFunc_loops : loopsOf (bodyOf Tryz.f108) = [codeAt [1, 0, 0] (bodyOf Tryz.f108), codeAt [1, 0, 0, 1, 0, 0, 1, 0, 0] (bodyOf Tryz.f108)] := by kernel_rfl
theorem aSlicesInsertionSortCmpFunc_joins : (joinsOf (bodyOf Tryz.f108)).filter aSlicesInsertionSortCmpFunc_on = [codeAt [1, 0, 0, 1, 0, 0, 1, 0, 0, 1] (bodyOf Tryz.f108)] := by kernel_rfl
theorem aSlicesInsertionSortCmpFunc_holds (hΓ : HoldsAll Tryz.prog G0 aSlicesInsertionSortCmpFunc_Γ) (hok : ∀ (data1 : Rs) (a2 : Int) (b3 : Int) (y : Rs), aSlicesInsertionSortCmpFunc_t data1 a2 b3 = some y → ∃ n, ∀ (R : Type) (k : Rs → Option R), aSlicesInsertionSortCmpFunc_b n  data1 a2 b3 k = k y) : Holds Tryz.prog G0 108 aSlicesInsertionSortCmpFunc_C := by
  refine fun_pat mixed tOk (ctrOf_ok hΓ) Tryz.func108 rfl rfl rfl rfl (F := funOf Tryz.f108) (normBy_ok aSlicesInsertionSortCmpFunc_cfg) (pat := aSlicesInsertionSortCmpFunc_pat) (L := aSlicesInsertionSortCmpFunc_L) (normJ_ok aSlicesInsertionSortCmpFunc_cfg) (on := aSlicesInsertionSortCmpFunc_on) (patj := aSlicesInsertionSortCmpFunc_patj) (J := aSlicesInsertionSortCmpFunc_J) (fun c hc ls R k => ?_) (fun c hc p hp m ls R k r h => ?_) (fun c hc p hp m ls R k r h => ?_) (fun ps x h => ?_)
  · rw [show (funOf Tryz.f108).code = bodyOf Tryz.f108 from rfl, aSlicesInsertionSortCmpFunc_loops] at hc
    simp only [List.mem_cons, List.not_mem_nil, or_false] at hc
    rcases hc with rfl | rfl
    · show aSlicesInsertionSortCmpFunc_L1 0 ls R k = none
      unfold aSlicesInsertionSortCmpFunc_L1
      split
      · rfl
      · rfl
    · show aSlicesInsertionSortCmpFunc_L4 0 ls R k = none
      unfold aSlicesInsertionSortCmpFunc_L4
      split
      · rfl
      · rfl
  · rw [show (funOf Tryz.f108).code = bodyOf Tryz.f108 from rfl, aSlicesInsertionSortCmpFunc_loops] at hc
    simp only [List.mem_cons, List.not_mem_nil, or_false] at hc
    rcases hc with rfl | rfl
    · obtain rfl : aSlicesInsertionSortCmpFunc_p1 = p := Option.some.inj hp
      change aSlicesInsertionSortCmpFunc_L1 (m + 1) ls R k = some r at h
      have h' := h
      unfold aSlicesInsertionSortCmpFunc_L1 at h'
      split at h'
      · exact (aSlicesInsertionSortCmpFunc_step1 m _ _ _ _ R k).trans h
      · cases h'
    · obtain rfl : aSlicesInsertionSortCmpFunc_p4 = p := Option.some.inj hp
      change aSlicesInsertionSortCmpFunc_L4 (m + 1) ls R k = some r at h
      have h' := h
      unfold aSlicesInsertionSortCmpFunc_L4 at h'
      split at h'
      · exact (aSlicesInsertionSortCmpFunc_step4 m _ _ _ _ _ R k).trans h
      · cases h'
  · rw [show (funOf Tryz.f108).code = bodyOf Tryz.f108 from rfl, aSlicesInsertionSortCmpFunc_joins] at hc
    simp only [List.mem_cons, List.not_mem_nil, or_false] at hc
    rcases hc with rfl
    · obtain rfl : aSlicesInsertionSortCmpFunc_pj7 = p := Option.some.inj hp
      change aSlicesInsertionSortCmpFunc_J7 m ls R k = some r at h
      have h' := h
      unfold aSlicesInsertionSortCmpFunc_J7 at h'
      split at h'
      · exact (aSlicesInsertionSortCmpFunc_stepq7 m _ _ _ _ _ R k).trans h
      · cases h'
  · obtain ⟨y, hy, hx⟩ := bind_inv h
    cases hx
    obtain ⟨data1, a2, b3, rfl⟩ := aSlicesInsertionSortCmpFunc_inv hy
    obtain ⟨n, hn⟩ := hok data1 a2 b3 y hy
    exact ⟨n, (aSlicesInsertionSortCmpFunc_eq n data1 a2 b3).trans (hn _ _)⟩

/-! ## slices.pdqsortCmpFunc[drayman/seen.Key] -/
def aSlicesPdqsortCmpFunc_l2 {R : Type} : Nat → Int → Int → Int → Bool → Bool → Rs → (Rs → Option R) → Option R
  | 0, _, _, _, _, _, _, _ => none
  | n + 1, a6, b7, limit8, wasBalanced9, wasPartitioned10, es11, k0 =>
    cond (decide ((IntKind.i64.wrap (b7 - a6)) ≤ (12 : Int))) (
      Option.bind (aSlicesInsertionSortCmpFunc_t es11 a6 b7) fun y12 =>
      k0 y12) (
      cond (limit8 == (0 : Int)) (
        none) (
        cond (!wasBalanced9) (
          none) (
          none)))
def aSlicesPdqsortCmpFunc_b {R : Type} (n : Nat) (data1 : Rs) (a2 : Int) (b3 : Int) (limit4 : Int) (k : Rs → Option R) : Option R :=
  aSlicesPdqsortCmpFunc_l2 n a2 b3 limit4 true true data1 k
def aSlicesPdqsortCmpFunc_E (y : Rs) : PV × Cs := ((PV.tuple []), [(PV.os y 2)])
def aSlicesPdqsortCmpFunc_tl2 : Nat → Int → Int → Int → Bool → Bool → Rs → Option ((Rs))
  | 0, _, _, _, _, _, _ => none
  | n + 1, a6, b7, limit8, wasBalanced9, wasPartitioned10, es11 =>
    cond (decide ((IntKind.i64.wrap (b7 - a6)) ≤ (12 : Int))) (
      Option.bind (aSlicesInsertionSortCmpFunc_t es11 a6 b7) fun y12 =>
      some y12) (
      cond (limit8 == (0 : Int)) (
        none) (
        cond (!wasBalanced9) (
          none) (
          none)))
theorem aSlicesPdqsortCmpFunc_twl2 {R : Type} (n : Nat) (a6 : Int) (b7 : Int) (limit8 : Int) (wasBalanced9 : Bool) (wasPartitioned10 : Bool) (es11 : Rs) (k0 : Rs → Option R) : Tw (aSlicesPdqsortCmpFunc_tl2 n a6 b7 limit8 wasBalanced9 wasPartitioned10 es11) (aSlicesPdqsortCmpFunc_l2 n a6 b7 limit8 wasBalanced9 wasPartitioned10 es11 k0) (fun s => match s with | a0 => k0 a0) := by
  induction n generalizing a6 b7 limit8 wasBalanced9 wasPartitioned10 es11 with
  | zero => exact tw_none
  | succ n ih =>
    unfold aSlicesPdqsortCmpFunc_tl2 aSlicesPdqsortCmpFunc_l2
    refine tw_cond (fun _ => ?_) (fun _ => ?_)
    · refine tw_bind fun y12 _ => ?_
      exact tw_some rfl
    · refine tw_cond (fun _ => ?_) (fun _ => ?_)
      · exact tw_none
      · refine tw_cond (fun _ => ?_) (fun _ => ?_)
        · exact tw_none
        · exact tw_none
def aSlicesPdqsortCmpFunc_t (data1 : Rs) (a2 : Int) (b3 : Int) (limit4 : Int) : Option (Rs) :=
  Option.bind (aSlicesPdqsortCmpFunc_tl2 9223372036854775808 a2 b3 limit4 true true data1) fun s => match s with
    | es5 =>
      some es5
theorem aSlicesPdqsortCmpFunc_tw {R : Type} (data1 : Rs) (a2 : Int) (b3 : Int) (limit4 : Int) (k : Rs → Option R) : Tw (aSlicesPdqsortCmpFunc_t data1 a2 b3 limit4) (aSlicesPdqsortCmpFunc_b 9223372036854775808 data1 a2 b3 limit4 k) (fun s => match s with | a0 => k a0) := by
  unfold aSlicesPdqsortCmpFunc_t aSlicesPdqsortCmpFunc_b
  refine tw_call (aSlicesPdqsortCmpFunc_twl2 _ _ _ _ _ _ _ _) (fun s => ?_)
  rcases s with es5
  · exact tw_some rfl
theorem aSlicesPdqsortCmpFunc_ok : ∀ (data1 : Rs) (a2 : Int) (b3 : Int) (limit4 : Int) (y : Rs), aSlicesPdqsortCmpFunc_t data1 a2 b3 limit4 = some y → ∃ n, ∀ (R : Type) (k : Rs → Option R), aSlicesPdqsortCmpFunc_b n data1 a2 b3 limit4 k = k y := fun data1 a2 b3 limit4 y h => ⟨9223372036854775808, fun R k => aSlicesPdqsortCmpFunc_tw data1 a2 b3 limit4 k y h⟩
def aSlicesPdqsortCmpFunc_D : Cs → Option (Rs)
  | [(PV.os data1 2), (PV.int .i64 a2), (PV.int .i64 b3), (PV.int .i64 limit4), (PV.fn (Fn.func 36) [])] => aSlicesPdqsortCmpFunc_t data1 a2 b3 limit4
  | _ => none
def aSlicesPdqsortCmpFunc_Γ : List (Nat × Cal) := [(108, .ctr aSlicesInsertionSortCmpFunc_C)]
def aSlicesPdqsortCmpFunc_C : Ctr := ⟨[some (.s, true), none, none, none, none], Rs, aSlicesPdqsortCmpFunc_D, aSlicesPdqsortCmpFunc_E, false, .d⟩
def aSlicesPdqsortCmpFunc_cfg : List (Nat × LC) := [(2, ⟨[0, 1, 2, 3, 4, 10, 11], [], [], [], []⟩),
  (2000002, ⟨[], [], [], [], []⟩)]
def aSlicesPdqsortCmpFunc_p2 : SP := ⟨sparse .undef [(0, (.ow 0)), (1, (.val (.int .i64))), (2, (.val (.int .i64))), (3, (.val (.int .i64))), (4, (.val (.fn 36 []))), (10, (.val .bool)), (11, (.val .bool))] 0 148, [(.row 2)], [(.ow 0)]⟩
def aSlicesPdqsortCmpFunc_pat : Nat → Option SP
  | 2 => some aSlicesPdqsortCmpFunc_p2
  | _ => none
def aSlicesPdqsortCmpFunc_patj : Nat → Option SP
  | _ => none
def aSlicesPdqsortCmpFunc_L2 (n : Nat) (ls : List Leaf) (R : Type) (k : Ex → St → Option R) : Option R :=
  match ls with
  | [.int a6, .int b7, .int limit8, .bool wasBalanced9, .bool wasPartitioned10, .rows es11] => aSlicesPdqsortCmpFunc_l2 n a6 b7 limit8 wasBalanced9 wasPartitioned10 es11 (fun y1013 => k .ret ⟨sparse .undef [] 0 148, [(Ob.row y1013 2)], [(TV.ow 0)]⟩)
  | _ => none
def aSlicesPdqsortCmpFunc_L (n key : Nat) (ls : List Leaf) (R : Type) (k : Ex → St → Option R) : Option R :=
  match key with
  | 2 => aSlicesPdqsortCmpFunc_L2 n ls R k
  | _ => none
def aSlicesPdqsortCmpFunc_J (n key : Nat) (ls : List Leaf) (R : Type) (k : Ex → St → Option R) : Option R :=
  match key with
  | _ => none
def aSlicesPdqsortCmpFunc_on : Code → Bool := fun _ => false
def aSlicesPdqsortCmpFunc_Λ : Nat → Loops := patL (normBy aSlicesPdqsortCmpFunc_cfg) aSlicesPdqsortCmpFunc_pat aSlicesPdqsortCmpFunc_L (normJ aSlicesPdqsortCmpFunc_cfg) aSlicesPdqsortCmpFunc_on aSlicesPdqsortCmpFunc_patj aSlicesPdqsortCmpFunc_J
theorem aSlicesPdqsortCmpFunc_step2 (n : Nat) (a6 : Int) (b7 : Int) (limit8 : Int) (wasBalanced9 : Bool) (wasPartitioned10 : Bool) (es11 : Rs)  (R : Type) (k : Ex → St → Option R) :
    roundK T G0 (ctrOf aSlicesPdqsortCmpFunc_Γ) (normBy aSlicesPdqsortCmpFunc_cfg) (aSlicesPdqsortCmpFunc_Λ n) (codeAt [1, 1, 0, 0] (bodyOf Tryz.f69)) (buildSt aSlicesPdqsortCmpFunc_p2 [.int a6, .int b7, .int limit8, .bool wasBalanced9, .bool wasPartitioned10, .rows es11]) R k = aSlicesPdqsortCmpFunc_L2 (n + 1) [.int a6, .int b7, .int limit8, .bool wasBalanced9, .bool wasPartitioned10, .rows es11] R k := by kernel_rfl
theorem aSlicesPdqsortCmpFunc_eq (n : Nat) (data1 : Rs) (a2 : Int) (b3 : Int) (limit4 : Int) :
    funK T G0 (ctrOf aSlicesPdqsortCmpFunc_Γ) (aSlicesPdqsortCmpFunc_Λ n) .d false [some (.s, true), none, none, none, none] (funOf Tryz.f69) [(PV.os data1 2), (PV.int .i64 a2), (PV.int .i64 b3), (PV.int .i64 limit4), (PV.fn (Fn.func 36) [])] = aSlicesPdqsortCmpFunc_b n  data1 a2 b3 limit4 (fun a0 => some (aSlicesPdqsortCmpFunc_E a0)) := by kernel_rfl
theorem aSlicesPdqsortCmpFunc_inv {ps : Cs} {y : Rs} (h : aSlicesPdqsortCmpFunc_D ps = some y) : ∃ (data1 : Rs) (a2 : Int) (b3 : Int) (limit4 : Int), ps = [(PV.os data1 2), (PV.int .i64 a2), (PV.int .i64 b3), (PV.int .i64 limit4), (PV.fn (Fn.func 36) [])] := by
  unfold aSlicesPdqsortCmpFunc_D at h
  split at h
  · exact ⟨_, _, _, _, rfl⟩
  · cases h
theorem aSlicesPdqsortCmpFunc_loops : loopsOf (bodyOf Tryz.f69) = [codeAt [1, 1, 0, 0] (bodyOf Tryz.f69)] := by kernel_rfl
theorem aSlicesPdqsortCmpFunc_holds (hΓ : HoldsAll Tryz.prog G0 aSlicesPdqsortCmpFunc_Γ) (hok : ∀ (data1 : Rs) (a2 : Int) (b3 : Int) (limit4 : Int) (y : Rs), aSlicesPdqsortCmpFunc_t data1 a2 b3 limit4 = some y → ∃ n, ∀ (R : Type) (k : Rs → Option R), aSlicesPdqsortCmpFunc_b n  data1 a2 b3 limit4 k = k y) : Holds Tryz.prog G0 69 aSlicesPdqsortCmpFunc_C := by
  refine fun_pat mixed tOk (ctrOf_ok hΓ) Tryz.func69 rfl rfl rfl rfl (F := funOf Tryz.f69) (normBy_ok aSlicesPdqsortCmpFunc_cfg) (pat := aSlicesPdqsortCmpFunc_pat) (L := aSlicesPdqsortCmpFunc_L) (normJ_ok aSlicesPdqsortCmpFunc_cfg) (on := aSlicesPdqsortCmpFunc_on) (patj := aSlicesPdqsortCmpFunc_patj) (J := aSlicesPdqsortCmpFunc_J) (fun c hc ls R k => ?_) (fun c hc p hp m ls R k r h => ?_) (fun c hc p hp m ls R k r h => ?_) (fun ps x h => ?_)
  · rw [show (funOf Tryz.f69).code = bodyOf Tryz.f69 from rfl, aSlicesPdqsortCmpFunc_loops] at hc
    simp only [List.mem_cons, List.not_mem_nil, or_false] at hc
    rcases hc with rfl
    · show aSlicesPdqsortCmpFunc_L2 0 ls R k = none
      unfold aSlicesPdqsortCmpFunc_L2
      split
      · rfl
      · rfl
  · rw [show (funOf Tryz.f69).code = bodyOf Tryz.f69 from rfl, aSlicesPdqsortCmpFunc_loops] at hc
    simp only [List.mem_cons, List.not_mem_nil, or_false] at hc
    rcases hc with rfl
    · obtain rfl : aSlicesPdqsortCmpFunc_p2 = p := Option.some.inj hp
      change aSlicesPdqsortCmpFunc_L2 (m + 1) ls R k = some r at h
      have h' := h
      unfold aSlicesPdqsortCmpFunc_L2 at h'
      split at h'
      · exact (aSlicesPdqsortCmpFunc_step2 m _ _ _ _ _ _ R k).trans h
      · cases h'
  · cases (List.mem_filter.1 hc).2
  · obtain ⟨y, hy, hx⟩ := bind_inv h
    cases hx
    obtain ⟨data1, a2, b3, limit4, rfl⟩ := aSlicesPdqsortCmpFunc_inv hy
    obtain ⟨n, hn⟩ := hok data1 a2 b3 limit4 y hy
    exact ⟨n, (aSlicesPdqsortCmpFunc_eq n data1 a2 b3 limit4).trans (hn _ _)⟩

/-! ## slices.SortFunc[[]drayman/seen.Key,drayman/seen.Key] -/
def aSlicesSortFunc_b {R : Type} (x1 : Rs) (k : Rs → Option R) : Option R :=
  Option.bind (aBitsLen_d (IntKind.u64.wrap (x1.length : Int))) fun y2 =>
  Option.bind (aSlicesPdqsortCmpFunc_t x1 0 (x1.length : Int) y2) fun y3 =>
  k y3
def aSlicesSortFunc_E (y : Rs) : PV × Cs := ((PV.tuple []), [(PV.os y 2)])
def aSlicesSortFunc_d (x1 : Rs) : Option (Rs) := aSlicesSortFunc_b x1 fun a0 => some a0
def aSlicesSortFunc_D : Cs → Option (Rs)
  | [(PV.os x1 2), (PV.fn (Fn.func 36) [])] => aSlicesSortFunc_d x1
  | _ => none
def aSlicesSortFunc_Γ : List (Nat × Cal) := [(70, .ctr aBitsLen_C), (69, .ctr aSlicesPdqsortCmpFunc_C)]
def aSlicesSortFunc_C : Ctr := ⟨[some (.s, true), none], Rs, aSlicesSortFunc_D, aSlicesSortFunc_E, false, .d⟩
theorem aSlicesSortFunc_eq (x1 : Rs) :
    funK T G0 (ctrOf aSlicesSortFunc_Γ) noL .d false [some (.s, true), none] (funOf Tryz.f35) [(PV.os x1 2), (PV.fn (Fn.func 36) [])] = aSlicesSortFunc_b  x1 (fun a0 => some (aSlicesSortFunc_E a0)) := by kernel_rfl
theorem aSlicesSortFunc_inv {ps : Cs} {y : Rs} (h : aSlicesSortFunc_D ps = some y) : ∃ (x1 : Rs), ps = [(PV.os x1 2), (PV.fn (Fn.func 36) [])] := by
  unfold aSlicesSortFunc_D at h
  split at h
  · exact ⟨_, rfl⟩
  · cases h
theorem aSlicesSortFunc_nat {R : Type} (x1 : Rs) (k : Rs → Option R) : aSlicesSortFunc_b x1 k = Option.bind (aSlicesSortFunc_b x1 fun a0 => some a0) fun y => k y := by
  unfold aSlicesSortFunc_b
  first | rfl | simp only [Option.bind_assoc, bind_cond, bind_ite, Option.bind_some, Option.bind_none]
theorem aSlicesSortFunc_holds (hΓ : HoldsAll Tryz.prog G0 aSlicesSortFunc_Γ) : Holds Tryz.prog G0 35 aSlicesSortFunc_C := by
  refine fun_ok mixed tOk (ctrOf_ok hΓ) Tryz.func35 rfl rfl rfl rfl (F := funOf Tryz.f35) (fun ps x h => ?_)
  obtain ⟨y, hy, hx⟩ := bind_inv h
  cases hx
  obtain ⟨x1, rfl⟩ := aSlicesSortFunc_inv hy
  have hy' : aSlicesSortFunc_d x1 = some y := hy
  refine ⟨noL, noL_ok _, (aSlicesSortFunc_eq x1).trans ?_⟩
  unfold aSlicesSortFunc_d at hy'
  rw [aSlicesSortFunc_nat, hy']
  rfl

end
end Go.Proofs.YtpaifgipdhgfkaaGreatDoorV
