/- What the functions of the program come to, as the reading machine has it: printed by dec.py. -/
import Derived.Test.YtgpjnppakffoiaaVTab
import Derived.Test.YtgpjnppakffoiaaD19
namespace Go.Proofs.YtgpjnppakffoiaaV
open Go
set_option maxRecDepth 100000
noncomputable section
/-! ## drayman/draymanlaw19.FrameOrder -/
def frameOrder_l11 {R : Type} : Nat → List (List PV) → Int → ByteArray → Int → ByteArray → Int → List (List PV) → List (List PV) → (List (List PV) → Int → ByteArray → Int → ByteArray → List (List PV) → List (List PV) → Option R) → Option R
  | 0, _, _, _, _, _, _, _, _, _ => none
  | n + 1, l46, cut47, t48, k49, s50, j51, es52, es53, k0 =>
    Option.bind (idx l46 k49) fun e54 =>
    if e54.length = 1 then
      Option.bind (e54[0]?) fun c55 =>
      Option.bind (PV.asS c55) fun s56 =>
      cond (decide (j51 < ((s56).size : Int))) (
        cond (decide (j51 < (40 : Int))) (
          Option.bind (idx l46 k49) fun e57 =>
          if e57.length = 1 then
            Option.bind (e57[0]?) fun c58 =>
            Option.bind (PV.asS c58) fun s59 =>
            Option.bind (idx (s59).data.toList j51) fun b60 =>
            cond ((b60.toNat : Int) != (10 : Int)) (
              Option.bind (idx l46 k49) fun e61 =>
              if e61.length = 1 then
                Option.bind (e61[0]?) fun c62 =>
                Option.bind (PV.asS c62) fun s63 =>
                if (0 : Int) ≤ j51 ∧ j51 ≤ (IntKind.i64.wrap (j51 + (1 : Int))) ∧ (IntKind.i64.wrap (j51 + (1 : Int))) ≤ ((s63).size : Int) then
                  if (s50).size + ((ByteArray.extract s63 (Int.toNat j51) (Int.toNat (IntKind.i64.wrap (j51 + (1 : Int)))))).size ≤ 140737488355328 then
                    frameOrder_l11 n l46 cut47 t48 k49 (s50 ++ (ByteArray.extract s63 (Int.toNat j51) (Int.toNat (IntKind.i64.wrap (j51 + (1 : Int)))))) (IntKind.i64.wrap (j51 + (1 : Int))) es52 es53 k0
                  else none
                else none
              else none) (
              frameOrder_l11 n l46 cut47 t48 k49 s50 (IntKind.i64.wrap (j51 + (1 : Int))) es52 es53 k0)
          else none) (
          k0 l46 cut47 t48 k49 s50 es52 es53)) (
        k0 l46 cut47 t48 k49 s50 es52 es53)
    else none
def frameOrder_l22 {R : Type} : Nat → Int → Int → List (List PV) → List (List PV) → List (List PV) → (Bool → Option R) → (List (List PV) → Option R) → Option R
  | 0, _, _, _, _, _, _, _ => none
  | n + 1, i64, i65, es66, es67, es68, k0, k1 =>
    cond (decide (i65 < i64)) (
      if 0 ≤ i65 ∧ i65 < (es68.length : Int) then
        if 0 ≤ i65 ∧ i65 < (es67.length : Int) then
          meet (
            Option.bind (es68[(Int.toNat i65)]?) fun e69 =>
            Option.bind (e69[0]?) fun c70 =>
            Option.bind (PV.asS c70) fun s71 =>
            Option.bind (es67[(Int.toNat i65)]?) fun e72 =>
            Option.bind (e72[0]?) fun c73 =>
            Option.bind (PV.asS c73) fun s74 =>
            cond (!(ByteArray.toList s71 == ByteArray.toList s74)) (
              k0 false) (
              if 0 ≤ i65 ∧ i65 < (es68.length : Int) then
                Option.bind (es68[(Int.toNat i65)]?) fun e75 =>
                Option.bind (e75[1]?) fun c76 =>
                Option.bind (PV.asB c76) fun b77 =>
                cond b77 (
                  k0 false) (
                  frameOrder_l22 n i64 (IntKind.i64.wrap (i65 + (1 : Int))) es66 es67 es68 k0 k1)
              else none)) (
            Option.bind (es67[(Int.toNat i65)]?) fun e78 =>
            Option.bind (e78[0]?) fun c79 =>
            Option.bind (PV.asS c79) fun s80 =>
            Option.bind (es68[(Int.toNat i65)]?) fun e81 =>
            Option.bind (e81[0]?) fun c82 =>
            Option.bind (PV.asS c82) fun s83 =>
            cond (!(ByteArray.toList s83 == ByteArray.toList s80)) (
              k0 false) (
              if 0 ≤ i65 ∧ i65 < (es68.length : Int) then
                Option.bind (es68[(Int.toNat i65)]?) fun e84 =>
                Option.bind (e84[1]?) fun c85 =>
                Option.bind (PV.asB c85) fun b86 =>
                cond b86 (
                  k0 false) (
                  frameOrder_l22 n i64 (IntKind.i64.wrap (i65 + (1 : Int))) es66 es67 es68 k0 k1)
              else none))
        else none
      else none) (
      k1 es66)
def frameOrder_l7 {R : Type} : Nat → List (List PV) → Int → ByteArray → Int → List (List PV) → List (List PV) → (Int → ByteArray → List (List PV) → List (List PV) → Option R) → Option R
  | 0, _, _, _, _, _, _, _ => none
  | n + 1, l33, cut34, t35, k36, es37, es38, k0 =>
    cond (decide (k36 < (l33.length : Int))) (
      cond (decide (k36 < (10 : Int))) (
        frameOrder_l11 n l33 cut34 t35 k36 (ByteArray.mk #[]) 0 es37 es38
          (fun (l39 : List (List PV)) (cut40 : Int) (t41 : ByteArray) (k42 : Int) (s43 : ByteArray) (es44 : List (List PV)) (es45 : List (List PV)) =>
            if (s43).size + ((ByteArray.mk #[10])).size ≤ 140737488355328 then
              if (t41).size + ((s43 ++ (ByteArray.mk #[10]))).size ≤ 140737488355328 then
                if (es45.length + ([[(PV.str s43)]] : List (List PV)).length) * 16 ≤ maxBytes then
                  frameOrder_l7 n l39 cut40 (t41 ++ (s43 ++ (ByteArray.mk #[10]))) (IntKind.i64.wrap (k42 + (1 : Int))) es44 (es45 ++ [[(PV.str s43)]]) k0
                else none
              else none
            else none)) (
        k0 cut34 t35 es37 es38)) (
      k0 cut34 t35 es37 es38)
def frameOrder_b {R : Type} (n : Nat) (l1 : List (List PV)) (cut2 : Int) (k : Bool → Option R) : Option R :=
  Option.bind (frNew_d) fun y3 =>
  frameOrder_l7 n l1 cut2 (ByteArray.mk #[]) 0 y3 []
    (fun (cut4 : Int) (t5 : ByteArray) (es6 : List (List PV)) (es7 : List (List PV)) =>
      Option.bind (within_d cut4 (IntKind.i64.wrap (((t5).size : Int) + (1 : Int)))) fun y8 =>
      if (0 : Int) ≤ (0 : Int) ∧ (0 : Int) ≤ y8 ∧ y8 ≤ ((t5).size : Int) then
        if (0 : Int) ≤ y8 ∧ y8 ≤ ((t5).size : Int) ∧ ((t5).size : Int) ≤ ((t5).size : Int) then
          meet (
            if ((ByteArray.extract t5 0 (Int.toNat y8))).size ≤ maxBytes then
              meet (
                Option.bind (sFeed es6 (bytesOf (ByteArray.extract t5 0 (Int.toNat y8)))) fun y9 =>
                if ((ByteArray.extract t5 (Int.toNat y8) (Int.toNat ((t5).size : Int)))).size ≤ maxBytes then
                  Option.bind (sFeed y9.2 (bytesOf (ByteArray.extract t5 (Int.toNat y8) (Int.toNat ((t5).size : Int))))) fun y10 =>
                  if (y9.1.length + y10.1.length) * 24 ≤ maxBytes then
                    cond (((y9.1 ++ y10.1).length : Int) != (es7.length : Int)) (
                      k false) (
                      frameOrder_l22 n ((y9.1 ++ y10.1).length : Int) 0 y10.2 es7 (y9.1 ++ y10.1)
                        (fun (b11 : Bool) =>
                          k b11)
                        (fun (es12 : List (List PV)) =>
                          Option.bind (sFeed es12 []) fun y13 =>
                          cond ((y13.1.length : Int) == (0 : Int)) (
                            Option.bind (sFeed y13.2 [[(PV.int .u8 120)]]) fun y14 =>
                            cond ((y14.1.length : Int) == (0 : Int)) (
                              Option.bind (frLeft_d y14.2) fun y15 =>
                              cond (y15 == (1 : Int)) (
                                Option.bind (wakes19_d) fun y16 =>
                                k y16) (
                                k false)) (
                              k false)) (
                            k false)))
                  else none
                else none) (
                if ((ByteArray.extract t5 (Int.toNat y8) (Int.toNat ((t5).size : Int)))).size ≤ maxBytes then
                  Option.bind (sFeed es6 (bytesOf (ByteArray.extract t5 0 (Int.toNat y8)))) fun y17 =>
                  Option.bind (sFeed y17.2 (bytesOf (ByteArray.extract t5 (Int.toNat y8) (Int.toNat ((t5).size : Int))))) fun y18 =>
                  if (y17.1.length + y18.1.length) * 24 ≤ maxBytes then
                    cond (((y17.1 ++ y18.1).length : Int) != (es7.length : Int)) (
                      k false) (
                      frameOrder_l22 n ((y17.1 ++ y18.1).length : Int) 0 y18.2 es7 (y17.1 ++ y18.1)
                        (fun (b19 : Bool) =>
                          k b19)
                        (fun (es20 : List (List PV)) =>
                          Option.bind (sFeed es20 []) fun y21 =>
                          cond ((y21.1.length : Int) == (0 : Int)) (
                            Option.bind (sFeed y21.2 [[(PV.int .u8 120)]]) fun y22 =>
                            cond ((y22.1.length : Int) == (0 : Int)) (
                              Option.bind (frLeft_d y22.2) fun y23 =>
                              cond (y23 == (1 : Int)) (
                                Option.bind (wakes19_d) fun y24 =>
                                k y24) (
                                k false)) (
                              k false)) (
                            k false)))
                  else none
                else none)
            else none) (
            if ((ByteArray.extract t5 (Int.toNat y8) (Int.toNat ((t5).size : Int)))).size ≤ maxBytes then
              if ((ByteArray.extract t5 0 (Int.toNat y8))).size ≤ maxBytes then
                Option.bind (sFeed es6 (bytesOf (ByteArray.extract t5 0 (Int.toNat y8)))) fun y25 =>
                Option.bind (sFeed y25.2 (bytesOf (ByteArray.extract t5 (Int.toNat y8) (Int.toNat ((t5).size : Int))))) fun y26 =>
                if (y25.1.length + y26.1.length) * 24 ≤ maxBytes then
                  cond (((y25.1 ++ y26.1).length : Int) != (es7.length : Int)) (
                    k false) (
                    frameOrder_l22 n ((y25.1 ++ y26.1).length : Int) 0 y26.2 es7 (y25.1 ++ y26.1)
                      (fun (b27 : Bool) =>
                        k b27)
                      (fun (es28 : List (List PV)) =>
                        Option.bind (sFeed es28 []) fun y29 =>
                        cond ((y29.1.length : Int) == (0 : Int)) (
                          Option.bind (sFeed y29.2 [[(PV.int .u8 120)]]) fun y30 =>
                          cond ((y30.1.length : Int) == (0 : Int)) (
                            Option.bind (frLeft_d y30.2) fun y31 =>
                            cond (y31 == (1 : Int)) (
                              Option.bind (wakes19_d) fun y32 =>
                              k y32) (
                              k false)) (
                            k false)) (
                          k false)))
                else none
              else none
            else none)
        else none
      else none)
def frameOrder_E (y : Bool) : PV × List PV := ((PV.bool y), [])
def frameOrder_D : List PV → Option (Bool)
  | [(PV.fs l1), (PV.int .i64 cut2)] => sFrameOrder l1 cut2
  | _ => none
def frameOrder_Γ : List (Nat × Ctr) := [(17, frNew_C), (14, within_C), (18, frFeed_C), (19, frLeft_C), (20, wakes19_C)]
def frameOrder_C : Ctr := ⟨[none, none], Bool, frameOrder_D, frameOrder_E, true, .d⟩
def frameOrder_cfg : List (Nat × LC) := [(7, ⟨[0, 1, 5, 6, 7, 8], [7], [], []⟩),
  (11, ⟨[0, 1, 5, 6, 7, 8, 9, 10], [], [], []⟩),
  (1007000, ⟨[1, 5, 6, 7], [], [], []⟩),
  (1011002, ⟨[0, 1, 5, 6, 7, 8, 9], [], [], []⟩),
  (22, ⟨[5, 7, 11, 88, 89], [], [], []⟩),
  (2000022, ⟨[4], [], [], []⟩),
  (1022004, ⟨[5], [], [], []⟩)]
def frameOrder_pat : Nat → Option SP
  | 11 => some ⟨sparse .undef [(0, (.val .fs)), (1, (.val (.int .i64))), (5, (.ref 0 0)), (6, (.val .str)), (7, (.ow 2)), (8, (.val (.int .i64))), (9, (.val .str)), (10, (.val (.int .i64)))] 0 130, [(.box [(.ow 1)]), (.row 1), (.row 1)], []⟩
  | 22 => some ⟨sparse .undef [(5, (.ref 0 0)), (7, (.ow 2)), (11, (.ow 3)), (88, (.val (.int .i64))), (89, (.val (.int .i64)))] 0 130, [(.box [(.ow 1)]), (.row 1), (.row 1), (.row 2)], []⟩
  | 7 => some ⟨sparse .undef [(0, (.val .fs)), (1, (.val (.int .i64))), (5, (.ref 0 0)), (6, (.val .str)), (7, (.ow 2)), (8, (.val (.int .i64)))] 0 130, [(.box [(.ow 1)]), (.row 1), (.row 1)], []⟩
  | _ => none
def frameOrder_L11 (n : Nat) (ls : List Leaf) (R : Type) (k : Ex → St → Option R) : Option R :=
  match ls with
  | [.rows l46, .int cut47, .str t48, .int k49, .str s50, .int j51, .rows es52, .rows es53] => frameOrder_l11 n l46 cut47 t48 k49 s50 j51 es52 es53 (fun y1087 y1088 y1089 y1090 y1091 y1092 y1093 => k (.exit 2) ⟨sparse .undef [(0, (TV.val (PV.fs y1087))), (1, (TV.val (PV.int .i64 y1088))), (5, (TV.ref 0 0)), (6, (TV.val (PV.str y1089))), (7, (TV.ow 2)), (8, (TV.val (PV.int .i64 y1090))), (9, (TV.val (PV.str y1091)))] 0 130, [(Ob.box [(TV.ow 1)]), (Ob.row y1092 1), (Ob.row y1093 1)], []⟩)
  | _ => none
def frameOrder_L22 (n : Nat) (ls : List Leaf) (R : Type) (k : Ex → St → Option R) : Option R :=
  match ls with
  | [.int i64, .int i65, .rows es66, .rows es67, .rows es68] => frameOrder_l22 n i64 i65 es66 es67 es68 (fun y2094 => k .ret ⟨sparse .undef [(4, (TV.val (PV.bool y2094)))] 0 130, [], []⟩)
      (fun y2095 => k (.exit 4) ⟨sparse .undef [(5, (TV.ref 0 0))] 0 130, [(Ob.box [(TV.ow 1)]), (Ob.row y2095 1)], []⟩)
  | _ => none
def frameOrder_L7 (n : Nat) (ls : List Leaf) (R : Type) (k : Ex → St → Option R) : Option R :=
  match ls with
  | [.rows l33, .int cut34, .str t35, .int k36, .rows es37, .rows es38] => frameOrder_l7 n l33 cut34 t35 k36 es37 es38 (fun y3096 y3097 y3098 y3099 => k (.exit 0) ⟨sparse .undef [(1, (TV.val (PV.int .i64 y3096))), (5, (TV.ref 0 0)), (6, (TV.val (PV.str y3097))), (7, (TV.ow 2))] 0 130, [(Ob.box [(TV.ow 1)]), (Ob.row y3098 1), (Ob.row y3099 1)], []⟩)
  | _ => none
def frameOrder_L (n key : Nat) (ls : List Leaf) (R : Type) (k : Ex → St → Option R) : Option R :=
  match key with
  | 11 => frameOrder_L11 n ls R k
  | 22 => frameOrder_L22 n ls R k
  | 7 => frameOrder_L7 n ls R k
  | _ => none
def frameOrder_Λ : Nat → Loops := patL (normBy frameOrder_cfg) frameOrder_pat frameOrder_L
theorem frameOrder_step7 (n : Nat) (l33 : List (List PV)) (cut34 : Int) (t35 : ByteArray) (k36 : Int) (es37 : List (List PV)) (es38 : List (List PV))  (R : Type) (k : Ex → St → Option R) :
    roundK T G0 (ctrOf frameOrder_Γ) (normBy frameOrder_cfg) (frameOrder_Λ n) (codeAt [1, 1, 1, 1, 1, 0, 1, 0, 0] (bodyOf Try.f4)) (buildSt ⟨sparse .undef [(0, (.val .fs)), (1, (.val (.int .i64))), (5, (.ref 0 0)), (6, (.val .str)), (7, (.ow 2)), (8, (.val (.int .i64)))] 0 130, [(.box [(.ow 1)]), (.row 1), (.row 1)], []⟩ [.rows l33, .int cut34, .str t35, .int k36, .rows es37, .rows es38]) R k = frameOrder_L7 (n + 1) [.rows l33, .int cut34, .str t35, .int k36, .rows es37, .rows es38] R k := by kernel_rfl
theorem frameOrder_step11 (n : Nat) (l46 : List (List PV)) (cut47 : Int) (t48 : ByteArray) (k49 : Int) (s50 : ByteArray) (j51 : Int) (es52 : List (List PV)) (es53 : List (List PV))  (R : Type) (k : Ex → St → Option R) :
    roundK T G0 (ctrOf frameOrder_Γ) (normBy frameOrder_cfg) (frameOrder_Λ n) (codeAt [1, 1, 1, 1, 1, 0, 1, 0, 0, 1, 0, 0, 1, 0, 1, 0, 0] (bodyOf Try.f4)) (buildSt ⟨sparse .undef [(0, (.val .fs)), (1, (.val (.int .i64))), (5, (.ref 0 0)), (6, (.val .str)), (7, (.ow 2)), (8, (.val (.int .i64))), (9, (.val .str)), (10, (.val (.int .i64)))] 0 130, [(.box [(.ow 1)]), (.row 1), (.row 1)], []⟩ [.rows l46, .int cut47, .str t48, .int k49, .str s50, .int j51, .rows es52, .rows es53]) R k = frameOrder_L11 (n + 1) [.rows l46, .int cut47, .str t48, .int k49, .str s50, .int j51, .rows es52, .rows es53] R k := by kernel_rfl
theorem frameOrder_step22 (n : Nat) (i64 : Int) (i65 : Int) (es66 : List (List PV)) (es67 : List (List PV)) (es68 : List (List PV))  (R : Type) (k : Ex → St → Option R) :
    roundK T G0 (ctrOf frameOrder_Γ) (normBy frameOrder_cfg) (frameOrder_Λ n) (codeAt [1, 1, 1, 1, 1, 1, 1, 1, 1, 0, 1, 0, 0] (bodyOf Try.f4)) (buildSt ⟨sparse .undef [(5, (.ref 0 0)), (7, (.ow 2)), (11, (.ow 3)), (88, (.val (.int .i64))), (89, (.val (.int .i64)))] 0 130, [(.box [(.ow 1)]), (.row 1), (.row 1), (.row 2)], []⟩ [.int i64, .int i65, .rows es66, .rows es67, .rows es68]) R k = frameOrder_L22 (n + 1) [.int i64, .int i65, .rows es66, .rows es67, .rows es68] R k := by kernel_rfl
theorem frameOrder_eq (n : Nat) (l1 : List (List PV)) (cut2 : Int) :
    funK T G0 (ctrOf frameOrder_Γ) (frameOrder_Λ n) .d true [none, none] (funOf Try.f4) [(PV.fs l1), (PV.int .i64 cut2)] = frameOrder_b n  l1 cut2 (fun a0 => some (frameOrder_E a0)) := by kernel_rfl
theorem frameOrder_inv {ps : List PV} {y : Bool} (h : frameOrder_D ps = some y) : ∃ (l1 : List (List PV)) (cut2 : Int), ps = [(PV.fs l1), (PV.int .i64 cut2)] := by
  unfold frameOrder_D at h
  split at h
  · exact ⟨_, _, rfl⟩
  · cases h
theorem frameOrder_loops : loopsOf (bodyOf Try.f4) = [codeAt [1, 1, 1, 1, 1, 0, 1, 0, 0] (bodyOf Try.f4), codeAt [1, 1, 1, 1, 1, 0, 1, 0, 0, 1, 0, 0, 1, 0, 1, 0, 0] (bodyOf Try.f4), codeAt [1, 1, 1, 1, 1, 1, 1, 1, 1, 0, 1, 0, 0] (bodyOf Try.f4)] := by kernel_rfl
theorem frameOrder_holds (hΓ : HoldsAll Try.prog G0 frameOrder_Γ) (hok : ∀ (l1 : List (List PV)) (cut2 : Int) (y : Bool), sFrameOrder l1 cut2 = some y → ∃ n, ∀ (R : Type) (k : Bool → Option R), frameOrder_b n  l1 cut2 k = k y) : Holds Try.prog G0 4 frameOrder_C := by
  refine fun_pat mixed tOk (ctrOf_ok hΓ) Try.func4 rfl rfl rfl rfl (F := funOf Try.f4) (normBy_ok frameOrder_cfg) (pat := frameOrder_pat) (L := frameOrder_L) (fun c hc ls R k => ?_) (fun c hc p hp m ls R k r h => ?_) (fun ps x h => ?_)
  · rw [show (funOf Try.f4).code = bodyOf Try.f4 from rfl, frameOrder_loops] at hc
    simp only [List.mem_cons, List.not_mem_nil, or_false] at hc
    rcases hc with rfl | rfl | rfl
    · show frameOrder_L7 0 ls R k = none
      unfold frameOrder_L7
      split
      · rfl
      · rfl
    · show frameOrder_L11 0 ls R k = none
      unfold frameOrder_L11
      split
      · rfl
      · rfl
    · show frameOrder_L22 0 ls R k = none
      unfold frameOrder_L22
      split
      · rfl
      · rfl
  · rw [show (funOf Try.f4).code = bodyOf Try.f4 from rfl, frameOrder_loops] at hc
    simp only [List.mem_cons, List.not_mem_nil, or_false] at hc
    rcases hc with rfl | rfl | rfl
    · have hp' : p = ⟨sparse .undef [(0, (.val .fs)), (1, (.val (.int .i64))), (5, (.ref 0 0)), (6, (.val .str)), (7, (.ow 2)), (8, (.val (.int .i64)))] 0 130, [(.box [(.ow 1)]), (.row 1), (.row 1)], []⟩ := (Option.some.inj (hp : some _ = some p)).symm
      subst hp'
      change frameOrder_L7 (m + 1) ls R k = some r at h
      have h' := h
      unfold frameOrder_L7 at h'
      split at h'
      · exact (frameOrder_step7 m _ _ _ _ _ _ R k).trans h
      · cases h'
    · have hp' : p = ⟨sparse .undef [(0, (.val .fs)), (1, (.val (.int .i64))), (5, (.ref 0 0)), (6, (.val .str)), (7, (.ow 2)), (8, (.val (.int .i64))), (9, (.val .str)), (10, (.val (.int .i64)))] 0 130, [(.box [(.ow 1)]), (.row 1), (.row 1)], []⟩ := (Option.some.inj (hp : some _ = some p)).symm
      subst hp'
      change frameOrder_L11 (m + 1) ls R k = some r at h
      have h' := h
      unfold frameOrder_L11 at h'
      split at h'
      · exact (frameOrder_step11 m _ _ _ _ _ _ _ _ R k).trans h
      · cases h'
    · have hp' : p = ⟨sparse .undef [(5, (.ref 0 0)), (7, (.ow 2)), (11, (.ow 3)), (88, (.val (.int .i64))), (89, (.val (.int .i64)))] 0 130, [(.box [(.ow 1)]), (.row 1), (.row 1), (.row 2)], []⟩ := (Option.some.inj (hp : some _ = some p)).symm
      subst hp'
      change frameOrder_L22 (m + 1) ls R k = some r at h
      have h' := h
      unfold frameOrder_L22 at h'
      split at h'
      · exact (frameOrder_step22 m _ _ _ _ _ R k).trans h
      · cases h'
  · obtain ⟨y, hy, hx⟩ := bind_inv h
    cases hx
    obtain ⟨l1, cut2, rfl⟩ := frameOrder_inv hy
    obtain ⟨n, hn⟩ := hok l1 cut2 y hy
    exact ⟨n, (frameOrder_eq n l1 cut2).trans (hn _ _)⟩

/-! ## drayman/draymanlaw19.FrameBytes -/
def frameBytes_l8 {R : Type} : Nat → Int → Int → List (List PV) → List (List PV) → List (List PV) → List (List PV) → List (List PV) → (List (List PV) → List (List PV) → List (List PV) → List (List PV) → Option R) → Option R
  | 0, _, _, _, _, _, _, _, _ => none
  | n + 1, i16, i17, es18, es19, es20, es21, es22, k0 =>
    cond (decide (i17 < i16)) (
      if (0 : Int) ≤ i17 ∧ i17 ≤ (IntKind.i64.wrap (i17 + (1 : Int))) ∧ (IntKind.i64.wrap (i17 + (1 : Int))) = (IntKind.i64.wrap (i17 + (1 : Int))) ∧ (IntKind.i64.wrap (i17 + (1 : Int))) ≤ (es18.length : Int) ∧ 1 = 1 then
        Option.bind (sFeed es20 ((es18.drop (Int.toNat i17)).take (Int.toNat ((IntKind.i64.wrap (i17 + (1 : Int))) - i17)))) fun y23 =>
        if (es22.length + y23.1.length) * 24 ≤ maxBytes then
          frameBytes_l8 n i16 (IntKind.i64.wrap (i17 + (1 : Int))) es18 es19 y23.2 es21 (es22 ++ y23.1) k0
        else none
      else none) (
      k0 es19 es20 es21 es22)
def frameBytes_b {R : Type} (n : Nat) (l1 : List (List PV)) (raw2 : List (List PV)) (k : Bool → Option R) : Option R :=
  Option.bind (sBytesL l1 raw2) fun y3 =>
  Option.bind (cutB_d y3 600) fun y4 =>
  Option.bind (frNew_d) fun y5 =>
  Option.bind (frNew_d) fun y6 =>
  Option.bind (sFeed y5 y4) fun y7 =>
  frameBytes_l8 n (y4.length : Int) 0 y4 y7.2 y6 y7.1 []
    (fun (es8 : List (List PV)) (es9 : List (List PV)) (es10 : List (List PV)) (es11 : List (List PV)) =>
      Option.bind (sSameL es10 es11) fun y12 =>
      cond y12 (
        Option.bind (frLeft_d es8) fun y13 =>
        Option.bind (frLeft_d es9) fun y14 =>
        cond (y13 == y14) (
          Option.bind (wakes19_d) fun y15 =>
          k y15) (
          k false)) (
        k false))
def frameBytes_E (y : Bool) : PV × List PV := ((PV.bool y), [])
def frameBytes_D : List PV → Option (Bool)
  | [(PV.fs l1), (PV.fs raw2)] => sFrameBytes l1 raw2
  | _ => none
def frameBytes_Γ : List (Nat × Ctr) := [(22, bytesL_C), (21, cutB_C), (17, frNew_C), (18, frFeed_C), (23, sameL_C), (19, frLeft_C), (20, wakes19_C)]
def frameBytes_C : Ctr := ⟨[none, none], Bool, frameBytes_D, frameBytes_E, true, .d⟩
def frameBytes_cfg : List (Nat × LC) := [(8, ⟨[5, 6, 7, 8, 9, 27, 28], [9], [], []⟩),
  (1008000, ⟨[6, 7, 8, 9], [], [], []⟩)]
def frameBytes_pat : Nat → Option SP
  | 8 => some ⟨sparse .undef [(5, (.ow 0)), (6, (.ref 1 0)), (7, (.ref 3 0)), (8, (.ow 5)), (9, (.ow 6)), (27, (.val (.int .i64))), (28, (.val (.int .i64)))] 0 54, [(.row 1), (.box [(.ow 2)]), (.row 1), (.box [(.ow 4)]), (.row 1), (.row 2), (.row 2)], []⟩
  | _ => none
def frameBytes_L8 (n : Nat) (ls : List Leaf) (R : Type) (k : Ex → St → Option R) : Option R :=
  match ls with
  | [.int i16, .int i17, .rows es18, .rows es19, .rows es20, .rows es21, .rows es22] => frameBytes_l8 n i16 i17 es18 es19 es20 es21 es22 (fun y1024 y1025 y1026 y1027 => k (.exit 0) ⟨sparse .undef [(6, (TV.ref 0 0)), (7, (TV.ref 2 0)), (8, (TV.ow 4)), (9, (TV.ow 5))] 0 54, [(Ob.box [(TV.ow 1)]), (Ob.row y1024 1), (Ob.box [(TV.ow 3)]), (Ob.row y1025 1), (Ob.row y1026 2), (Ob.row y1027 2)], []⟩)
  | _ => none
def frameBytes_L (n key : Nat) (ls : List Leaf) (R : Type) (k : Ex → St → Option R) : Option R :=
  match key with
  | 8 => frameBytes_L8 n ls R k
  | _ => none
def frameBytes_Λ : Nat → Loops := patL (normBy frameBytes_cfg) frameBytes_pat frameBytes_L
theorem frameBytes_step8 (n : Nat) (i16 : Int) (i17 : Int) (es18 : List (List PV)) (es19 : List (List PV)) (es20 : List (List PV)) (es21 : List (List PV)) (es22 : List (List PV))  (R : Type) (k : Ex → St → Option R) :
    roundK T G0 (ctrOf frameBytes_Γ) (normBy frameBytes_cfg) (frameBytes_Λ n) (codeAt [1, 1, 1, 1, 1, 1, 0, 1, 0, 0] (bodyOf Try.f5)) (buildSt ⟨sparse .undef [(5, (.ow 0)), (6, (.ref 1 0)), (7, (.ref 3 0)), (8, (.ow 5)), (9, (.ow 6)), (27, (.val (.int .i64))), (28, (.val (.int .i64)))] 0 54, [(.row 1), (.box [(.ow 2)]), (.row 1), (.box [(.ow 4)]), (.row 1), (.row 2), (.row 2)], []⟩ [.int i16, .int i17, .rows es18, .rows es19, .rows es20, .rows es21, .rows es22]) R k = frameBytes_L8 (n + 1) [.int i16, .int i17, .rows es18, .rows es19, .rows es20, .rows es21, .rows es22] R k := by kernel_rfl
theorem frameBytes_eq (n : Nat) (l1 : List (List PV)) (raw2 : List (List PV)) :
    funK T G0 (ctrOf frameBytes_Γ) (frameBytes_Λ n) .d true [none, none] (funOf Try.f5) [(PV.fs l1), (PV.fs raw2)] = frameBytes_b n  l1 raw2 (fun a0 => some (frameBytes_E a0)) := by kernel_rfl
theorem frameBytes_inv {ps : List PV} {y : Bool} (h : frameBytes_D ps = some y) : ∃ (l1 : List (List PV)) (raw2 : List (List PV)), ps = [(PV.fs l1), (PV.fs raw2)] := by
  unfold frameBytes_D at h
  split at h
  · exact ⟨_, _, rfl⟩
  · cases h
theorem frameBytes_loops : loopsOf (bodyOf Try.f5) = [codeAt [1, 1, 1, 1, 1, 1, 0, 1, 0, 0] (bodyOf Try.f5)] := by kernel_rfl
theorem frameBytes_holds (hΓ : HoldsAll Try.prog G0 frameBytes_Γ) (hok : ∀ (l1 : List (List PV)) (raw2 : List (List PV)) (y : Bool), sFrameBytes l1 raw2 = some y → ∃ n, ∀ (R : Type) (k : Bool → Option R), frameBytes_b n  l1 raw2 k = k y) : Holds Try.prog G0 5 frameBytes_C := by
  refine fun_pat mixed tOk (ctrOf_ok hΓ) Try.func5 rfl rfl rfl rfl (F := funOf Try.f5) (normBy_ok frameBytes_cfg) (pat := frameBytes_pat) (L := frameBytes_L) (fun c hc ls R k => ?_) (fun c hc p hp m ls R k r h => ?_) (fun ps x h => ?_)
  · rw [show (funOf Try.f5).code = bodyOf Try.f5 from rfl, frameBytes_loops] at hc
    simp only [List.mem_cons, List.not_mem_nil, or_false] at hc
    rcases hc with rfl
    · show frameBytes_L8 0 ls R k = none
      unfold frameBytes_L8
      split
      · rfl
      · rfl
  · rw [show (funOf Try.f5).code = bodyOf Try.f5 from rfl, frameBytes_loops] at hc
    simp only [List.mem_cons, List.not_mem_nil, or_false] at hc
    rcases hc with rfl
    · have hp' : p = ⟨sparse .undef [(5, (.ow 0)), (6, (.ref 1 0)), (7, (.ref 3 0)), (8, (.ow 5)), (9, (.ow 6)), (27, (.val (.int .i64))), (28, (.val (.int .i64)))] 0 54, [(.row 1), (.box [(.ow 2)]), (.row 1), (.box [(.ow 4)]), (.row 1), (.row 2), (.row 2)], []⟩ := (Option.some.inj (hp : some _ = some p)).symm
      subst hp'
      change frameBytes_L8 (m + 1) ls R k = some r at h
      have h' := h
      unfold frameBytes_L8 at h'
      split at h'
      · exact (frameBytes_step8 m _ _ _ _ _ _ _ R k).trans h
      · cases h'
  · obtain ⟨y, hy, hx⟩ := bind_inv h
    cases hx
    obtain ⟨l1, raw2, rfl⟩ := frameBytes_inv hy
    obtain ⟨n, hn⟩ := hok l1 raw2 y hy
    exact ⟨n, (frameBytes_eq n l1 raw2).trans (hn _ _)⟩

/-! ## drayman/draymanlaw19.FrameTells -/
def frameTells_l8 {R : Type} : Nat → List (List PV) → Int → Int → List (List PV) → List (List PV) → List (List PV) → (Bool → Option R) → (Int → List (List PV) → List (List PV) → List (List PV) → Option R) → Option R
  | 0, _, _, _, _, _, _, _, _ => none
  | n + 1, cuts16, from17, k18, es19, es20, es21, k0, k1 =>
    cond (decide (k18 < (cuts16.length : Int))) (
      cond (decide (from17 < (es19.length : Int))) (
        Option.bind (idx cuts16 k18) fun e22 =>
        if e22.length = 1 then
          Option.bind (e22[0]?) fun c23 =>
          Option.bind (PV.asI .i64 c23) fun n24 =>
          Option.bind (within_d n24 (IntKind.i64.wrap ((IntKind.i64.wrap ((es19.length : Int) - from17)) + (1 : Int)))) fun y25 =>
          if (0 : Int) ≤ from17 ∧ from17 ≤ (IntKind.i64.wrap (from17 + y25)) ∧ (IntKind.i64.wrap (from17 + y25)) = (IntKind.i64.wrap (from17 + y25)) ∧ (IntKind.i64.wrap (from17 + y25)) ≤ (es19.length : Int) ∧ 1 = 1 then
            Option.bind (sFeed es20 ((es19.drop (Int.toNat from17)).take (Int.toNat ((IntKind.i64.wrap (from17 + y25)) - from17)))) fun y26 =>
            if (es21.length + y26.1.length) * 24 ≤ maxBytes then
              if (0 : Int) ≤ (0 : Int) ∧ (0 : Int) ≤ (IntKind.i64.wrap (from17 + y25)) ∧ (IntKind.i64.wrap (from17 + y25)) = (IntKind.i64.wrap (from17 + y25)) ∧ (IntKind.i64.wrap (from17 + y25)) ≤ (es19.length : Int) ∧ 1 = 1 then
                Option.bind (sLines ((es19.drop 0).take (Int.toNat ((IntKind.i64.wrap (from17 + y25)) - (0 : Int))))) fun y27 =>
                Option.bind (sSameL (es21 ++ y26.1) y27.1) fun y28 =>
                cond (!y28) (
                  k0 false) (
                  Option.bind (frLeft_d y26.2) fun y29 =>
                  cond (y29 != y27.2) (
                    k0 false) (
                    frameTells_l8 n cuts16 (IntKind.i64.wrap (from17 + y25)) (IntKind.i64.wrap (k18 + (1 : Int))) es19 y26.2 (es21 ++ y26.1) k0 k1))
              else none
            else none
          else none
        else none) (
        k1 from17 es19 es20 es21)) (
      k1 from17 es19 es20 es21)
def frameTells_b {R : Type} (n : Nat) (l1 : List (List PV)) (raw2 : List (List PV)) (cuts3 : List (List PV)) (k : Bool → Option R) : Option R :=
  Option.bind (sBytesL l1 raw2) fun y4 =>
  Option.bind (frNew_d) fun y5 =>
  frameTells_l8 n cuts3 0 0 y4 y5 []
    (fun (b6 : Bool) =>
      k b6)
    (fun (from7 : Int) (es8 : List (List PV)) (es9 : List (List PV)) (es10 : List (List PV)) =>
      if (0 : Int) ≤ from7 ∧ from7 ≤ (es8.length : Int) ∧ (es8.length : Int) = (es8.length : Int) ∧ (es8.length : Int) ≤ (es8.length : Int) ∧ 1 = 1 then
        Option.bind (sFeed es9 ((es8.drop (Int.toNat from7)).take (Int.toNat ((es8.length : Int) - from7)))) fun y11 =>
        if (es10.length + y11.1.length) * 24 ≤ maxBytes then
          Option.bind (sLines es8) fun y12 =>
          Option.bind (sSameL (es10 ++ y11.1) y12.1) fun y13 =>
          cond y13 (
            Option.bind (frLeft_d y11.2) fun y14 =>
            cond (y14 == y12.2) (
              Option.bind (wakes19_d) fun y15 =>
              k y15) (
              k false)) (
            k false)
        else none
      else none)
def frameTells_E (y : Bool) : PV × List PV := ((PV.bool y), [])
def frameTells_D : List PV → Option (Bool)
  | [(PV.fs l1), (PV.fs raw2), (PV.fs cuts3)] => sFrameTells l1 raw2 cuts3
  | _ => none
def frameTells_Γ : List (Nat × Ctr) := [(22, bytesL_C), (17, frNew_C), (18, frFeed_C), (24, linesOf_C), (23, sameL_C), (19, frLeft_C), (20, wakes19_C), (14, within_C)]
def frameTells_C : Ctr := ⟨[none, none, none], Bool, frameTells_D, frameTells_E, true, .d⟩
def frameTells_cfg : List (Nat × LC) := [(8, ⟨[2, 7, 8, 9, 10, 11], [9], [], []⟩),
  (2000008, ⟨[6], [], [], []⟩),
  (1008000, ⟨[7, 8, 9, 10], [], [], []⟩)]
def frameTells_pat : Nat → Option SP
  | 8 => some ⟨sparse .undef [(2, (.val .fs)), (7, (.ow 0)), (8, (.ref 1 0)), (9, (.ow 3)), (10, (.val (.int .i64))), (11, (.val (.int .i64)))] 0 97, [(.row 1), (.box [(.ow 2)]), (.row 1), (.row 2)], []⟩
  | _ => none
def frameTells_L8 (n : Nat) (ls : List Leaf) (R : Type) (k : Ex → St → Option R) : Option R :=
  match ls with
  | [.rows cuts16, .int from17, .int k18, .rows es19, .rows es20, .rows es21] => frameTells_l8 n cuts16 from17 k18 es19 es20 es21 (fun y1030 => k .ret ⟨sparse .undef [(6, (TV.val (PV.bool y1030)))] 0 97, [], []⟩)
      (fun y1031 y1032 y1033 y1034 => k (.exit 0) ⟨sparse .undef [(7, (TV.ow 0)), (8, (TV.ref 1 0)), (9, (TV.ow 3)), (10, (TV.val (PV.int .i64 y1031)))] 0 97, [(Ob.row y1032 1), (Ob.box [(TV.ow 2)]), (Ob.row y1033 1), (Ob.row y1034 2)], []⟩)
  | _ => none
def frameTells_L (n key : Nat) (ls : List Leaf) (R : Type) (k : Ex → St → Option R) : Option R :=
  match key with
  | 8 => frameTells_L8 n ls R k
  | _ => none
def frameTells_Λ : Nat → Loops := patL (normBy frameTells_cfg) frameTells_pat frameTells_L
theorem frameTells_step8 (n : Nat) (cuts16 : List (List PV)) (from17 : Int) (k18 : Int) (es19 : List (List PV)) (es20 : List (List PV)) (es21 : List (List PV))  (R : Type) (k : Ex → St → Option R) :
    roundK T G0 (ctrOf frameTells_Γ) (normBy frameTells_cfg) (frameTells_Λ n) (codeAt [1, 1, 1, 1, 1, 1, 0, 1, 0, 0] (bodyOf Try.f6)) (buildSt ⟨sparse .undef [(2, (.val .fs)), (7, (.ow 0)), (8, (.ref 1 0)), (9, (.ow 3)), (10, (.val (.int .i64))), (11, (.val (.int .i64)))] 0 97, [(.row 1), (.box [(.ow 2)]), (.row 1), (.row 2)], []⟩ [.rows cuts16, .int from17, .int k18, .rows es19, .rows es20, .rows es21]) R k = frameTells_L8 (n + 1) [.rows cuts16, .int from17, .int k18, .rows es19, .rows es20, .rows es21] R k := by kernel_rfl
theorem frameTells_eq (n : Nat) (l1 : List (List PV)) (raw2 : List (List PV)) (cuts3 : List (List PV)) :
    funK T G0 (ctrOf frameTells_Γ) (frameTells_Λ n) .d true [none, none, none] (funOf Try.f6) [(PV.fs l1), (PV.fs raw2), (PV.fs cuts3)] = frameTells_b n  l1 raw2 cuts3 (fun a0 => some (frameTells_E a0)) := by kernel_rfl
theorem frameTells_inv {ps : List PV} {y : Bool} (h : frameTells_D ps = some y) : ∃ (l1 : List (List PV)) (raw2 : List (List PV)) (cuts3 : List (List PV)), ps = [(PV.fs l1), (PV.fs raw2), (PV.fs cuts3)] := by
  unfold frameTells_D at h
  split at h
  · exact ⟨_, _, _, rfl⟩
  · cases h
theorem frameTells_loops : loopsOf (bodyOf Try.f6) = [codeAt [1, 1, 1, 1, 1, 1, 0, 1, 0, 0] (bodyOf Try.f6)] := by kernel_rfl
theorem frameTells_holds (hΓ : HoldsAll Try.prog G0 frameTells_Γ) (hok : ∀ (l1 : List (List PV)) (raw2 : List (List PV)) (cuts3 : List (List PV)) (y : Bool), sFrameTells l1 raw2 cuts3 = some y → ∃ n, ∀ (R : Type) (k : Bool → Option R), frameTells_b n  l1 raw2 cuts3 k = k y) : Holds Try.prog G0 6 frameTells_C := by
  refine fun_pat mixed tOk (ctrOf_ok hΓ) Try.func6 rfl rfl rfl rfl (F := funOf Try.f6) (normBy_ok frameTells_cfg) (pat := frameTells_pat) (L := frameTells_L) (fun c hc ls R k => ?_) (fun c hc p hp m ls R k r h => ?_) (fun ps x h => ?_)
  · rw [show (funOf Try.f6).code = bodyOf Try.f6 from rfl, frameTells_loops] at hc
    simp only [List.mem_cons, List.not_mem_nil, or_false] at hc
    rcases hc with rfl
    · show frameTells_L8 0 ls R k = none
      unfold frameTells_L8
      split
      · rfl
      · rfl
  · rw [show (funOf Try.f6).code = bodyOf Try.f6 from rfl, frameTells_loops] at hc
    simp only [List.mem_cons, List.not_mem_nil, or_false] at hc
    rcases hc with rfl
    · have hp' : p = ⟨sparse .undef [(2, (.val .fs)), (7, (.ow 0)), (8, (.ref 1 0)), (9, (.ow 3)), (10, (.val (.int .i64))), (11, (.val (.int .i64)))] 0 97, [(.row 1), (.box [(.ow 2)]), (.row 1), (.row 2)], []⟩ := (Option.some.inj (hp : some _ = some p)).symm
      subst hp'
      change frameTells_L8 (m + 1) ls R k = some r at h
      have h' := h
      unfold frameTells_L8 at h'
      split at h'
      · exact (frameTells_step8 m _ _ _ _ _ _ R k).trans h
      · cases h'
  · obtain ⟨y, hy, hx⟩ := bind_inv h
    cases hx
    obtain ⟨l1, raw2, cuts3, rfl⟩ := frameTells_inv hy
    obtain ⟨n, hn⟩ := hok l1 raw2 cuts3 y hy
    exact ⟨n, (frameTells_eq n l1 raw2 cuts3).trans (hn _ _)⟩

/-! ## drayman/draymanlaw19.FrameLong -/
def frameLong_l6 {R : Type} : Nat → Int → Int → Int → Int → Int → List (List PV) → (Int → Int → List (List PV) → Option R) → Option R
  | 0, _, _, _, _, _, _, _ => none
  | n + 1, n40, c41, cut42, i43, i44, es45, k0 =>
    cond (decide (i44 < i43)) (
      if 0 ≤ i44 ∧ i44 < (es45.length : Int) then
        Option.bind (es45[(Int.toNat i44)]?) fun e46 =>
        Option.bind (e46[0]?) fun c47 =>
        frameLong_l6 n n40 c41 cut42 i43 (IntKind.i64.wrap (i44 + (1 : Int))) (List.set es45 (Int.toNat i44) (List.set e46 0 (PV.int .u8 c41))) k0
      else none) (
      k0 n40 cut42 es45)
def frameLong_b {R : Type} (n : Nat) (n1 : Int) (c2 : Int) (cut3 : Int) (k : Bool → Option R) : Option R :=
  cond (c2 == (10 : Int)) (
    Option.bind (within_d n1 144) fun y4 =>
    if y4 = y4 ∧ 0 ≤ y4 ∧ y4 * 1 ≤ maxBytes ∧ 1 = 1 then
      frameLong_l6 n y4 120 cut3 ((List.replicate (Int.toNat y4) [(PV.int .u8 0)]).length : Int) 0 (List.replicate (Int.toNat y4) [(PV.int .u8 0)])
        (fun (n5 : Int) (cut6 : Int) (es7 : List (List PV)) =>
          Option.bind (frNew_d) fun y8 =>
          Option.bind (within_d cut6 (IntKind.i64.wrap (n5 + (1 : Int)))) fun y9 =>
          if (0 : Int) ≤ (0 : Int) ∧ (0 : Int) ≤ y9 ∧ y9 = y9 ∧ y9 ≤ (es7.length : Int) ∧ 1 = 1 then
            Option.bind (sFeed y8 ((es7.drop 0).take (Int.toNat (y9 - (0 : Int))))) fun y10 =>
            cond ((y10.1.length : Int) != (0 : Int)) (
              k false) (
              if (0 : Int) ≤ y9 ∧ y9 ≤ (es7.length : Int) ∧ (es7.length : Int) = (es7.length : Int) ∧ (es7.length : Int) ≤ (es7.length : Int) ∧ 1 = 1 then
                Option.bind (sFeed y10.2 ((es7.drop (Int.toNat y9)).take (Int.toNat ((es7.length : Int) - y9)))) fun y11 =>
                cond ((y11.1.length : Int) != (0 : Int)) (
                  k false) (
                  Option.bind (frLeft_d y11.2) fun y12 =>
                  cond (y12 != (if (49 : Int) < n5 then (49 : Int) else n5)) (
                    k false) (
                    Option.bind (strOf es7) fun l13 =>
                    cond (decide (n5 > (48 : Int))) (
                      Option.bind (sFeed y11.2 [[(PV.int .u8 10)], [(PV.int .u8 110)], [(PV.int .u8 101)], [(PV.int .u8 120)], [(PV.int .u8 116)], [(PV.int .u8 10)], [(PV.int .u8 109)], [(PV.int .u8 111)], [(PV.int .u8 114)], [(PV.int .u8 101)]]) fun y14 =>
                      Option.bind (sSameL y14.1 (List.set ([[(PV.str (ByteArray.mk (List.toArray l13))), (PV.bool false)], [(PV.str (ByteArray.mk #[110, 101, 120, 116])), (PV.bool false)]] : List (List PV)) 0 [(PV.str (ByteArray.mk #[])), (PV.bool true)])) fun y15 =>
                      cond y15 (
                        Option.bind (frLeft_d y14.2) fun y16 =>
                        cond (y16 == (4 : Int)) (
                          Option.bind (wakes19_d) fun y17 =>
                          k y17) (
                          k false)) (
                        k false)) (
                      Option.bind (sFeed y11.2 [[(PV.int .u8 10)], [(PV.int .u8 110)], [(PV.int .u8 101)], [(PV.int .u8 120)], [(PV.int .u8 116)], [(PV.int .u8 10)], [(PV.int .u8 109)], [(PV.int .u8 111)], [(PV.int .u8 114)], [(PV.int .u8 101)]]) fun y18 =>
                      Option.bind (sSameL y18.1 [[(PV.str (ByteArray.mk (List.toArray l13))), (PV.bool false)], [(PV.str (ByteArray.mk #[110, 101, 120, 116])), (PV.bool false)]]) fun y19 =>
                      cond y19 (
                        Option.bind (frLeft_d y18.2) fun y20 =>
                        cond (y20 == (4 : Int)) (
                          Option.bind (wakes19_d) fun y21 =>
                          k y21) (
                          k false)) (
                        k false))))
              else none)
          else none)
    else none) (
    Option.bind (within_d n1 144) fun y22 =>
    if y22 = y22 ∧ 0 ≤ y22 ∧ y22 * 1 ≤ maxBytes ∧ 1 = 1 then
      frameLong_l6 n y22 c2 cut3 ((List.replicate (Int.toNat y22) [(PV.int .u8 0)]).length : Int) 0 (List.replicate (Int.toNat y22) [(PV.int .u8 0)])
        (fun (n23 : Int) (cut24 : Int) (es25 : List (List PV)) =>
          Option.bind (frNew_d) fun y26 =>
          Option.bind (within_d cut24 (IntKind.i64.wrap (n23 + (1 : Int)))) fun y27 =>
          if (0 : Int) ≤ (0 : Int) ∧ (0 : Int) ≤ y27 ∧ y27 = y27 ∧ y27 ≤ (es25.length : Int) ∧ 1 = 1 then
            Option.bind (sFeed y26 ((es25.drop 0).take (Int.toNat (y27 - (0 : Int))))) fun y28 =>
            cond ((y28.1.length : Int) != (0 : Int)) (
              k false) (
              if (0 : Int) ≤ y27 ∧ y27 ≤ (es25.length : Int) ∧ (es25.length : Int) = (es25.length : Int) ∧ (es25.length : Int) ≤ (es25.length : Int) ∧ 1 = 1 then
                Option.bind (sFeed y28.2 ((es25.drop (Int.toNat y27)).take (Int.toNat ((es25.length : Int) - y27)))) fun y29 =>
                cond ((y29.1.length : Int) != (0 : Int)) (
                  k false) (
                  Option.bind (frLeft_d y29.2) fun y30 =>
                  cond (y30 != (if (49 : Int) < n23 then (49 : Int) else n23)) (
                    k false) (
                    Option.bind (strOf es25) fun l31 =>
                    cond (decide (n23 > (48 : Int))) (
                      Option.bind (sFeed y29.2 [[(PV.int .u8 10)], [(PV.int .u8 110)], [(PV.int .u8 101)], [(PV.int .u8 120)], [(PV.int .u8 116)], [(PV.int .u8 10)], [(PV.int .u8 109)], [(PV.int .u8 111)], [(PV.int .u8 114)], [(PV.int .u8 101)]]) fun y32 =>
                      Option.bind (sSameL y32.1 (List.set ([[(PV.str (ByteArray.mk (List.toArray l31))), (PV.bool false)], [(PV.str (ByteArray.mk #[110, 101, 120, 116])), (PV.bool false)]] : List (List PV)) 0 [(PV.str (ByteArray.mk #[])), (PV.bool true)])) fun y33 =>
                      cond y33 (
                        Option.bind (frLeft_d y32.2) fun y34 =>
                        cond (y34 == (4 : Int)) (
                          Option.bind (wakes19_d) fun y35 =>
                          k y35) (
                          k false)) (
                        k false)) (
                      Option.bind (sFeed y29.2 [[(PV.int .u8 10)], [(PV.int .u8 110)], [(PV.int .u8 101)], [(PV.int .u8 120)], [(PV.int .u8 116)], [(PV.int .u8 10)], [(PV.int .u8 109)], [(PV.int .u8 111)], [(PV.int .u8 114)], [(PV.int .u8 101)]]) fun y36 =>
                      Option.bind (sSameL y36.1 [[(PV.str (ByteArray.mk (List.toArray l31))), (PV.bool false)], [(PV.str (ByteArray.mk #[110, 101, 120, 116])), (PV.bool false)]]) fun y37 =>
                      cond y37 (
                        Option.bind (frLeft_d y36.2) fun y38 =>
                        cond (y38 == (4 : Int)) (
                          Option.bind (wakes19_d) fun y39 =>
                          k y39) (
                          k false)) (
                        k false))))
              else none)
          else none)
    else none)
def frameLong_E (y : Bool) : PV × List PV := ((PV.bool y), [])
def frameLong_D : List PV → Option (Bool)
  | [(PV.int .i64 n1), (PV.int .u8 c2), (PV.int .i64 cut3)] => sFrameLong n1 c2 cut3
  | _ => none
def frameLong_Γ : List (Nat × Ctr) := [(14, within_C), (17, frNew_C), (18, frFeed_C), (19, frLeft_C), (23, sameL_C), (20, wakes19_C)]
def frameLong_C : Ctr := ⟨[none, none, none], Bool, frameLong_D, frameLong_E, true, .d⟩
def frameLong_cfg : List (Nat × LC) := [(6, ⟨[0, 1, 2, 7, 18, 19], [], [], []⟩),
  (1006000, ⟨[0, 2, 7], [], [], []⟩)]
def frameLong_pat : Nat → Option SP
  | 6 => some ⟨sparse .undef [(0, (.val (.int .i64))), (1, (.val (.int .u8))), (2, (.val (.int .i64))), (7, (.ow 0)), (18, (.val (.int .i64))), (19, (.val (.int .i64)))] 0 81, [(.row 1)], []⟩
  | _ => none
def frameLong_L6 (n : Nat) (ls : List Leaf) (R : Type) (k : Ex → St → Option R) : Option R :=
  match ls with
  | [.int n40, .int c41, .int cut42, .int i43, .int i44, .rows es45] => frameLong_l6 n n40 c41 cut42 i43 i44 es45 (fun y1048 y1049 y1050 => k (.exit 0) ⟨sparse .undef [(0, (TV.val (PV.int .i64 y1048))), (2, (TV.val (PV.int .i64 y1049))), (7, (TV.ow 0))] 0 81, [(Ob.row y1050 1)], []⟩)
  | _ => none
def frameLong_L (n key : Nat) (ls : List Leaf) (R : Type) (k : Ex → St → Option R) : Option R :=
  match key with
  | 6 => frameLong_L6 n ls R k
  | _ => none
def frameLong_Λ : Nat → Loops := patL (normBy frameLong_cfg) frameLong_pat frameLong_L
theorem frameLong_step6 (n : Nat) (n40 : Int) (c41 : Int) (cut42 : Int) (i43 : Int) (i44 : Int) (es45 : List (List PV))  (R : Type) (k : Ex → St → Option R) :
    roundK T G0 (ctrOf frameLong_Γ) (normBy frameLong_cfg) (frameLong_Λ n) (codeAt [1, 1, 1, 1, 0, 1, 0, 0] (bodyOf Try.f7)) (buildSt ⟨sparse .undef [(0, (.val (.int .i64))), (1, (.val (.int .u8))), (2, (.val (.int .i64))), (7, (.ow 0)), (18, (.val (.int .i64))), (19, (.val (.int .i64)))] 0 81, [(.row 1)], []⟩ [.int n40, .int c41, .int cut42, .int i43, .int i44, .rows es45]) R k = frameLong_L6 (n + 1) [.int n40, .int c41, .int cut42, .int i43, .int i44, .rows es45] R k := by kernel_rfl
theorem frameLong_eq (n : Nat) (n1 : Int) (c2 : Int) (cut3 : Int) :
    funK T G0 (ctrOf frameLong_Γ) (frameLong_Λ n) .d true [none, none, none] (funOf Try.f7) [(PV.int .i64 n1), (PV.int .u8 c2), (PV.int .i64 cut3)] = frameLong_b n  n1 c2 cut3 (fun a0 => some (frameLong_E a0)) := by kernel_rfl
theorem frameLong_inv {ps : List PV} {y : Bool} (h : frameLong_D ps = some y) : ∃ (n1 : Int) (c2 : Int) (cut3 : Int), ps = [(PV.int .i64 n1), (PV.int .u8 c2), (PV.int .i64 cut3)] := by
  unfold frameLong_D at h
  split at h
  · exact ⟨_, _, _, rfl⟩
  · cases h
theorem frameLong_loops : loopsOf (bodyOf Try.f7) = [codeAt [1, 1, 1, 1, 0, 1, 0, 0] (bodyOf Try.f7)] := by kernel_rfl
theorem frameLong_holds (hΓ : HoldsAll Try.prog G0 frameLong_Γ) (hok : ∀ (n1 : Int) (c2 : Int) (cut3 : Int) (y : Bool), sFrameLong n1 c2 cut3 = some y → ∃ n, ∀ (R : Type) (k : Bool → Option R), frameLong_b n  n1 c2 cut3 k = k y) : Holds Try.prog G0 7 frameLong_C := by
  refine fun_pat mixed tOk (ctrOf_ok hΓ) Try.func7 rfl rfl rfl rfl (F := funOf Try.f7) (normBy_ok frameLong_cfg) (pat := frameLong_pat) (L := frameLong_L) (fun c hc ls R k => ?_) (fun c hc p hp m ls R k r h => ?_) (fun ps x h => ?_)
  · rw [show (funOf Try.f7).code = bodyOf Try.f7 from rfl, frameLong_loops] at hc
    simp only [List.mem_cons, List.not_mem_nil, or_false] at hc
    rcases hc with rfl
    · show frameLong_L6 0 ls R k = none
      unfold frameLong_L6
      split
      · rfl
      · rfl
  · rw [show (funOf Try.f7).code = bodyOf Try.f7 from rfl, frameLong_loops] at hc
    simp only [List.mem_cons, List.not_mem_nil, or_false] at hc
    rcases hc with rfl
    · have hp' : p = ⟨sparse .undef [(0, (.val (.int .i64))), (1, (.val (.int .u8))), (2, (.val (.int .i64))), (7, (.ow 0)), (18, (.val (.int .i64))), (19, (.val (.int .i64)))] 0 81, [(.row 1)], []⟩ := (Option.some.inj (hp : some _ = some p)).symm
      subst hp'
      change frameLong_L6 (m + 1) ls R k = some r at h
      have h' := h
      unfold frameLong_L6 at h'
      split at h'
      · exact (frameLong_step6 m _ _ _ _ _ _ R k).trans h
      · cases h'
  · obtain ⟨y, hy, hx⟩ := bind_inv h
    cases hx
    obtain ⟨n1, c2, cut3, rfl⟩ := frameLong_inv hy
    obtain ⟨n, hn⟩ := hok n1 c2 cut3 y hy
    exact ⟨n, (frameLong_eq n n1 c2 cut3).trans (hn _ _)⟩

/-! ## drayman/draymanlaw19.FrameCounts -/
def frameCounts_l8 {R : Type} : Nat → Int → Int → Int → Int → List (List PV) → List (List PV) → List (List PV) → (Bool → Option R) → (Int → Int → List (List PV) → List (List PV) → List (List PV) → Option R) → Option R
  | 0, _, _, _, _, _, _, _, _, _ => none
  | n + 1, ends16, from17, i18, i19, es20, es21, es22, k0, k1 =>
    cond (decide (i19 < i18)) (
      if 0 ≤ i19 ∧ i19 < (es20.length : Int) then
        Option.bind (es20[(Int.toNat i19)]?) fun e23 =>
        Option.bind (e23[0]?) fun c24 =>
        Option.bind (PV.asI .u8 c24) fun n25 =>
        cond (n25 != (10 : Int)) (
          frameCounts_l8 n ends16 from17 i18 (IntKind.i64.wrap (i19 + (1 : Int))) es20 es21 es22 k0 k1) (
          cond (decide (ends16 ≥ (es22.length : Int))) (
            k0 false) (
            if 0 ≤ ends16 ∧ ends16 < (es22.length : Int) then
              Option.bind (es22[(Int.toNat ends16)]?) fun e26 =>
              Option.bind (subAgg e26 0 2) fun p27 =>
              if (PV.isAgg p27 2) = true then
                Option.bind ((PV.cells p27)[1]?) fun c28 =>
                Option.bind (PV.asB c28) fun b29 =>
                cond (b29 != (decide ((IntKind.i64.wrap (i19 - from17)) > (48 : Int)))) (
                  k0 false) (
                  Option.bind ((PV.cells p27)[1]?) fun c30 =>
                  Option.bind (PV.asB c30) fun b31 =>
                  cond (!b31) (
                    Option.bind ((PV.cells p27)[0]?) fun c32 =>
                    Option.bind (PV.asS c32) fun s33 =>
                    cond (((s33).size : Int) != (IntKind.i64.wrap (i19 - from17))) (
                      k0 false) (
                      Option.bind ((PV.cells p27)[1]?) fun c34 =>
                      Option.bind (PV.asB c34) fun b35 =>
                      cond b35 (
                        Option.bind ((PV.cells p27)[0]?) fun c36 =>
                        Option.bind (PV.asS c36) fun s37 =>
                        cond (!(ByteArray.toList s37 == ByteArray.toList (ByteArray.mk #[]))) (
                          k0 false) (
                          frameCounts_l8 n (IntKind.i64.wrap (ends16 + (1 : Int))) (IntKind.i64.wrap (i19 + (1 : Int))) i18 (IntKind.i64.wrap (i19 + (1 : Int))) es20 es21 es22 k0 k1)) (
                        frameCounts_l8 n (IntKind.i64.wrap (ends16 + (1 : Int))) (IntKind.i64.wrap (i19 + (1 : Int))) i18 (IntKind.i64.wrap (i19 + (1 : Int))) es20 es21 es22 k0 k1))) (
                    Option.bind ((PV.cells p27)[1]?) fun c38 =>
                    Option.bind (PV.asB c38) fun b39 =>
                    cond b39 (
                      Option.bind ((PV.cells p27)[0]?) fun c40 =>
                      Option.bind (PV.asS c40) fun s41 =>
                      cond (!(ByteArray.toList s41 == ByteArray.toList (ByteArray.mk #[]))) (
                        k0 false) (
                        frameCounts_l8 n (IntKind.i64.wrap (ends16 + (1 : Int))) (IntKind.i64.wrap (i19 + (1 : Int))) i18 (IntKind.i64.wrap (i19 + (1 : Int))) es20 es21 es22 k0 k1)) (
                      frameCounts_l8 n (IntKind.i64.wrap (ends16 + (1 : Int))) (IntKind.i64.wrap (i19 + (1 : Int))) i18 (IntKind.i64.wrap (i19 + (1 : Int))) es20 es21 es22 k0 k1)))
              else none
            else none))
      else none) (
      k1 ends16 from17 es20 es21 es22)
def frameCounts_b {R : Type} (n : Nat) (l1 : List (List PV)) (raw2 : List (List PV)) (k : Bool → Option R) : Option R :=
  Option.bind (sBytesL l1 raw2) fun y3 =>
  Option.bind (cutB_d y3 3000) fun y4 =>
  Option.bind (frNew_d) fun y5 =>
  Option.bind (sFeed y5 y4) fun y6 =>
  frameCounts_l8 n 0 0 (y4.length : Int) 0 y4 y6.2 y6.1
    (fun (b7 : Bool) =>
      k b7)
    (fun (ends8 : Int) (from9 : Int) (es10 : List (List PV)) (es11 : List (List PV)) (es12 : List (List PV)) =>
      cond ((es12.length : Int) == ends8) (
        Option.bind (frLeft_d es11) fun y13 =>
        cond ((decide (y13 > (0 : Int))) == (decide (from9 < (es10.length : Int)))) (
          Option.bind (frLeft_d es11) fun y14 =>
          cond (decide (y14 ≤ (49 : Int))) (
            Option.bind (wakes19_d) fun y15 =>
            k y15) (
            k false)) (
          k false)) (
        k false))
def frameCounts_E (y : Bool) : PV × List PV := ((PV.bool y), [])
def frameCounts_D : List PV → Option (Bool)
  | [(PV.fs l1), (PV.fs raw2)] => sFrameCounts l1 raw2
  | _ => none
def frameCounts_Γ : List (Nat × Ctr) := [(22, bytesL_C), (21, cutB_C), (17, frNew_C), (18, frFeed_C), (19, frLeft_C), (20, wakes19_C)]
def frameCounts_C : Ctr := ⟨[none, none], Bool, frameCounts_D, frameCounts_E, true, .d⟩
def frameCounts_cfg : List (Nat × LC) := [(8, ⟨[5, 6, 7, 8, 9, 23, 24, 25], [], [], []⟩),
  (2000008, ⟨[4], [], [], []⟩),
  (1008000, ⟨[5, 6, 7, 8, 9], [], [], []⟩)]
def frameCounts_pat : Nat → Option SP
  | 8 => some ⟨sparse .undef [(5, (.ow 0)), (6, (.ref 1 0)), (7, (.ow 3)), (8, (.val (.int .i64))), (9, (.val (.int .i64))), (23, (.ow 0)), (24, (.val (.int .i64))), (25, (.val (.int .i64)))] 0 97, [(.row 1), (.box [(.ow 2)]), (.row 1), (.row 2)], []⟩
  | _ => none
def frameCounts_L8 (n : Nat) (ls : List Leaf) (R : Type) (k : Ex → St → Option R) : Option R :=
  match ls with
  | [.int ends16, .int from17, .int i18, .int i19, .rows es20, .rows es21, .rows es22] => frameCounts_l8 n ends16 from17 i18 i19 es20 es21 es22 (fun y1042 => k .ret ⟨sparse .undef [(4, (TV.val (PV.bool y1042)))] 0 97, [], []⟩)
      (fun y1043 y1044 y1045 y1046 y1047 => k (.exit 0) ⟨sparse .undef [(5, (TV.ow 0)), (6, (TV.ref 1 0)), (7, (TV.ow 3)), (8, (TV.val (PV.int .i64 y1043))), (9, (TV.val (PV.int .i64 y1044)))] 0 97, [(Ob.row y1045 1), (Ob.box [(TV.ow 2)]), (Ob.row y1046 1), (Ob.row y1047 2)], []⟩)
  | _ => none
def frameCounts_L (n key : Nat) (ls : List Leaf) (R : Type) (k : Ex → St → Option R) : Option R :=
  match key with
  | 8 => frameCounts_L8 n ls R k
  | _ => none
def frameCounts_Λ : Nat → Loops := patL (normBy frameCounts_cfg) frameCounts_pat frameCounts_L
theorem frameCounts_step8 (n : Nat) (ends16 : Int) (from17 : Int) (i18 : Int) (i19 : Int) (es20 : List (List PV)) (es21 : List (List PV)) (es22 : List (List PV))  (R : Type) (k : Ex → St → Option R) :
    roundK T G0 (ctrOf frameCounts_Γ) (normBy frameCounts_cfg) (frameCounts_Λ n) (codeAt [1, 1, 1, 1, 1, 1, 0, 1, 0, 0] (bodyOf Try.f8)) (buildSt ⟨sparse .undef [(5, (.ow 0)), (6, (.ref 1 0)), (7, (.ow 3)), (8, (.val (.int .i64))), (9, (.val (.int .i64))), (23, (.ow 0)), (24, (.val (.int .i64))), (25, (.val (.int .i64)))] 0 97, [(.row 1), (.box [(.ow 2)]), (.row 1), (.row 2)], []⟩ [.int ends16, .int from17, .int i18, .int i19, .rows es20, .rows es21, .rows es22]) R k = frameCounts_L8 (n + 1) [.int ends16, .int from17, .int i18, .int i19, .rows es20, .rows es21, .rows es22] R k := by kernel_rfl
theorem frameCounts_eq (n : Nat) (l1 : List (List PV)) (raw2 : List (List PV)) :
    funK T G0 (ctrOf frameCounts_Γ) (frameCounts_Λ n) .d true [none, none] (funOf Try.f8) [(PV.fs l1), (PV.fs raw2)] = frameCounts_b n  l1 raw2 (fun a0 => some (frameCounts_E a0)) := by kernel_rfl
theorem frameCounts_inv {ps : List PV} {y : Bool} (h : frameCounts_D ps = some y) : ∃ (l1 : List (List PV)) (raw2 : List (List PV)), ps = [(PV.fs l1), (PV.fs raw2)] := by
  unfold frameCounts_D at h
  split at h
  · exact ⟨_, _, rfl⟩
  · cases h
theorem frameCounts_loops : loopsOf (bodyOf Try.f8) = [codeAt [1, 1, 1, 1, 1, 1, 0, 1, 0, 0] (bodyOf Try.f8)] := by kernel_rfl
theorem frameCounts_holds (hΓ : HoldsAll Try.prog G0 frameCounts_Γ) (hok : ∀ (l1 : List (List PV)) (raw2 : List (List PV)) (y : Bool), sFrameCounts l1 raw2 = some y → ∃ n, ∀ (R : Type) (k : Bool → Option R), frameCounts_b n  l1 raw2 k = k y) : Holds Try.prog G0 8 frameCounts_C := by
  refine fun_pat mixed tOk (ctrOf_ok hΓ) Try.func8 rfl rfl rfl rfl (F := funOf Try.f8) (normBy_ok frameCounts_cfg) (pat := frameCounts_pat) (L := frameCounts_L) (fun c hc ls R k => ?_) (fun c hc p hp m ls R k r h => ?_) (fun ps x h => ?_)
  · rw [show (funOf Try.f8).code = bodyOf Try.f8 from rfl, frameCounts_loops] at hc
    simp only [List.mem_cons, List.not_mem_nil, or_false] at hc
    rcases hc with rfl
    · show frameCounts_L8 0 ls R k = none
      unfold frameCounts_L8
      split
      · rfl
      · rfl
  · rw [show (funOf Try.f8).code = bodyOf Try.f8 from rfl, frameCounts_loops] at hc
    simp only [List.mem_cons, List.not_mem_nil, or_false] at hc
    rcases hc with rfl
    · have hp' : p = ⟨sparse .undef [(5, (.ow 0)), (6, (.ref 1 0)), (7, (.ow 3)), (8, (.val (.int .i64))), (9, (.val (.int .i64))), (23, (.ow 0)), (24, (.val (.int .i64))), (25, (.val (.int .i64)))] 0 97, [(.row 1), (.box [(.ow 2)]), (.row 1), (.row 2)], []⟩ := (Option.some.inj (hp : some _ = some p)).symm
      subst hp'
      change frameCounts_L8 (m + 1) ls R k = some r at h
      have h' := h
      unfold frameCounts_L8 at h'
      split at h'
      · exact (frameCounts_step8 m _ _ _ _ _ _ _ R k).trans h
      · cases h'
  · obtain ⟨y, hy, hx⟩ := bind_inv h
    cases hx
    obtain ⟨l1, raw2, rfl⟩ := frameCounts_inv hy
    obtain ⟨n, hn⟩ := hok l1 raw2 y hy
    exact ⟨n, (frameCounts_eq n l1 raw2).trans (hn _ _)⟩

end
end Go.Proofs.YtgpjnppakffoiaaV
