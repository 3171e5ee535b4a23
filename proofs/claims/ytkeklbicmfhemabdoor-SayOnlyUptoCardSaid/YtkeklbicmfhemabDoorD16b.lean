/- What the functions of the program come to, as the reading machine has it: printed by dec.py. -/
import Derived.Test.YtkeklbicmfhemabDoorVTab
import Derived.Test.YtkeklbicmfhemabDoorD16
namespace Go.Proofs.YtkeklbicmfhemabDoorV
open Go
set_option maxRecDepth 100000
set_option linter.unusedVariables false
set_option linter.unusedSimpArgs false
noncomputable section
/-! ## drayman/draymanlaw16.SayForms -/
def sayForms_l3 {R : Type} : Nat → Int → Int → Int → List (List PV) → (Bool → Option R) → (Int → Option R) → Option R
  | 0, _, _, _, _, _, _ => none
  | n + 1, n18, i19, i20, es21, k0, k1 =>
    cond (decide (i20 < i19)) (
      if 0 ≤ i20 ∧ i20 < (es21.length : Int) then
        Option.bind (es21[(Int.toNat i20)]?) fun e22 =>
        Option.bind (e22[0]?) fun c23 =>
        Option.bind (PV.asS c23) fun s24 =>
        Option.bind (sayNo_d i20) fun y25 =>
        if ((ByteArray.mk #[110, 111, 32])).size + (s24).size ≤ 140737488355328 then
          cond (!(ByteArray.toList y25 == ByteArray.toList ((ByteArray.mk #[110, 111, 32]) ++ s24))) (
            k0 false) (
            sayForms_l3 n n18 i19 (IntKind.i64.wrap (i20 + (1 : Int))) es21 k0 k1)
        else none
      else none) (
      k1 n18)
def sayForms_b {R : Type} (n : Nat) (n1 : Int) (k : Bool → Option R) : Option R :=
  sayForms_l3 n n1 18 0 [[(PV.str (ByteArray.mk #[119, 104, 97, 116]))], [(PV.str (ByteArray.mk #[97, 114, 103]))], [(PV.str (ByteArray.mk #[102, 111, 114, 109]))], [(PV.str (ByteArray.mk #[108, 111, 110, 103]))], [(PV.str (ByteArray.mk #[115, 116, 111, 112]))], [(PV.str (ByteArray.mk #[99, 97, 114]))], [(PV.str (ByteArray.mk #[112, 108, 97, 99, 101]))], [(PV.str (ByteArray.mk #[112, 97, 105, 114]))], [(PV.str (ByteArray.mk #[116, 104, 101, 114, 101]))], [(PV.str (ByteArray.mk #[103, 111, 110, 101]))], [(PV.str (ByteArray.mk #[115, 97, 109, 101]))], [(PV.str (ByteArray.mk #[105, 99, 101, 100]))], [(PV.str (ByteArray.mk #[104, 101, 108, 100]))], [(PV.str (ByteArray.mk #[102, 105, 116]))], [(PV.str (ByteArray.mk #[110, 111, 110, 101]))], [(PV.str (ByteArray.mk #[99, 111, 110, 102, 108, 105, 99, 116]))], [(PV.str (ByteArray.mk #[98, 117, 115, 121]))], [(PV.str (ByteArray.mk #[119, 104, 97, 116]))]] k
    (fun (n3 : Int) =>
      Option.bind (sayNo_d (-1)) fun y4 =>
      cond (!(ByteArray.toList y4 == ByteArray.toList (ByteArray.mk #[110, 111, 32, 119, 104, 97, 116]))) (
        k false) (
        Option.bind (sayNo_d 1099511627776) fun y5 =>
        cond (!(ByteArray.toList y5 == ByteArray.toList (ByteArray.mk #[110, 111, 32, 119, 104, 97, 116]))) (
          k false) (
          Option.bind (sayOk_d [[(PV.int .i64 1)], [(PV.int .i64 (-2))], [(PV.int .i64 0)]]) fun y6 =>
          cond (!(ByteArray.toList y6 == ByteArray.toList (ByteArray.mk #[111, 107, 32, 49, 32, 45, 50, 32, 48]))) (
            k false) (
            Option.bind (sSayList (ByteArray.mk #[112, 111, 111, 108]) []) fun y7 =>
            cond (!(ByteArray.toList y7 == ByteArray.toList (ByteArray.mk #[112, 111, 111, 108]))) (
              k false) (
              Option.bind (sSayList (ByteArray.mk #[114, 111, 117, 116, 101]) [[(PV.int .i64 3)]]) fun y8 =>
              cond (!(ByteArray.toList y8 == ByteArray.toList (ByteArray.mk #[114, 111, 117, 116, 101, 32, 51]))) (
                k false) (
                Option.bind (sSayRead (ByteArray.mk #[111, 107, 32, 49, 32, 45, 50, 32, 48])) fun y9 =>
                Option.bind (sSayRead (ByteArray.mk #[110, 111, 32, 99, 111, 110, 102, 108, 105, 99, 116])) fun y10 =>
                cond (!(ByteArray.toList y9.1 == ByteArray.toList (ByteArray.mk #[111, 107]))) (
                  k false) (
                  Option.bind (sSameI y9.2.1 [[(PV.int .i64 1)], [(PV.int .i64 (-2))], [(PV.int .i64 0)]]) fun y11 =>
                  cond (!y11) (
                    k false) (
                    cond (y9.2.2 != (0 : Int)) (
                      k false) (
                      cond (!(ByteArray.toList y10.1 == ByteArray.toList (ByteArray.mk #[110, 111, 32, 99, 111, 110, 102, 108, 105, 99, 116]))) (
                        k false) (
                        cond ((y10.2.1.length : Int) != (0 : Int)) (
                          k false) (
                          cond (y10.2.2 != (0 : Int)) (
                            k false) (
                            Option.bind (within_d n3 15) fun y12 =>
                            if 0 ≤ y12 ∧ y12 < (15 : Int) then
                              Option.bind (([[(PV.str (ByteArray.mk #[]))], [(PV.str (ByteArray.mk #[32]))], [(PV.str (ByteArray.mk #[111, 107, 32]))], [(PV.str (ByteArray.mk #[32, 111, 107]))], [(PV.str (ByteArray.mk #[111, 107, 32, 32, 49]))], [(PV.str (ByteArray.mk #[111, 107, 32, 48, 49]))], [(PV.str (ByteArray.mk #[111, 107, 32, 97]))], [(PV.str (ByteArray.mk #[111, 107, 32, 49, 32, 120]))], [(PV.str (ByteArray.mk #[110, 111]))], [(PV.str (ByteArray.mk #[110, 111, 32, 102, 105, 116, 32, 49]))], [(PV.str (ByteArray.mk #[110, 111, 32, 51]))], [(PV.str (ByteArray.mk #[110, 111, 32, 116, 104, 105, 110, 103]))], [(PV.str (ByteArray.mk #[110, 111, 32, 32, 102, 105, 116]))], [(PV.str (ByteArray.mk #[110, 111, 32, 70, 105, 116]))], [(PV.str (ByteArray.mk #[111, 107, 32, 49, 48, 48, 48, 48, 48, 48, 48, 48, 48, 48, 48, 48, 48, 48, 48, 48, 48, 48]))]] : List (List PV))[(Int.toNat y12)]?) fun e13 =>
                              Option.bind (e13[0]?) fun c14 =>
                              Option.bind (PV.asS c14) fun s15 =>
                              Option.bind (sSayRead s15) fun y16 =>
                              cond (ByteArray.toList y16.1 == ByteArray.toList (ByteArray.mk #[])) (
                                cond ((y16.2.1.length : Int) == (0 : Int)) (
                                  cond (y16.2.2 == (2 : Int)) (
                                    Option.bind (wakes16_d) fun y17 =>
                                    k y17) (
                                    k false)) (
                                  k false)) (
                                k false)
                            else none))))))))))))
def sayForms_E (y : Bool) : PV × List PV := ((PV.bool y), [])
def sayForms_D : List PV → Option (Bool)
  | [(PV.int .i64 n1)] => sSayForms n1
  | _ => none
def sayForms_Γ : List (Nat × Cal) := [(7, .ctr sayNo_C), (8, .ctr sayOk_C), (9, .ctr sayList_C), (10, .ctr sayRead_C), (11, .ctr sameI_C), (12, .ctr within_C), (13, .ctr wakes16_C)]
def sayForms_C : Ctr := ⟨[none], Bool, sayForms_D, sayForms_E, true, .d⟩
def sayForms_cfg : List (Nat × LC) := [(3, ⟨[0, 14, 15, 16], [], [], []⟩),
  (2000003, ⟨[2], [], [], []⟩),
  (1003000, ⟨[0], [], [], []⟩)]
def sayForms_pat : Nat → Option SP
  | 3 => some ⟨sparse .undef [(0, (.val (.int .i64))), (14, (.ow 0)), (15, (.val (.int .i64))), (16, (.val (.int .i64)))] 0 109, [(.row 1)], []⟩
  | _ => none
def sayForms_patj : Nat → Option SP
  | _ => none
def sayForms_L3 (n : Nat) (ls : List Leaf) (R : Type) (k : Ex → St → Option R) : Option R :=
  match ls with
  | [.int n18, .int i19, .int i20, .rows es21] => sayForms_l3 n n18 i19 i20 es21 (fun y1026 => k .ret ⟨sparse .undef [(2, (TV.val (PV.bool y1026)))] 0 109, [], []⟩)
      (fun y1027 => k (.exit 0) ⟨sparse .undef [(0, (TV.val (PV.int .i64 y1027)))] 0 109, [], []⟩)
  | _ => none
def sayForms_L (n key : Nat) (ls : List Leaf) (R : Type) (k : Ex → St → Option R) : Option R :=
  match key with
  | 3 => sayForms_L3 n ls R k
  | _ => none
def sayForms_J (n key : Nat) (ls : List Leaf) (R : Type) (k : Ex → St → Option R) : Option R :=
  match key with
  | _ => none
def sayForms_on : Code → Bool := fun _ => false
def sayForms_Λ : Nat → Loops := patL (normBy sayForms_cfg) sayForms_pat sayForms_L (normJ sayForms_cfg) sayForms_on sayForms_patj sayForms_J
theorem sayForms_step3 (n : Nat) (n18 : Int) (i19 : Int) (i20 : Int) (es21 : List (List PV))  (R : Type) (k : Ex → St → Option R) :
    roundK T G0 (ctrOf sayForms_Γ) (normBy sayForms_cfg) (sayForms_Λ n) (codeAt [1, 1, 0, 1, 0, 0] (bodyOf Tryd.f3)) (buildSt ⟨sparse .undef [(0, (.val (.int .i64))), (14, (.ow 0)), (15, (.val (.int .i64))), (16, (.val (.int .i64)))] 0 109, [(.row 1)], []⟩ [.int n18, .int i19, .int i20, .rows es21]) R k = sayForms_L3 (n + 1) [.int n18, .int i19, .int i20, .rows es21] R k := by kernel_rfl
theorem sayForms_eq (n : Nat) (n1 : Int) :
    funK T G0 (ctrOf sayForms_Γ) (sayForms_Λ n) .d true [none] (funOf Tryd.f3) [(PV.int .i64 n1)] = sayForms_b n  n1 (fun a0 => some (sayForms_E a0)) := by kernel_rfl
theorem sayForms_inv {ps : List PV} {y : Bool} (h : sayForms_D ps = some y) : ∃ (n1 : Int), ps = [(PV.int .i64 n1)] := by
  unfold sayForms_D at h
  split at h
  · exact ⟨_, rfl⟩
  · cases h
theorem sayForms_loops : loopsOf (bodyOf Tryd.f3) = [codeAt [1, 1, 0, 1, 0, 0] (bodyOf Tryd.f3)] := by kernel_rfl
theorem sayForms_holds (hΓ : HoldsAll Tryd.prog G0 sayForms_Γ) (hok : ∀ (n1 : Int) (y : Bool), sSayForms n1 = some y → ∃ n, ∀ (R : Type) (k : Bool → Option R), sayForms_b n  n1 k = k y) : Holds Tryd.prog G0 3 sayForms_C := by
  refine fun_pat mixed tOk (ctrOf_ok hΓ) Tryd.func3 rfl rfl rfl rfl (F := funOf Tryd.f3) (normBy_ok sayForms_cfg) (pat := sayForms_pat) (L := sayForms_L) (normJ_ok sayForms_cfg) (on := sayForms_on) (patj := sayForms_patj) (J := sayForms_J) (fun c hc ls R k => ?_) (fun c hc p hp m ls R k r h => ?_) (fun c hc p hp m ls R k r h => ?_) (fun ps x h => ?_)
  · rw [show (funOf Tryd.f3).code = bodyOf Tryd.f3 from rfl, sayForms_loops] at hc
    simp only [List.mem_cons, List.not_mem_nil, or_false] at hc
    rcases hc with rfl
    · show sayForms_L3 0 ls R k = none
      unfold sayForms_L3
      split
      · rfl
      · rfl
  · rw [show (funOf Tryd.f3).code = bodyOf Tryd.f3 from rfl, sayForms_loops] at hc
    simp only [List.mem_cons, List.not_mem_nil, or_false] at hc
    rcases hc with rfl
    · have hp' : p = ⟨sparse .undef [(0, (.val (.int .i64))), (14, (.ow 0)), (15, (.val (.int .i64))), (16, (.val (.int .i64)))] 0 109, [(.row 1)], []⟩ := (Option.some.inj (hp : some _ = some p)).symm
      subst hp'
      change sayForms_L3 (m + 1) ls R k = some r at h
      have h' := h
      unfold sayForms_L3 at h'
      split at h'
      · exact (sayForms_step3 m _ _ _ _ R k).trans h
      · cases h'
  · cases (List.mem_filter.1 hc).2
  · obtain ⟨y, hy, hx⟩ := bind_inv h
    cases hx
    obtain ⟨n1, rfl⟩ := sayForms_inv hy
    obtain ⟨n, hn⟩ := hok n1 y hy
    exact ⟨n, (sayForms_eq n n1).trans (hn _ _)⟩

/-! ## drayman/draymanlaw16.SayBack -/
def sayBack_l13 {R : Type} : Nat → Int → List (PV × PV) → (Bool → Option R) → (List (PV × PV) → Option R) → Option R
  | 0, _, _, _, _ => none
  | n + 1, k24, kv25, k0, k1 =>
    cond (decide (k24 ≤ (16 : Int))) (
      Option.bind (sayNo_d k24) fun y26 =>
      Option.bind (sSayRead y26) fun y27 =>
      Option.bind (mget T 9 (PV.str y26) kv25) fun r28 =>
      Option.bind (PV.asB (Option.getD r28 (PV.bool false))) fun b29 =>
      cond b29 (
        k0 false) (
        cond (y27.2.2 != (0 : Int)) (
          k0 false) (
          cond (!(ByteArray.toList y27.1 == ByteArray.toList y26)) (
            k0 false) (
            cond ((y27.2.1.length : Int) != (0 : Int)) (
              k0 false) (
              Option.bind (mset T 9 (PV.str y26) (PV.bool true) kv25) fun r30 =>
              sayBack_l13 n (IntKind.i64.wrap (k24 + (1 : Int))) r30 k0 k1))))) (
      k1 kv25)
def sayBack_l3 {R : Type} : Nat → List (List PV) → Int → Bool → List (List PV) → Int → Int → (List (List PV) → Int → Bool → Option R) → Option R
  | 0, _, _, _, _, _, _, _ => none
  | n + 1, l15, which16, small17, es18, i19, i20, k0 =>
    cond (decide (i20 < i19)) (
      Option.bind (idx es18 i20) fun e21 =>
      if e21.length = 1 then
        Option.bind (e21[0]?) fun c22 =>
        Option.bind (PV.asI .i64 c22) fun n23 =>
        cond small17 (
          cond (decide (n23 > (-1000000000000000000 : Int))) (
            sayBack_l3 n l15 which16 (decide (n23 < (1000000000000000000 : Int))) es18 i19 (IntKind.i64.wrap (i20 + (1 : Int))) k0) (
            sayBack_l3 n l15 which16 false es18 i19 (IntKind.i64.wrap (i20 + (1 : Int))) k0)) (
          sayBack_l3 n l15 which16 false es18 i19 (IntKind.i64.wrap (i20 + (1 : Int))) k0)
      else none) (
      k0 l15 which16 small17)
def sayBack_q12 {R : Type} (n : Nat) (k0 : Bool → Option R) : Option R :=
  sayBack_l13 n 1 ([] : List (PV × PV)) k0
    (fun (kv32 : List (PV × PV)) =>
      Option.bind (sRDigits (kv32.length : Int)) fun y33 =>
      cond (ByteArray.toList y33 == ByteArray.toList (ByteArray.mk #[49, 54])) (
        Option.bind (wakes16_d) fun y34 =>
        k0 y34) (
        k0 false))
def sayBack_b {R : Type} (n : Nat) (l1 : List (List PV)) (which2 : Int) (k : Bool → Option R) : Option R :=
  sayBack_l3 n l1 which2 true l1 (l1.length : Int) 0
    (fun (l3 : List (List PV)) (which4 : Int) (small5 : Bool) =>
      Option.bind (within_d which4 4) fun y6 =>
      if 0 ≤ y6 ∧ y6 < (4 : Int) then
        Option.bind (([[(PV.str (ByteArray.mk #[111, 107]))], [(PV.str (ByteArray.mk #[114, 111, 117, 116, 101]))], [(PV.str (ByteArray.mk #[112, 111, 111, 108]))], [(PV.str (ByteArray.mk #[99, 111, 115, 116]))]] : List (List PV))[(Int.toNat y6)]?) fun e7 =>
        Option.bind (e7[0]?) fun c8 =>
        Option.bind (PV.asS c8) fun s9 =>
        Option.bind (sSayList s9 l3) fun y10 =>
        Option.bind (sSayRead y10) fun y11 =>
        cond ((y11.2.2 == (0 : Int)) != small5) (
          k false) (
          cond small5 (
            cond (!(ByteArray.toList y11.1 == ByteArray.toList s9)) (
              k false) (
              Option.bind (sSameI y11.2.1 l3) fun y12 =>
              cond (!y12) (
                k false) (
                sayBack_q12 n  k))) (
            sayBack_q12 n  k))
      else none)
def sayBack_E (y : Bool) : PV × List PV := ((PV.bool y), [])
def sayBack_D : List PV → Option (Bool)
  | [(PV.fs l1), (PV.int .i64 which2)] => sSayBack l1 which2
  | _ => none
def sayBack_Γ : List (Nat × Cal) := [(12, .ctr within_C), (9, .ctr sayList_C), (10, .ctr sayRead_C), (11, .ctr sameI_C), (7, .ctr sayNo_C), (14, .ctr rDigits_C), (13, .ctr wakes16_C)]
def sayBack_C : Ctr := ⟨[none, none], Bool, sayBack_D, sayBack_E, true, .d⟩
def sayBack_cfg : List (Nat × LC) := [(3, ⟨[0, 1, 5, 18, 19, 20], [], [], []⟩),
  (1003000, ⟨[0, 1, 5], [], [], []⟩),
  (13, ⟨[12, 13], [], [], []⟩),
  (4000012, ⟨[], [], [], []⟩),
  (2000013, ⟨[4], [], [], []⟩),
  (1013002, ⟨[12], [], [], []⟩),
  (6000012, ⟨[4], [], [], []⟩)]
def sayBack_pat : Nat → Option SP
  | 13 => some ⟨sparse .undef [(12, (.mp 0)), (13, (.val (.int .i64)))] 0 104, [.map], []⟩
  | 3 => some ⟨sparse .undef [(0, (.val .fs)), (1, (.val (.int .i64))), (5, (.val .bool)), (18, (.val .fs)), (19, (.val (.int .i64))), (20, (.val (.int .i64)))] 0 104, [], []⟩
  | _ => none
def sayBack_patj : Nat → Option SP
  | 12 => some ⟨sparse .undef [] 0 104, [], []⟩
  | _ => none
def sayBack_L13 (n : Nat) (ls : List Leaf) (R : Type) (k : Ex → St → Option R) : Option R :=
  match ls with
  | [.int k24, .kvs kv25] => sayBack_l13 n k24 kv25 (fun y1035 => k .ret ⟨sparse .undef [(4, (TV.val (PV.bool y1035)))] 0 104, [], []⟩)
      (fun y1036 => k (.exit 2) ⟨sparse .undef [(12, (TV.mp 0))] 0 104, [(Ob.map y1036)], []⟩)
  | _ => none
def sayBack_L3 (n : Nat) (ls : List Leaf) (R : Type) (k : Ex → St → Option R) : Option R :=
  match ls with
  | [.rows l15, .int which16, .bool small17, .rows es18, .int i19, .int i20] => sayBack_l3 n l15 which16 small17 es18 i19 i20 (fun y2037 y2038 y2039 => k (.exit 0) ⟨sparse .undef [(0, (TV.val (PV.fs y2037))), (1, (TV.val (PV.int .i64 y2038))), (5, (TV.val (PV.bool y2039)))] 0 104, [], []⟩)
  | _ => none
def sayBack_J12 (n : Nat) (ls : List Leaf) (R : Type) (k : Ex → St → Option R) : Option R :=
  match ls with
  | [] => sayBack_q12 n  (fun y3040 => k .ret ⟨sparse .undef [(4, (TV.val (PV.bool y3040)))] 0 104, [], []⟩)
  | _ => none
def sayBack_L (n key : Nat) (ls : List Leaf) (R : Type) (k : Ex → St → Option R) : Option R :=
  match key with
  | 13 => sayBack_L13 n ls R k
  | 3 => sayBack_L3 n ls R k
  | _ => none
def sayBack_J (n key : Nat) (ls : List Leaf) (R : Type) (k : Ex → St → Option R) : Option R :=
  match key with
  | 12 => sayBack_J12 n ls R k
  | _ => none
def sayBack_on : Code → Bool := onKeys [12]
def sayBack_Λ : Nat → Loops := patL (normBy sayBack_cfg) sayBack_pat sayBack_L (normJ sayBack_cfg) sayBack_on sayBack_patj sayBack_J
theorem sayBack_step3 (n : Nat) (l15 : List (List PV)) (which16 : Int) (small17 : Bool) (es18 : List (List PV)) (i19 : Int) (i20 : Int)  (R : Type) (k : Ex → St → Option R) :
    roundK T G0 (ctrOf sayBack_Γ) (normBy sayBack_cfg) (sayBack_Λ n) (codeAt [1, 1, 0, 1, 0, 0] (bodyOf Tryd.f4)) (buildSt ⟨sparse .undef [(0, (.val .fs)), (1, (.val (.int .i64))), (5, (.val .bool)), (18, (.val .fs)), (19, (.val (.int .i64))), (20, (.val (.int .i64)))] 0 104, [], []⟩ [.rows l15, .int which16, .bool small17, .rows es18, .int i19, .int i20]) R k = sayBack_L3 (n + 1) [.rows l15, .int which16, .bool small17, .rows es18, .int i19, .int i20] R k := by kernel_rfl
theorem sayBack_step13 (n : Nat) (k24 : Int) (kv25 : List (PV × PV))  (R : Type) (k : Ex → St → Option R) :
    roundK T G0 (ctrOf sayBack_Γ) (normBy sayBack_cfg) (sayBack_Λ n) (codeAt [1, 1, 1, 1, 1, 1, 1, 0, 1, 0, 0] (bodyOf Tryd.f4)) (buildSt ⟨sparse .undef [(12, (.mp 0)), (13, (.val (.int .i64)))] 0 104, [.map], []⟩ [.int k24, .kvs kv25]) R k = sayBack_L13 (n + 1) [.int k24, .kvs kv25] R k := by kernel_rfl
theorem sayBack_stepq12 (n : Nat)  (R : Type) (k : Ex → St → Option R) :
    joinK T G0 (ctrOf sayBack_Γ) (normJ sayBack_cfg) (sayBack_Λ n) (codeAt [1, 1, 1, 1, 1, 1] (bodyOf Tryd.f4)) (buildSt ⟨sparse .undef [] 0 104, [], []⟩ []) R k = sayBack_J12 n [] R k := by kernel_rfl
theorem sayBack_eq (n : Nat) (l1 : List (List PV)) (which2 : Int) :
    funK T G0 (ctrOf sayBack_Γ) (sayBack_Λ n) .d true [none, none] (funOf Tryd.f4) [(PV.fs l1), (PV.int .i64 which2)] = sayBack_b n  l1 which2 (fun a0 => some (sayBack_E a0)) := by kernel_rfl
theorem sayBack_inv {ps : List PV} {y : Bool} (h : sayBack_D ps = some y) : ∃ (l1 : List (List PV)) (which2 : Int), ps = [(PV.fs l1), (PV.int .i64 which2)] := by
  unfold sayBack_D at h
  split at h
  · exact ⟨_, _, rfl⟩
  · cases h
theorem sayBack_loops : loopsOf (bodyOf Tryd.f4) = [codeAt [1, 1, 0, 1, 0, 0] (bodyOf Tryd.f4), codeAt [1, 1, 1, 1, 1, 1, 1, 0, 1, 0, 0] (bodyOf Tryd.f4)] := by kernel_rfl
theorem sayBack_joins : (joinsOf (bodyOf Tryd.f4)).filter sayBack_on = [codeAt [1, 1, 1, 1, 1, 1] (bodyOf Tryd.f4)] := by kernel_rfl
theorem sayBack_holds (hΓ : HoldsAll Tryd.prog G0 sayBack_Γ) (hok : ∀ (l1 : List (List PV)) (which2 : Int) (y : Bool), sSayBack l1 which2 = some y → ∃ n, ∀ (R : Type) (k : Bool → Option R), sayBack_b n  l1 which2 k = k y) : Holds Tryd.prog G0 4 sayBack_C := by
  refine fun_pat mixed tOk (ctrOf_ok hΓ) Tryd.func4 rfl rfl rfl rfl (F := funOf Tryd.f4) (normBy_ok sayBack_cfg) (pat := sayBack_pat) (L := sayBack_L) (normJ_ok sayBack_cfg) (on := sayBack_on) (patj := sayBack_patj) (J := sayBack_J) (fun c hc ls R k => ?_) (fun c hc p hp m ls R k r h => ?_) (fun c hc p hp m ls R k r h => ?_) (fun ps x h => ?_)
  · rw [show (funOf Tryd.f4).code = bodyOf Tryd.f4 from rfl, sayBack_loops] at hc
    simp only [List.mem_cons, List.not_mem_nil, or_false] at hc
    rcases hc with rfl | rfl
    · show sayBack_L3 0 ls R k = none
      unfold sayBack_L3
      split
      · rfl
      · rfl
    · show sayBack_L13 0 ls R k = none
      unfold sayBack_L13
      split
      · rfl
      · rfl
  · rw [show (funOf Tryd.f4).code = bodyOf Tryd.f4 from rfl, sayBack_loops] at hc
    simp only [List.mem_cons, List.not_mem_nil, or_false] at hc
    rcases hc with rfl | rfl
    · have hp' : p = ⟨sparse .undef [(0, (.val .fs)), (1, (.val (.int .i64))), (5, (.val .bool)), (18, (.val .fs)), (19, (.val (.int .i64))), (20, (.val (.int .i64)))] 0 104, [], []⟩ := (Option.some.inj (hp : some _ = some p)).symm
      subst hp'
      change sayBack_L3 (m + 1) ls R k = some r at h
      have h' := h
      unfold sayBack_L3 at h'
      split at h'
      · exact (sayBack_step3 m _ _ _ _ _ _ R k).trans h
      · cases h'
    · have hp' : p = ⟨sparse .undef [(12, (.mp 0)), (13, (.val (.int .i64)))] 0 104, [.map], []⟩ := (Option.some.inj (hp : some _ = some p)).symm
      subst hp'
      change sayBack_L13 (m + 1) ls R k = some r at h
      have h' := h
      unfold sayBack_L13 at h'
      split at h'
      · exact (sayBack_step13 m _ _ R k).trans h
      · cases h'
  · rw [show (funOf Tryd.f4).code = bodyOf Tryd.f4 from rfl, sayBack_joins] at hc
    simp only [List.mem_cons, List.not_mem_nil, or_false] at hc
    rcases hc with rfl
    · have hp' : p = ⟨sparse .undef [] 0 104, [], []⟩ := (Option.some.inj (hp : some _ = some p)).symm
      subst hp'
      change sayBack_J12 m ls R k = some r at h
      have h' := h
      unfold sayBack_J12 at h'
      split at h'
      · exact (sayBack_stepq12 m  R k).trans h
      · cases h'
  · obtain ⟨y, hy, hx⟩ := bind_inv h
    cases hx
    obtain ⟨l1, which2, rfl⟩ := sayBack_inv hy
    obtain ⟨n, hn⟩ := hok l1 which2 y hy
    exact ⟨n, (sayBack_eq n l1 which2).trans (hn _ _)⟩

/-! ## drayman/draymanlaw16.SayOnly -/
def sayOnly_q18 {R : Type} (n : Nat) (s40 : ByteArray) (k0 : Bool → Option R) : Option R :=
  Option.bind (sSayRead s40) fun y41 =>
  cond (y41.2.2 != (0 : Int)) (
    cond (ByteArray.toList y41.1 == ByteArray.toList (ByteArray.mk #[])) (
      cond ((y41.2.1.length : Int) == (0 : Int)) (
        cond (y41.2.2 == (2 : Int)) (
          Option.bind (wakes16_d) fun y42 =>
          k0 y42) (
          k0 false)) (
        k0 false)) (
      k0 false)) (
    cond (decide (((y41.1).size : Int) > (3 : Int))) (
      if (0 : Int) ≤ (0 : Int) ∧ (0 : Int) ≤ (3 : Int) ∧ (3 : Int) ≤ ((y41.1).size : Int) then
        cond (ByteArray.toList (ByteArray.extract y41.1 0 3) == ByteArray.toList (ByteArray.mk #[110, 111, 32])) (
          cond ((y41.2.1.length : Int) == (0 : Int)) (
            cond (ByteArray.toList y41.1 == ByteArray.toList s40) (
              Option.bind (sRDigits (y41.2.1.length : Int)) fun y43 =>
              cond (!(ByteArray.toList y43 == ByteArray.toList (ByteArray.mk #[]))) (
                Option.bind (wakes16_d) fun y44 =>
                k0 y44) (
                k0 false)) (
              Option.bind (sSayList y41.1 y41.2.1) fun y45 =>
              cond (ByteArray.toList y45 == ByteArray.toList s40) (
                Option.bind (sRDigits (y41.2.1.length : Int)) fun y46 =>
                cond (!(ByteArray.toList y46 == ByteArray.toList (ByteArray.mk #[]))) (
                  Option.bind (wakes16_d) fun y47 =>
                  k0 y47) (
                  k0 false)) (
                k0 false))) (
            Option.bind (sSayList y41.1 y41.2.1) fun y48 =>
            cond (ByteArray.toList y48 == ByteArray.toList s40) (
              Option.bind (sRDigits (y41.2.1.length : Int)) fun y49 =>
              cond (!(ByteArray.toList y49 == ByteArray.toList (ByteArray.mk #[]))) (
                Option.bind (wakes16_d) fun y50 =>
                k0 y50) (
                k0 false)) (
              k0 false))) (
          Option.bind (sSayList y41.1 y41.2.1) fun y51 =>
          cond (ByteArray.toList y51 == ByteArray.toList s40) (
            Option.bind (sRDigits (y41.2.1.length : Int)) fun y52 =>
            cond (!(ByteArray.toList y52 == ByteArray.toList (ByteArray.mk #[]))) (
              Option.bind (wakes16_d) fun y53 =>
              k0 y53) (
              k0 false)) (
            k0 false))
      else none) (
      Option.bind (sSayList y41.1 y41.2.1) fun y54 =>
      cond (ByteArray.toList y54 == ByteArray.toList s40) (
        Option.bind (sRDigits (y41.2.1.length : Int)) fun y55 =>
        cond (!(ByteArray.toList y55 == ByteArray.toList (ByteArray.mk #[]))) (
          Option.bind (wakes16_d) fun y56 =>
          k0 y56) (
          k0 false)) (
        k0 false)))
def sayOnly_q16 {R : Type} (n : Nat) (s35 : ByteArray) (f36 : Int) (joined37 : Bool) (k0 : Bool → Option R) : Option R :=
  cond (!joined37) (
    cond (f36 != (2 : Int)) (
      k0 false) (
      sayOnly_q18 n s35 k0)) (
    sayOnly_q18 n s35 k0)
def sayOnly_l4 {R : Type} : Nat → Int → ByteArray → ByteArray → List (List PV) → Int → Int → List (List PV) → (Int → ByteArray → ByteArray → List (List PV) → Option R) → Option R
  | 0, _, _, _, _, _, _, _, _ => none
  | n + 1, at24, s25, word26, es27, i28, i29, es30, k0 =>
    cond (decide (i29 < i28)) (
      Option.bind (idx es27 i29) fun e31 =>
      if e31.length = 1 then
        Option.bind (e31[0]?) fun c32 =>
        Option.bind (PV.asI .i64 c32) fun n33 =>
        Option.bind (within_d n33 2001) fun y34 =>
        if (es30.length + ([[(PV.int .i64 (IntKind.i64.wrap (y34 - (1000 : Int))))]] : List (List PV)).length) * 8 ≤ maxBytes then
          sayOnly_l4 n at24 s25 word26 es27 i28 (IntKind.i64.wrap (i29 + (1 : Int))) (es30 ++ [[(PV.int .i64 (IntKind.i64.wrap (y34 - (1000 : Int))))]]) k0
        else none
      else none) (
      k0 at24 s25 word26 es30)
def sayOnly_b {R : Type} (n : Nat) (l1 : List (List PV)) (which2 : Int) (at3 : Int) (s4 : ByteArray) (k : Bool → Option R) : Option R :=
  Option.bind (within_d which2 4) fun y5 =>
  if 0 ≤ y5 ∧ y5 < (4 : Int) then
    Option.bind (([[(PV.str (ByteArray.mk #[111, 107]))], [(PV.str (ByteArray.mk #[114, 111, 117, 116, 101]))], [(PV.str (ByteArray.mk #[112, 111, 111, 108]))], [(PV.str (ByteArray.mk #[120, 45, 121]))]] : List (List PV))[(Int.toNat y5)]?) fun e6 =>
    Option.bind (e6[0]?) fun c7 =>
    Option.bind (PV.asS c7) fun s8 =>
    sayOnly_l4 n at3 s4 s8 l1 (l1.length : Int) 0 []
      (fun (at9 : Int) (s10 : ByteArray) (word11 : ByteArray) (es12 : List (List PV)) =>
        Option.bind (sSayList word11 es12) fun y13 =>
        Option.bind (sSayRead y13) fun y14 =>
        cond (y14.2.2 != (0 : Int)) (
          k false) (
          cond (!(ByteArray.toList y14.1 == ByteArray.toList word11)) (
            k false) (
            Option.bind (sSameI y14.2.1 es12) fun y15 =>
            cond (!y15) (
              k false) (
              Option.bind (within_d at9 (IntKind.i64.wrap (((y13).size : Int) + (1 : Int)))) fun y16 =>
              if (0 : Int) ≤ (0 : Int) ∧ (0 : Int) ≤ y16 ∧ y16 ≤ ((y13).size : Int) then
                if (0 : Int) ≤ y16 ∧ y16 ≤ ((y13).size : Int) ∧ ((y13).size : Int) ≤ ((y13).size : Int) then
                  if ((ByteArray.extract y13 0 (Int.toNat y16))).size + ((ByteArray.mk #[32])).size ≤ 140737488355328 then
                    if (((ByteArray.extract y13 0 (Int.toNat y16)) ++ (ByteArray.mk #[32]))).size + ((ByteArray.extract y13 (Int.toNat y16) (Int.toNat ((y13).size : Int)))).size ≤ 140737488355328 then
                      Option.bind (sSayRead (((ByteArray.extract y13 0 (Int.toNat y16)) ++ (ByteArray.mk #[32])) ++ (ByteArray.extract y13 (Int.toNat y16) (Int.toNat ((y13).size : Int))))) fun y17 =>
                      cond (decide (y16 > (0 : Int))) (
                        cond (decide (y16 < ((y13).size : Int))) (
                          Option.bind (idx (y13).data.toList (IntKind.i64.wrap (y16 - (1 : Int)))) fun u18 =>
                          cond ((u18.toNat : Int) != (32 : Int)) (
                            Option.bind (idx (y13).data.toList y16) fun u19 =>
                            sayOnly_q16 n s10 y17.2.2 ((u19.toNat : Int) != (32 : Int)) k) (
                            sayOnly_q16 n s10 y17.2.2 false k)) (
                          sayOnly_q16 n s10 y17.2.2 false k)) (
                        sayOnly_q16 n s10 y17.2.2 false k)
                    else none
                  else none
                else none
              else none))))
  else none
def sayOnly_E (y : Bool) : PV × List PV := ((PV.bool y), [])
def sayOnly_D : List PV → Option (Bool)
  | [(PV.fs l1), (PV.int .i64 which2), (PV.int .i64 at3), (PV.str s4)] => sSayOnly l1 which2 at3 s4
  | _ => none
def sayOnly_Γ : List (Nat × Cal) := [(12, .ctr within_C), (9, .ctr sayList_C), (10, .ctr sayRead_C), (11, .ctr sameI_C), (13, .ctr wakes16_C), (14, .ctr rDigits_C)]
def sayOnly_C : Ctr := ⟨[none, none, none, none], Bool, sayOnly_D, sayOnly_E, true, .d⟩
def sayOnly_cfg : List (Nat × LC) := [(4, ⟨[2, 3, 9, 10, 29, 30, 31], [10], [], []⟩),
  (1004000, ⟨[2, 3, 9, 10], [], [], []⟩),
  (4000018, ⟨[3], [], [], []⟩),
  (4000016, ⟨[3, 19, 20], [], [], []⟩),
  (6000016, ⟨[8], [], [], []⟩),
  (6000018, ⟨[8], [], [], []⟩)]
def sayOnly_pat : Nat → Option SP
  | 4 => some ⟨sparse .undef [(2, (.val (.int .i64))), (3, (.val .str)), (9, (.val .str)), (10, (.ow 0)), (29, (.val .fs)), (30, (.val (.int .i64))), (31, (.val (.int .i64)))] 0 165, [(.row 1)], []⟩
  | _ => none
def sayOnly_patj : Nat → Option SP
  | 18 => some ⟨sparse .undef [(3, (.val .str))] 0 165, [], []⟩
  | 16 => some ⟨sparse .undef [(3, (.val .str)), (19, (.val (.int .i64))), (20, (.val .bool))] 0 165, [], []⟩
  | _ => none
def sayOnly_J18 (n : Nat) (ls : List Leaf) (R : Type) (k : Ex → St → Option R) : Option R :=
  match ls with
  | [.str s40] => sayOnly_q18 n s40 (fun y1057 => k .ret ⟨sparse .undef [(8, (TV.val (PV.bool y1057)))] 0 165, [], []⟩)
  | _ => none
def sayOnly_J16 (n : Nat) (ls : List Leaf) (R : Type) (k : Ex → St → Option R) : Option R :=
  match ls with
  | [.str s35, .int f36, .bool joined37] => sayOnly_q16 n s35 f36 joined37 (fun y2058 => k .ret ⟨sparse .undef [(8, (TV.val (PV.bool y2058)))] 0 165, [], []⟩)
  | _ => none
def sayOnly_L4 (n : Nat) (ls : List Leaf) (R : Type) (k : Ex → St → Option R) : Option R :=
  match ls with
  | [.int at24, .str s25, .str word26, .rows es27, .int i28, .int i29, .rows es30] => sayOnly_l4 n at24 s25 word26 es27 i28 i29 es30 (fun y3059 y3060 y3061 y3062 => k (.exit 0) ⟨sparse .undef [(2, (TV.val (PV.int .i64 y3059))), (3, (TV.val (PV.str y3060))), (9, (TV.val (PV.str y3061))), (10, (TV.ow 0))] 0 165, [(Ob.row y3062 1)], []⟩)
  | _ => none
def sayOnly_L (n key : Nat) (ls : List Leaf) (R : Type) (k : Ex → St → Option R) : Option R :=
  match key with
  | 4 => sayOnly_L4 n ls R k
  | _ => none
def sayOnly_J (n key : Nat) (ls : List Leaf) (R : Type) (k : Ex → St → Option R) : Option R :=
  match key with
  | 18 => sayOnly_J18 n ls R k
  | 16 => sayOnly_J16 n ls R k
  | _ => none
def sayOnly_on : Code → Bool := onKeys [16, 18]
def sayOnly_Λ : Nat → Loops := patL (normBy sayOnly_cfg) sayOnly_pat sayOnly_L (normJ sayOnly_cfg) sayOnly_on sayOnly_patj sayOnly_J
theorem sayOnly_step4 (n : Nat) (at24 : Int) (s25 : ByteArray) (word26 : ByteArray) (es27 : List (List PV)) (i28 : Int) (i29 : Int) (es30 : List (List PV))  (R : Type) (k : Ex → St → Option R) :
    roundK T G0 (ctrOf sayOnly_Γ) (normBy sayOnly_cfg) (sayOnly_Λ n) (codeAt [1, 1, 1, 0, 1, 0, 0] (bodyOf Tryd.f5)) (buildSt ⟨sparse .undef [(2, (.val (.int .i64))), (3, (.val .str)), (9, (.val .str)), (10, (.ow 0)), (29, (.val .fs)), (30, (.val (.int .i64))), (31, (.val (.int .i64)))] 0 165, [(.row 1)], []⟩ [.int at24, .str s25, .str word26, .rows es27, .int i28, .int i29, .rows es30]) R k = sayOnly_L4 (n + 1) [.int at24, .str s25, .str word26, .rows es27, .int i28, .int i29, .rows es30] R k := by kernel_rfl
theorem sayOnly_stepq16 (n : Nat) (s35 : ByteArray) (f36 : Int) (joined37 : Bool)  (R : Type) (k : Ex → St → Option R) :
    joinK T G0 (ctrOf sayOnly_Γ) (normJ sayOnly_cfg) (sayOnly_Λ n) (codeAt [1, 1, 1, 1, 1, 1, 1, 1, 1, 1] (bodyOf Tryd.f5)) (buildSt ⟨sparse .undef [(3, (.val .str)), (19, (.val (.int .i64))), (20, (.val .bool))] 0 165, [], []⟩ [.str s35, .int f36, .bool joined37]) R k = sayOnly_J16 n [.str s35, .int f36, .bool joined37] R k := by kernel_rfl
theorem sayOnly_stepq18 (n : Nat) (s40 : ByteArray)  (R : Type) (k : Ex → St → Option R) :
    joinK T G0 (ctrOf sayOnly_Γ) (normJ sayOnly_cfg) (sayOnly_Λ n) (codeAt [1, 1, 1, 1, 1, 1, 1, 1, 1, 1, 1] (bodyOf Tryd.f5)) (buildSt ⟨sparse .undef [(3, (.val .str))] 0 165, [], []⟩ [.str s40]) R k = sayOnly_J18 n [.str s40] R k := by kernel_rfl
theorem sayOnly_eq (n : Nat) (l1 : List (List PV)) (which2 : Int) (at3 : Int) (s4 : ByteArray) :
    funK T G0 (ctrOf sayOnly_Γ) (sayOnly_Λ n) .d true [none, none, none, none] (funOf Tryd.f5) [(PV.fs l1), (PV.int .i64 which2), (PV.int .i64 at3), (PV.str s4)] = sayOnly_b n  l1 which2 at3 s4 (fun a0 => some (sayOnly_E a0)) := by kernel_rfl
theorem sayOnly_inv {ps : List PV} {y : Bool} (h : sayOnly_D ps = some y) : ∃ (l1 : List (List PV)) (which2 : Int) (at3 : Int) (s4 : ByteArray), ps = [(PV.fs l1), (PV.int .i64 which2), (PV.int .i64 at3), (PV.str s4)] := by
  unfold sayOnly_D at h
  split at h
  · exact ⟨_, _, _, _, rfl⟩
  · cases h
theorem sayOnly_loops : loopsOf (bodyOf Tryd.f5) = [codeAt [1, 1, 1, 0, 1, 0, 0] (bodyOf Tryd.f5)] := by kernel_rfl
theorem sayOnly_joins : (joinsOf (bodyOf Tryd.f5)).filter sayOnly_on = [codeAt [1, 1, 1, 1, 1, 1, 1, 1, 1, 1] (bodyOf Tryd.f5), codeAt [1, 1, 1, 1, 1, 1, 1, 1, 1, 1, 1] (bodyOf Tryd.f5)] := by kernel_rfl
theorem sayOnly_holds (hΓ : HoldsAll Tryd.prog G0 sayOnly_Γ) (hok : ∀ (l1 : List (List PV)) (which2 : Int) (at3 : Int) (s4 : ByteArray) (y : Bool), sSayOnly l1 which2 at3 s4 = some y → ∃ n, ∀ (R : Type) (k : Bool → Option R), sayOnly_b n  l1 which2 at3 s4 k = k y) : Holds Tryd.prog G0 5 sayOnly_C := by
  refine fun_pat mixed tOk (ctrOf_ok hΓ) Tryd.func5 rfl rfl rfl rfl (F := funOf Tryd.f5) (normBy_ok sayOnly_cfg) (pat := sayOnly_pat) (L := sayOnly_L) (normJ_ok sayOnly_cfg) (on := sayOnly_on) (patj := sayOnly_patj) (J := sayOnly_J) (fun c hc ls R k => ?_) (fun c hc p hp m ls R k r h => ?_) (fun c hc p hp m ls R k r h => ?_) (fun ps x h => ?_)
  · rw [show (funOf Tryd.f5).code = bodyOf Tryd.f5 from rfl, sayOnly_loops] at hc
    simp only [List.mem_cons, List.not_mem_nil, or_false] at hc
    rcases hc with rfl
    · show sayOnly_L4 0 ls R k = none
      unfold sayOnly_L4
      split
      · rfl
      · rfl
  · rw [show (funOf Tryd.f5).code = bodyOf Tryd.f5 from rfl, sayOnly_loops] at hc
    simp only [List.mem_cons, List.not_mem_nil, or_false] at hc
    rcases hc with rfl
    · have hp' : p = ⟨sparse .undef [(2, (.val (.int .i64))), (3, (.val .str)), (9, (.val .str)), (10, (.ow 0)), (29, (.val .fs)), (30, (.val (.int .i64))), (31, (.val (.int .i64)))] 0 165, [(.row 1)], []⟩ := (Option.some.inj (hp : some _ = some p)).symm
      subst hp'
      change sayOnly_L4 (m + 1) ls R k = some r at h
      have h' := h
      unfold sayOnly_L4 at h'
      split at h'
      · exact (sayOnly_step4 m _ _ _ _ _ _ _ R k).trans h
      · cases h'
  · rw [show (funOf Tryd.f5).code = bodyOf Tryd.f5 from rfl, sayOnly_joins] at hc
    simp only [List.mem_cons, List.not_mem_nil, or_false] at hc
    rcases hc with rfl | rfl
    · have hp' : p = ⟨sparse .undef [(3, (.val .str)), (19, (.val (.int .i64))), (20, (.val .bool))] 0 165, [], []⟩ := (Option.some.inj (hp : some _ = some p)).symm
      subst hp'
      change sayOnly_J16 m ls R k = some r at h
      have h' := h
      unfold sayOnly_J16 at h'
      split at h'
      · exact (sayOnly_stepq16 m _ _ _ R k).trans h
      · cases h'
    · have hp' : p = ⟨sparse .undef [(3, (.val .str))] 0 165, [], []⟩ := (Option.some.inj (hp : some _ = some p)).symm
      subst hp'
      change sayOnly_J18 m ls R k = some r at h
      have h' := h
      unfold sayOnly_J18 at h'
      split at h'
      · exact (sayOnly_stepq18 m _ R k).trans h
      · cases h'
  · obtain ⟨y, hy, hx⟩ := bind_inv h
    cases hx
    obtain ⟨l1, which2, at3, s4, rfl⟩ := sayOnly_inv hy
    obtain ⟨n, hn⟩ := hok l1 which2 at3 s4 y hy
    exact ⟨n, (sayOnly_eq n l1 which2 at3 s4).trans (hn _ _)⟩

end
end Go.Proofs.YtkeklbicmfhemabDoorV
