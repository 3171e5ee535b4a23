/- What the functions of the program come to, as the reading machine has it: printed by dec.py. -/
import Derived.Test.YtkeklbicmfhemaaDoorVTab
import Derived.Test.YtkeklbicmfhemaaDoorD02
namespace Go.Proofs.YtkeklbicmfhemaaDoorV
open Go
set_option maxRecDepth 100000
set_option linter.unusedVariables false
set_option linter.unusedSimpArgs false
noncomputable section
/-! ## drayman/draymanlaw02.ScanDigits -/
def scanDigits_q10 {R : Type} (at46 : Int) (c47 : Int) (s48 : ByteArray) (b49 : Bool) (k0 : Bool → Option R) (k1 : Int → Int → ByteArray → Option R) : Option R :=
  cond b49 (
    Option.bind (wakes02_d) fun y50 =>
    k0 y50) (
    k1 at46 c47 s48)
def scanDigits_q11 {R : Type} (at39 : Int) (c40 : Int) (s41 : ByteArray) (k0 : Bool → Option R) : Option R :=
  Option.bind (within_d at39 (IntKind.i64.wrap (((s41).size : Int) + (1 : Int)))) fun y42 =>
  if (0 : Int) ≤ (0 : Int) ∧ (0 : Int) ≤ y42 ∧ y42 ≤ ((s41).size : Int) then
    if (0 : Int) ≤ y42 ∧ y42 ≤ ((s41).size : Int) ∧ ((s41).size : Int) ≤ ((s41).size : Int) then
      Option.bind (strOf [[(PV.int .u8 c40)]]) fun l43 =>
      if ((ByteArray.extract s41 0 (Int.toNat y42))).size + ((ByteArray.mk (List.toArray l43))).size ≤ 140737488355328 then
        if (((ByteArray.extract s41 0 (Int.toNat y42)) ++ (ByteArray.mk (List.toArray l43)))).size + ((ByteArray.extract s41 (Int.toNat y42) (Int.toNat ((s41).size : Int)))).size ≤ 140737488355328 then
          Option.bind (sInt_d (((ByteArray.extract s41 0 (Int.toNat y42)) ++ (ByteArray.mk (List.toArray l43))) ++ (ByteArray.extract s41 (Int.toNat y42) (Int.toNat ((s41).size : Int))))) fun y44 =>
          cond (!y44.2) (
            Option.bind (wakes02_d) fun y45 =>
            k0 y45) (
            k0 false)
        else none
      else none
    else none
  else none
def scanDigits_q9 {R : Type} (at21 : Int) (c22 : Int) (s23 : ByteArray) (k0 : Bool → Option R) : Option R :=
  cond (decide (c22 ≥ (48 : Int))) (
    cond (decide (c22 ≤ (57 : Int))) (
      scanDigits_q10 at21 c22 s23 true k0
        (fun (at25 : Int) (c26 : Int) (s27 : ByteArray) =>
          scanDigits_q11 at25 c26 s27 k0)) (
      scanDigits_q10 at21 c22 s23 (c22 == (45 : Int)) k0
        (fun (at30 : Int) (c31 : Int) (s32 : ByteArray) =>
          scanDigits_q11 at30 c31 s32 k0))) (
    scanDigits_q10 at21 c22 s23 (c22 == (45 : Int)) k0
      (fun (at35 : Int) (c36 : Int) (s37 : ByteArray) =>
        scanDigits_q11 at35 c36 s37 k0))
def scanDigits_q6 {R : Type} (n12 : Int) (at13 : Int) (c14 : Int) (s15 : ByteArray) (k0 : Bool → Option R) : Option R :=
  Option.bind (digits_d (IntKind.i64.wrap (Int.tdiv n12 (10 : Int)))) fun y16 =>
  cond (decide (n12 > (9 : Int))) (
    if (0 : Int) ≤ (0 : Int) ∧ (0 : Int) ≤ (IntKind.i64.wrap (((s15).size : Int) - (1 : Int))) ∧ (IntKind.i64.wrap (((s15).size : Int) - (1 : Int))) ≤ ((s15).size : Int) then
      cond (!(ByteArray.toList (ByteArray.extract s15 0 (Int.toNat (IntKind.i64.wrap (((s15).size : Int) - (1 : Int))))) == ByteArray.toList y16)) (
        k0 false) (
        cond (decide (n12 < (-9 : Int))) (
          if (0 : Int) ≤ (0 : Int) ∧ (0 : Int) ≤ (IntKind.i64.wrap (((s15).size : Int) - (1 : Int))) ∧ (IntKind.i64.wrap (((s15).size : Int) - (1 : Int))) ≤ ((s15).size : Int) then
            cond (!(ByteArray.toList (ByteArray.extract s15 0 (Int.toNat (IntKind.i64.wrap (((s15).size : Int) - (1 : Int))))) == ByteArray.toList y16)) (
              k0 false) (
              scanDigits_q9 at13 c14 s15 k0)
          else none) (
          scanDigits_q9 at13 c14 s15 k0))
    else none) (
    cond (decide (n12 < (-9 : Int))) (
      if (0 : Int) ≤ (0 : Int) ∧ (0 : Int) ≤ (IntKind.i64.wrap (((s15).size : Int) - (1 : Int))) ∧ (IntKind.i64.wrap (((s15).size : Int) - (1 : Int))) ≤ ((s15).size : Int) then
        cond (!(ByteArray.toList (ByteArray.extract s15 0 (Int.toNat (IntKind.i64.wrap (((s15).size : Int) - (1 : Int))))) == ByteArray.toList y16)) (
          k0 false) (
          scanDigits_q9 at13 c14 s15 k0)
      else none) (
      scanDigits_q9 at13 c14 s15 k0))
def scanDigits_b {R : Type} (n1 : Int) (at2 : Int) (c3 : Int) (k : Bool → Option R) : Option R :=
  Option.bind (digits_d (Int.tmod n1 (1000000000000000000 : Int))) fun y4 =>
  cond (ByteArray.toList y4 == ByteArray.toList (ByteArray.mk #[])) (
    k false) (
    Option.bind (idx (y4).data.toList (0 : Int)) fun u5 =>
    cond (((u5.toNat : Int) == (45 : Int)) != (decide ((Int.tmod n1 (1000000000000000000 : Int)) < (0 : Int)))) (
      k false) (
      cond ((Int.tmod n1 (1000000000000000000 : Int)) != (0 : Int)) (
        Option.bind (idx (y4).data.toList (0 : Int)) fun u6 =>
        cond ((u6.toNat : Int) == (48 : Int)) (
          k false) (
          Option.bind (idx (y4).data.toList (0 : Int)) fun u7 =>
          cond ((u7.toNat : Int) == (45 : Int)) (
            cond (decide (((y4).size : Int) < (2 : Int))) (
              k false) (
              Option.bind (idx (y4).data.toList (1 : Int)) fun u8 =>
              cond ((u8.toNat : Int) == (48 : Int)) (
                k false) (
                scanDigits_q6 (Int.tmod n1 (1000000000000000000 : Int)) at2 c3 y4 k))) (
            scanDigits_q6 (Int.tmod n1 (1000000000000000000 : Int)) at2 c3 y4 k))) (
        scanDigits_q6 (Int.tmod n1 (1000000000000000000 : Int)) at2 c3 y4 k)))
def scanDigits_E (y : Bool) : PV × List PV := ((PV.bool y), [])
def scanDigits_D : List PV → Option (Bool)
  | [(PV.int .i64 n1), (PV.int .i64 at2), (PV.int .u8 c3)] => sScanDigits n1 at2 c3
  | _ => none
def scanDigits_Γ : List (Nat × Cal) := [(14, .ctr digits_C), (16, .ctr within_C), (17, .ctr sInt_C), (15, .ctr wakes02_C)]
def scanDigits_C : Ctr := ⟨[none, none, none], Bool, scanDigits_D, scanDigits_E, true, .d⟩
def scanDigits_cfg : List (Nat × LC) := [(4000010, ⟨[1, 2, 7, 85], [], [], []⟩),
  (4000009, ⟨[1, 2, 7], [], [], []⟩),
  (4000006, ⟨[0, 1, 2, 7], [], [], []⟩),
  (6000006, ⟨[6], [], [], []⟩),
  (6000010, ⟨[6], [], [], []⟩),
  (5000010, ⟨[1, 2, 7], [], [], []⟩),
  (6000009, ⟨[6], [], [], []⟩),
  (4000011, ⟨[1, 2, 7], [], [], []⟩),
  (6000011, ⟨[6], [], [], []⟩)]
def scanDigits_pat : Nat → Option SP
  | _ => none
def scanDigits_patj : Nat → Option SP
  | 10 => some ⟨sparse .undef [(1, (.val (.int .i64))), (2, (.val (.int .u8))), (7, (.val .str)), (85, (.val .bool))] 0 112, [], []⟩
  | 11 => some ⟨sparse .undef [(1, (.val (.int .i64))), (2, (.val (.int .u8))), (7, (.val .str))] 0 112, [], []⟩
  | 9 => some ⟨sparse .undef [(1, (.val (.int .i64))), (2, (.val (.int .u8))), (7, (.val .str))] 0 112, [], []⟩
  | 6 => some ⟨sparse .undef [(0, (.val (.int .i64))), (1, (.val (.int .i64))), (2, (.val (.int .u8))), (7, (.val .str))] 0 112, [], []⟩
  | _ => none
def scanDigits_J10 (n : Nat) (ls : List Leaf) (R : Type) (k : Ex → St → Option R) : Option R :=
  match ls with
  | [.int at46, .int c47, .str s48, .bool b49] => scanDigits_q10 at46 c47 s48 b49 (fun y1051 => k .ret ⟨sparse .undef [(6, (TV.val (PV.bool y1051)))] 0 112, [], []⟩)
      (fun y1052 y1053 y1054 => k .normal ⟨sparse .undef [(1, (TV.val (PV.int .i64 y1052))), (2, (TV.val (PV.int .u8 y1053))), (7, (TV.val (PV.str y1054)))] 0 112, [], []⟩)
  | _ => none
def scanDigits_J11 (n : Nat) (ls : List Leaf) (R : Type) (k : Ex → St → Option R) : Option R :=
  match ls with
  | [.int at39, .int c40, .str s41] => scanDigits_q11 at39 c40 s41 (fun y2055 => k .ret ⟨sparse .undef [(6, (TV.val (PV.bool y2055)))] 0 112, [], []⟩)
  | _ => none
def scanDigits_J9 (n : Nat) (ls : List Leaf) (R : Type) (k : Ex → St → Option R) : Option R :=
  match ls with
  | [.int at21, .int c22, .str s23] => scanDigits_q9 at21 c22 s23 (fun y3056 => k .ret ⟨sparse .undef [(6, (TV.val (PV.bool y3056)))] 0 112, [], []⟩)
  | _ => none
def scanDigits_J6 (n : Nat) (ls : List Leaf) (R : Type) (k : Ex → St → Option R) : Option R :=
  match ls with
  | [.int n12, .int at13, .int c14, .str s15] => scanDigits_q6 n12 at13 c14 s15 (fun y4057 => k .ret ⟨sparse .undef [(6, (TV.val (PV.bool y4057)))] 0 112, [], []⟩)
  | _ => none
def scanDigits_L (n key : Nat) (ls : List Leaf) (R : Type) (k : Ex → St → Option R) : Option R :=
  match key with
  | _ => none
def scanDigits_J (n key : Nat) (ls : List Leaf) (R : Type) (k : Ex → St → Option R) : Option R :=
  match key with
  | 10 => scanDigits_J10 n ls R k
  | 11 => scanDigits_J11 n ls R k
  | 9 => scanDigits_J9 n ls R k
  | 6 => scanDigits_J6 n ls R k
  | _ => none
def scanDigits_on : Code → Bool := onKeys [6, 9, 11, 10]
def scanDigits_Λ : Nat → Loops := patL (normBy scanDigits_cfg) scanDigits_pat scanDigits_L (normJ scanDigits_cfg) scanDigits_on scanDigits_patj scanDigits_J
theorem scanDigits_stepq6 (n : Nat) (n12 : Int) (at13 : Int) (c14 : Int) (s15 : ByteArray)  (R : Type) (k : Ex → St → Option R) :
    joinK T G0 (ctrOf scanDigits_Γ) (normJ scanDigits_cfg) (scanDigits_Λ n) (codeAt [1, 1, 1, 1] (bodyOf Tryd.f3)) (buildSt ⟨sparse .undef [(0, (.val (.int .i64))), (1, (.val (.int .i64))), (2, (.val (.int .u8))), (7, (.val .str))] 0 112, [], []⟩ [.int n12, .int at13, .int c14, .str s15]) R k = scanDigits_J6 n [.int n12, .int at13, .int c14, .str s15] R k := by kernel_rfl
theorem scanDigits_stepq9 (n : Nat) (at21 : Int) (c22 : Int) (s23 : ByteArray)  (R : Type) (k : Ex → St → Option R) :
    joinK T G0 (ctrOf scanDigits_Γ) (normJ scanDigits_cfg) (scanDigits_Λ n) (codeAt [1, 1, 1, 1, 1] (bodyOf Tryd.f3)) (buildSt ⟨sparse .undef [(1, (.val (.int .i64))), (2, (.val (.int .u8))), (7, (.val .str))] 0 112, [], []⟩ [.int at21, .int c22, .str s23]) R k = scanDigits_J9 n [.int at21, .int c22, .str s23] R k := by kernel_rfl
theorem scanDigits_stepq11 (n : Nat) (at39 : Int) (c40 : Int) (s41 : ByteArray)  (R : Type) (k : Ex → St → Option R) :
    joinK T G0 (ctrOf scanDigits_Γ) (normJ scanDigits_cfg) (scanDigits_Λ n) (codeAt [1, 1, 1, 1, 1, 1] (bodyOf Tryd.f3)) (buildSt ⟨sparse .undef [(1, (.val (.int .i64))), (2, (.val (.int .u8))), (7, (.val .str))] 0 112, [], []⟩ [.int at39, .int c40, .str s41]) R k = scanDigits_J11 n [.int at39, .int c40, .str s41] R k := by kernel_rfl
theorem scanDigits_stepq10 (n : Nat) (at46 : Int) (c47 : Int) (s48 : ByteArray) (b49 : Bool)  (R : Type) (k : Ex → St → Option R) :
    joinK T G0 (ctrOf scanDigits_Γ) (normJ scanDigits_cfg) (scanDigits_Λ n) (codeAt [1, 1, 1, 1, 1, 0, 1] (bodyOf Tryd.f3)) (buildSt ⟨sparse .undef [(1, (.val (.int .i64))), (2, (.val (.int .u8))), (7, (.val .str)), (85, (.val .bool))] 0 112, [], []⟩ [.int at46, .int c47, .str s48, .bool b49]) R k = scanDigits_J10 n [.int at46, .int c47, .str s48, .bool b49] R k := by kernel_rfl
theorem scanDigits_eq (n1 : Int) (at2 : Int) (c3 : Int) :
    funK T G0 (ctrOf scanDigits_Γ) (scanDigits_Λ 0) .d true [none, none, none] (funOf Tryd.f3) [(PV.int .i64 n1), (PV.int .i64 at2), (PV.int .u8 c3)] = scanDigits_b  n1 at2 c3 (fun a0 => some (scanDigits_E a0)) := by kernel_rfl
theorem scanDigits_inv {ps : List PV} {y : Bool} (h : scanDigits_D ps = some y) : ∃ (n1 : Int) (at2 : Int) (c3 : Int), ps = [(PV.int .i64 n1), (PV.int .i64 at2), (PV.int .u8 c3)] := by
  unfold scanDigits_D at h
  split at h
  · exact ⟨_, _, _, rfl⟩
  · cases h
theorem scanDigits_loops : loopsOf (bodyOf Tryd.f3) = [] := by kernel_rfl
theorem scanDigits_joins : (joinsOf (bodyOf Tryd.f3)).filter scanDigits_on = [codeAt [1, 1, 1, 1] (bodyOf Tryd.f3), codeAt [1, 1, 1, 1, 1] (bodyOf Tryd.f3), codeAt [1, 1, 1, 1, 1, 1] (bodyOf Tryd.f3), codeAt [1, 1, 1, 1, 1, 0, 1] (bodyOf Tryd.f3)] := by kernel_rfl
theorem scanDigits_holds (hΓ : HoldsAll Tryd.prog G0 scanDigits_Γ) (hok : ∀ (n1 : Int) (at2 : Int) (c3 : Int) (y : Bool), sScanDigits n1 at2 c3 = some y → ∀ (R : Type) (k : Bool → Option R), scanDigits_b  n1 at2 c3 k = k y) : Holds Tryd.prog G0 3 scanDigits_C := by
  refine fun_pat mixed tOk (ctrOf_ok hΓ) Tryd.func3 rfl rfl rfl rfl (F := funOf Tryd.f3) (normBy_ok scanDigits_cfg) (pat := scanDigits_pat) (L := scanDigits_L) (normJ_ok scanDigits_cfg) (on := scanDigits_on) (patj := scanDigits_patj) (J := scanDigits_J) (fun c hc ls R k => ?_) (fun c hc p hp m ls R k r h => ?_) (fun c hc p hp m ls R k r h => ?_) (fun ps x h => ?_)
  · rw [show (funOf Tryd.f3).code = bodyOf Tryd.f3 from rfl, scanDigits_loops] at hc
    cases hc
  · rw [show (funOf Tryd.f3).code = bodyOf Tryd.f3 from rfl, scanDigits_loops] at hc
    cases hc
  · rw [show (funOf Tryd.f3).code = bodyOf Tryd.f3 from rfl, scanDigits_joins] at hc
    simp only [List.mem_cons, List.not_mem_nil, or_false] at hc
    rcases hc with rfl | rfl | rfl | rfl
    · have hp' : p = ⟨sparse .undef [(0, (.val (.int .i64))), (1, (.val (.int .i64))), (2, (.val (.int .u8))), (7, (.val .str))] 0 112, [], []⟩ := (Option.some.inj (hp : some _ = some p)).symm
      subst hp'
      change scanDigits_J6 m ls R k = some r at h
      have h' := h
      unfold scanDigits_J6 at h'
      split at h'
      · exact (scanDigits_stepq6 m _ _ _ _ R k).trans h
      · cases h'
    · have hp' : p = ⟨sparse .undef [(1, (.val (.int .i64))), (2, (.val (.int .u8))), (7, (.val .str))] 0 112, [], []⟩ := (Option.some.inj (hp : some _ = some p)).symm
      subst hp'
      change scanDigits_J9 m ls R k = some r at h
      have h' := h
      unfold scanDigits_J9 at h'
      split at h'
      · exact (scanDigits_stepq9 m _ _ _ R k).trans h
      · cases h'
    · have hp' : p = ⟨sparse .undef [(1, (.val (.int .i64))), (2, (.val (.int .u8))), (7, (.val .str))] 0 112, [], []⟩ := (Option.some.inj (hp : some _ = some p)).symm
      subst hp'
      change scanDigits_J11 m ls R k = some r at h
      have h' := h
      unfold scanDigits_J11 at h'
      split at h'
      · exact (scanDigits_stepq11 m _ _ _ R k).trans h
      · cases h'
    · have hp' : p = ⟨sparse .undef [(1, (.val (.int .i64))), (2, (.val (.int .u8))), (7, (.val .str)), (85, (.val .bool))] 0 112, [], []⟩ := (Option.some.inj (hp : some _ = some p)).symm
      subst hp'
      change scanDigits_J10 m ls R k = some r at h
      have h' := h
      unfold scanDigits_J10 at h'
      split at h'
      · exact (scanDigits_stepq10 m _ _ _ _ R k).trans h
      · cases h'
  · obtain ⟨y, hy, hx⟩ := bind_inv h
    cases hx
    obtain ⟨n1, at2, c3, rfl⟩ := scanDigits_inv hy
    exact ⟨0, (scanDigits_eq n1 at2 c3).trans (hok n1 at2 c3 y hy _ _)⟩

/-! ## drayman/draymanlaw02.ScanForms -/
def scanForms_l2 {R : Type} : Nat → Int → Int → Int → List (List PV) → (Bool → Option R) → (Int → Option R) → Option R
  | 0, _, _, _, _, _, _ => none
  | n + 1, n15, i16, i17, es18, k0, k1 =>
    cond (decide (i17 < i16)) (
      if 0 ≤ i17 ∧ i17 < (es18.length : Int) then
        Option.bind (es18[(Int.toNat i17)]?) fun e19 =>
        Option.bind (subAgg e19 0 2) fun p20 =>
        if (PV.isAgg p20 2) = true then
          Option.bind ((PV.cells p20)[0]?) fun c21 =>
          Option.bind (PV.asS c21) fun s22 =>
          Option.bind (sInt_d s22) fun y23 =>
          cond (!y23.2) (
            meet (
              meet (
                k0 false) (
                k0 false)) (
              k0 false)) (
            Option.bind ((PV.cells p20)[1]?) fun c24 =>
            Option.bind (PV.asI .i64 c24) fun n25 =>
            cond (y23.1 != n25) (
              meet (
                meet (
                  k0 false) (
                  k0 false)) (
                k0 false)) (
              meet (
                Option.bind ((PV.cells p20)[1]?) fun c26 =>
                Option.bind (PV.asI .i64 c26) fun n27 =>
                Option.bind (digits_d n27) fun y28 =>
                Option.bind ((PV.cells p20)[0]?) fun c29 =>
                Option.bind (PV.asS c29) fun s30 =>
                cond (!(ByteArray.toList y28 == ByteArray.toList s30)) (
                  k0 false) (
                  scanForms_l2 n n15 i16 (IntKind.i64.wrap (i17 + (1 : Int))) es18 k0 k1)) (
                Option.bind ((PV.cells p20)[0]?) fun c31 =>
                Option.bind (PV.asS c31) fun s32 =>
                Option.bind ((PV.cells p20)[1]?) fun c33 =>
                Option.bind (PV.asI .i64 c33) fun n34 =>
                Option.bind (digits_d n34) fun y35 =>
                cond (!(ByteArray.toList y35 == ByteArray.toList s32)) (
                  k0 false) (
                  scanForms_l2 n n15 i16 (IntKind.i64.wrap (i17 + (1 : Int))) es18 k0 k1))))
        else none
      else none) (
      k1 n15)
def scanForms_b {R : Type} (n : Nat) (n1 : Int) (k : Bool → Option R) : Option R :=
  scanForms_l2 n n1 6 0 [[(PV.str (ByteArray.mk #[48])), (PV.int .i64 0)], [(PV.str (ByteArray.mk #[55])), (PV.int .i64 7)], [(PV.str (ByteArray.mk #[45, 49])), (PV.int .i64 (-1))], [(PV.str (ByteArray.mk #[57, 57, 57, 57, 57, 57, 57, 57, 57, 57, 57, 57, 57, 57, 57, 57, 57, 57])), (PV.int .i64 999999999999999999)], [(PV.str (ByteArray.mk #[45, 57, 57, 57, 57, 57, 57, 57, 57, 57, 57, 57, 57, 57, 57, 57, 57, 57, 57])), (PV.int .i64 (-999999999999999999))], [(PV.str (ByteArray.mk #[49, 48])), (PV.int .i64 10)]] k
    (fun (n3 : Int) =>
      Option.bind (within_d n3 16) fun y4 =>
      if 0 ≤ y4 ∧ y4 < (16 : Int) then
        Option.bind (([[(PV.str (ByteArray.mk #[]))], [(PV.str (ByteArray.mk #[45]))], [(PV.str (ByteArray.mk #[45, 48]))], [(PV.str (ByteArray.mk #[48, 48]))], [(PV.str (ByteArray.mk #[48, 49]))], [(PV.str (ByteArray.mk #[45, 48, 49]))], [(PV.str (ByteArray.mk #[43, 49]))], [(PV.str (ByteArray.mk #[49, 32]))], [(PV.str (ByteArray.mk #[32, 49]))], [(PV.str (ByteArray.mk #[49, 46, 48]))], [(PV.str (ByteArray.mk #[97]))], [(PV.str (ByteArray.mk #[49, 97]))], [(PV.str (ByteArray.mk #[49, 48, 48, 48, 48, 48, 48, 48, 48, 48, 48, 48, 48, 48, 48, 48, 48, 48, 48]))], [(PV.str (ByteArray.mk #[48, 120, 49]))], [(PV.str (ByteArray.mk #[45, 45, 49]))], [(PV.str (ByteArray.mk #[239, 188, 145]))]] : List (List PV))[(Int.toNat y4)]?) fun e5 =>
        Option.bind (e5[0]?) fun c6 =>
        Option.bind (PV.asS c6) fun s7 =>
        Option.bind (sInt_d s7) fun y8 =>
        cond (!y8.2) (
          cond (y8.1 == (0 : Int)) (
            Option.bind (digits_d (-9223372036854775808)) fun y9 =>
            cond (ByteArray.toList y9 == ByteArray.toList (ByteArray.mk #[45, 57, 50, 50, 51, 51, 55, 50, 48, 51, 54, 56, 53, 52, 55, 55, 53, 56, 48, 56])) (
              Option.bind (sWords (ByteArray.mk #[32, 32, 97, 32, 98, 9, 99, 32, 32, 100, 32])) fun y10 =>
              Option.bind (sSameS y10 [[(PV.str (ByteArray.mk #[97]))], [(PV.str (ByteArray.mk #[98, 9, 99]))], [(PV.str (ByteArray.mk #[100]))]]) fun y11 =>
              cond y11 (
                Option.bind (sWords (ByteArray.mk #[32, 32, 32])) fun y12 =>
                cond ((y12.length : Int) == (0 : Int)) (
                  Option.bind (sWords (ByteArray.mk #[])) fun y13 =>
                  cond ((y13.length : Int) == (0 : Int)) (
                    Option.bind (wakes02_d) fun y14 =>
                    k y14) (
                    k false)) (
                  k false)) (
                k false)) (
              k false)) (
            k false)) (
          k false)
      else none)
def scanForms_E (y : Bool) : PV × List PV := ((PV.bool y), [])
def scanForms_D : List PV → Option (Bool)
  | [(PV.int .i64 n1)] => sScanForms n1
  | _ => none
def scanForms_Γ : List (Nat × Cal) := [(16, .ctr within_C), (17, .ctr sInt_C), (14, .ctr digits_C), (27, .ctr wordsS_C), (26, .ctr sameS_C), (15, .ctr wakes02_C)]
def scanForms_C : Ctr := ⟨[none], Bool, scanForms_D, scanForms_E, true, .d⟩
def scanForms_cfg : List (Nat × LC) := [(2, ⟨[0, 16, 17, 18], [], [], []⟩),
  (2000002, ⟨[2], [], [], []⟩),
  (1002000, ⟨[0], [], [], []⟩)]
def scanForms_pat : Nat → Option SP
  | 2 => some ⟨sparse .undef [(0, (.val (.int .i64))), (16, (.ow 0)), (17, (.val (.int .i64))), (18, (.val (.int .i64)))] 0 85, [(.row 2)], []⟩
  | _ => none
def scanForms_patj : Nat → Option SP
  | _ => none
def scanForms_L2 (n : Nat) (ls : List Leaf) (R : Type) (k : Ex → St → Option R) : Option R :=
  match ls with
  | [.int n15, .int i16, .int i17, .rows es18] => scanForms_l2 n n15 i16 i17 es18 (fun y1036 => k .ret ⟨sparse .undef [(2, (TV.val (PV.bool y1036)))] 0 85, [], []⟩)
      (fun y1037 => k (.exit 0) ⟨sparse .undef [(0, (TV.val (PV.int .i64 y1037)))] 0 85, [], []⟩)
  | _ => none
def scanForms_L (n key : Nat) (ls : List Leaf) (R : Type) (k : Ex → St → Option R) : Option R :=
  match key with
  | 2 => scanForms_L2 n ls R k
  | _ => none
def scanForms_J (n key : Nat) (ls : List Leaf) (R : Type) (k : Ex → St → Option R) : Option R :=
  match key with
  | _ => none
def scanForms_on : Code → Bool := fun _ => false
def scanForms_Λ : Nat → Loops := patL (normBy scanForms_cfg) scanForms_pat scanForms_L (normJ scanForms_cfg) scanForms_on scanForms_patj scanForms_J
theorem scanForms_step2 (n : Nat) (n15 : Int) (i16 : Int) (i17 : Int) (es18 : List (List PV))  (R : Type) (k : Ex → St → Option R) :
    roundK T G0 (ctrOf scanForms_Γ) (normBy scanForms_cfg) (scanForms_Λ n) (codeAt [1, 0, 1, 0, 0] (bodyOf Tryd.f7)) (buildSt ⟨sparse .undef [(0, (.val (.int .i64))), (16, (.ow 0)), (17, (.val (.int .i64))), (18, (.val (.int .i64)))] 0 85, [(.row 2)], []⟩ [.int n15, .int i16, .int i17, .rows es18]) R k = scanForms_L2 (n + 1) [.int n15, .int i16, .int i17, .rows es18] R k := by kernel_rfl
theorem scanForms_eq (n : Nat) (n1 : Int) :
    funK T G0 (ctrOf scanForms_Γ) (scanForms_Λ n) .d true [none] (funOf Tryd.f7) [(PV.int .i64 n1)] = scanForms_b n  n1 (fun a0 => some (scanForms_E a0)) := by kernel_rfl
theorem scanForms_inv {ps : List PV} {y : Bool} (h : scanForms_D ps = some y) : ∃ (n1 : Int), ps = [(PV.int .i64 n1)] := by
  unfold scanForms_D at h
  split at h
  · exact ⟨_, rfl⟩
  · cases h
theorem scanForms_loops : loopsOf (bodyOf Tryd.f7) = [codeAt [1, 0, 1, 0, 0] (bodyOf Tryd.f7)] := by kernel_rfl
theorem scanForms_holds (hΓ : HoldsAll Tryd.prog G0 scanForms_Γ) (hok : ∀ (n1 : Int) (y : Bool), sScanForms n1 = some y → ∃ n, ∀ (R : Type) (k : Bool → Option R), scanForms_b n  n1 k = k y) : Holds Tryd.prog G0 7 scanForms_C := by
  refine fun_pat mixed tOk (ctrOf_ok hΓ) Tryd.func7 rfl rfl rfl rfl (F := funOf Tryd.f7) (normBy_ok scanForms_cfg) (pat := scanForms_pat) (L := scanForms_L) (normJ_ok scanForms_cfg) (on := scanForms_on) (patj := scanForms_patj) (J := scanForms_J) (fun c hc ls R k => ?_) (fun c hc p hp m ls R k r h => ?_) (fun c hc p hp m ls R k r h => ?_) (fun ps x h => ?_)
  · rw [show (funOf Tryd.f7).code = bodyOf Tryd.f7 from rfl, scanForms_loops] at hc
    simp only [List.mem_cons, List.not_mem_nil, or_false] at hc
    rcases hc with rfl
    · show scanForms_L2 0 ls R k = none
      unfold scanForms_L2
      split
      · rfl
      · rfl
  · rw [show (funOf Tryd.f7).code = bodyOf Tryd.f7 from rfl, scanForms_loops] at hc
    simp only [List.mem_cons, List.not_mem_nil, or_false] at hc
    rcases hc with rfl
    · have hp' : p = ⟨sparse .undef [(0, (.val (.int .i64))), (16, (.ow 0)), (17, (.val (.int .i64))), (18, (.val (.int .i64)))] 0 85, [(.row 2)], []⟩ := (Option.some.inj (hp : some _ = some p)).symm
      subst hp'
      change scanForms_L2 (m + 1) ls R k = some r at h
      have h' := h
      unfold scanForms_L2 at h'
      split at h'
      · exact (scanForms_step2 m _ _ _ _ R k).trans h
      · cases h'
  · cases (List.mem_filter.1 hc).2
  · obtain ⟨y, hy, hx⟩ := bind_inv h
    cases hx
    obtain ⟨n1, rfl⟩ := scanForms_inv hy
    obtain ⟨n, hn⟩ := hok n1 y hy
    exact ⟨n, (scanForms_eq n n1).trans (hn _ _)⟩

/-! ## drayman/draymanlaw02.ScanJoins -/
def scanJoins_l14 {R : Type} : Nat → ByteArray → ByteArray → Int → Int → ByteArray → Int → (ByteArray → ByteArray → Int → Int → Option R) → Option R
  | 0, _, _, _, _, _, _, _ => none
  | n + 1, s26, t27, size28, blanks29, both30, k31, k0 =>
    cond (decide (k31 < ((both30).size : Int))) (
      Option.bind (idx (both30).data.toList k31) fun u32 =>
      cond ((u32.toNat : Int) == (32 : Int)) (
        scanJoins_l14 n s26 t27 size28 (IntKind.i64.wrap (blanks29 + (1 : Int))) both30 (IntKind.i64.wrap (k31 + (1 : Int))) k0) (
        scanJoins_l14 n s26 t27 size28 blanks29 both30 (IntKind.i64.wrap (k31 + (1 : Int))) k0)) (
      k0 s26 t27 size28 blanks29)
def scanJoins_l6 {R : Type} : Nat → ByteArray → ByteArray → Int → Int → Int → List (List PV) → (Bool → Option R) → (ByteArray → ByteArray → Int → Option R) → Option R
  | 0, _, _, _, _, _, _, _, _ => none
  | n + 1, s16, t17, size18, i19, i20, es21, k0, k1 =>
    cond (decide (i20 < i19)) (
      if 0 ≤ i20 ∧ i20 < (es21.length : Int) then
        Option.bind (es21[(Int.toNat i20)]?) fun e22 =>
        Option.bind (e22[0]?) fun c23 =>
        Option.bind (PV.asS c23) fun s24 =>
        cond (ByteArray.toList s24 == ByteArray.toList (ByteArray.mk #[])) (
          k0 false) (
          Option.bind (sWords s24) fun y25 =>
          cond ((y25.length : Int) != (1 : Int)) (
            k0 false) (
            scanJoins_l6 n s16 t17 (IntKind.i64.wrap (size18 + ((s24).size : Int))) i19 (IntKind.i64.wrap (i20 + (1 : Int))) es21 k0 k1))
      else none) (
      k1 s16 t17 size18)
def scanJoins_b {R : Type} (n : Nat) (s1 : ByteArray) (t2 : ByteArray) (k : Bool → Option R) : Option R :=
  if (s1).size + ((ByteArray.mk #[32])).size ≤ 140737488355328 then
    if ((s1 ++ (ByteArray.mk #[32]))).size + (t2).size ≤ 140737488355328 then
      Option.bind (sWords ((s1 ++ (ByteArray.mk #[32])) ++ t2)) fun y3 =>
      Option.bind (sWords s1) fun y4 =>
      Option.bind (sWords t2) fun y5 =>
      if (y4.length + y5.length) * 16 ≤ maxBytes then
        Option.bind (sSameS y3 (y4 ++ y5)) fun y6 =>
        cond (!y6) (
          k false) (
          scanJoins_l6 n s1 t2 0 (y3.length : Int) 0 y3 k
            (fun (s8 : ByteArray) (t9 : ByteArray) (size10 : Int) =>
              if (s8).size + (t9).size ≤ 140737488355328 then
                scanJoins_l14 n s8 t9 size10 0 (s8 ++ t9) 0
                  (fun (s11 : ByteArray) (t12 : ByteArray) (size13 : Int) (blanks14 : Int) =>
                    cond ((IntKind.i64.wrap (size13 + blanks14)) == (IntKind.i64.wrap (((s11).size : Int) + ((t12).size : Int)))) (
                      Option.bind (wakes02_d) fun y15 =>
                      k y15) (
                      k false))
              else none))
      else none
    else none
  else none
def scanJoins_E (y : Bool) : PV × List PV := ((PV.bool y), [])
def scanJoins_D : List PV → Option (Bool)
  | [(PV.str s1), (PV.str t2)] => sScanJoins s1 t2
  | _ => none
def scanJoins_Γ : List (Nat × Cal) := [(27, .ctr wordsS_C), (26, .ctr sameS_C), (15, .ctr wakes02_C)]
def scanJoins_C : Ctr := ⟨[none, none], Bool, scanJoins_D, scanJoins_E, true, .d⟩
def scanJoins_cfg : List (Nat × LC) := [(6, ⟨[0, 1, 6, 25, 26, 27], [], [], []⟩),
  (2000006, ⟨[4], [], [], []⟩),
  (1006000, ⟨[0, 1, 6], [], [], []⟩),
  (14, ⟨[0, 1, 6, 9, 10, 11], [], [], []⟩),
  (1014002, ⟨[0, 1, 6, 9], [], [], []⟩)]
def scanJoins_pat : Nat → Option SP
  | 14 => some ⟨sparse .undef [(0, (.val .str)), (1, (.val .str)), (6, (.val (.int .i64))), (9, (.val (.int .i64))), (10, (.val .str)), (11, (.val (.int .i64)))] 0 71, [], []⟩
  | 6 => some ⟨sparse .undef [(0, (.val .str)), (1, (.val .str)), (6, (.val (.int .i64))), (25, (.ow 0)), (26, (.val (.int .i64))), (27, (.val (.int .i64)))] 0 71, [(.row 1)], []⟩
  | _ => none
def scanJoins_patj : Nat → Option SP
  | _ => none
def scanJoins_L14 (n : Nat) (ls : List Leaf) (R : Type) (k : Ex → St → Option R) : Option R :=
  match ls with
  | [.str s26, .str t27, .int size28, .int blanks29, .str both30, .int k31] => scanJoins_l14 n s26 t27 size28 blanks29 both30 k31 (fun y1033 y1034 y1035 y1036 => k (.exit 2) ⟨sparse .undef [(0, (TV.val (PV.str y1033))), (1, (TV.val (PV.str y1034))), (6, (TV.val (PV.int .i64 y1035))), (9, (TV.val (PV.int .i64 y1036)))] 0 71, [], []⟩)
  | _ => none
def scanJoins_L6 (n : Nat) (ls : List Leaf) (R : Type) (k : Ex → St → Option R) : Option R :=
  match ls with
  | [.str s16, .str t17, .int size18, .int i19, .int i20, .rows es21] => scanJoins_l6 n s16 t17 size18 i19 i20 es21 (fun y2037 => k .ret ⟨sparse .undef [(4, (TV.val (PV.bool y2037)))] 0 71, [], []⟩)
      (fun y2038 y2039 y2040 => k (.exit 0) ⟨sparse .undef [(0, (TV.val (PV.str y2038))), (1, (TV.val (PV.str y2039))), (6, (TV.val (PV.int .i64 y2040)))] 0 71, [], []⟩)
  | _ => none
def scanJoins_L (n key : Nat) (ls : List Leaf) (R : Type) (k : Ex → St → Option R) : Option R :=
  match key with
  | 14 => scanJoins_L14 n ls R k
  | 6 => scanJoins_L6 n ls R k
  | _ => none
def scanJoins_J (n key : Nat) (ls : List Leaf) (R : Type) (k : Ex → St → Option R) : Option R :=
  match key with
  | _ => none
def scanJoins_on : Code → Bool := fun _ => false
def scanJoins_Λ : Nat → Loops := patL (normBy scanJoins_cfg) scanJoins_pat scanJoins_L (normJ scanJoins_cfg) scanJoins_on scanJoins_patj scanJoins_J
theorem scanJoins_step6 (n : Nat) (s16 : ByteArray) (t17 : ByteArray) (size18 : Int) (i19 : Int) (i20 : Int) (es21 : List (List PV))  (R : Type) (k : Ex → St → Option R) :
    roundK T G0 (ctrOf scanJoins_Γ) (normBy scanJoins_cfg) (scanJoins_Λ n) (codeAt [1, 1, 1, 1, 0, 1, 0, 0] (bodyOf Tryd.f8)) (buildSt ⟨sparse .undef [(0, (.val .str)), (1, (.val .str)), (6, (.val (.int .i64))), (25, (.ow 0)), (26, (.val (.int .i64))), (27, (.val (.int .i64)))] 0 71, [(.row 1)], []⟩ [.str s16, .str t17, .int size18, .int i19, .int i20, .rows es21]) R k = scanJoins_L6 (n + 1) [.str s16, .str t17, .int size18, .int i19, .int i20, .rows es21] R k := by kernel_rfl
theorem scanJoins_step14 (n : Nat) (s26 : ByteArray) (t27 : ByteArray) (size28 : Int) (blanks29 : Int) (both30 : ByteArray) (k31 : Int)  (R : Type) (k : Ex → St → Option R) :
    roundK T G0 (ctrOf scanJoins_Γ) (normBy scanJoins_cfg) (scanJoins_Λ n) (codeAt [1, 1, 1, 1, 1, 1, 0, 1, 0, 0] (bodyOf Tryd.f8)) (buildSt ⟨sparse .undef [(0, (.val .str)), (1, (.val .str)), (6, (.val (.int .i64))), (9, (.val (.int .i64))), (10, (.val .str)), (11, (.val (.int .i64)))] 0 71, [], []⟩ [.str s26, .str t27, .int size28, .int blanks29, .str both30, .int k31]) R k = scanJoins_L14 (n + 1) [.str s26, .str t27, .int size28, .int blanks29, .str both30, .int k31] R k := by kernel_rfl
theorem scanJoins_eq (n : Nat) (s1 : ByteArray) (t2 : ByteArray) :
    funK T G0 (ctrOf scanJoins_Γ) (scanJoins_Λ n) .d true [none, none] (funOf Tryd.f8) [(PV.str s1), (PV.str t2)] = scanJoins_b n  s1 t2 (fun a0 => some (scanJoins_E a0)) := by kernel_rfl
theorem scanJoins_inv {ps : List PV} {y : Bool} (h : scanJoins_D ps = some y) : ∃ (s1 : ByteArray) (t2 : ByteArray), ps = [(PV.str s1), (PV.str t2)] := by
  unfold scanJoins_D at h
  split at h
  · exact ⟨_, _, rfl⟩
  · cases h
theorem scanJoins_loops : loopsOf (bodyOf Tryd.f8) = [codeAt [1, 1, 1, 1, 0, 1, 0, 0] (bodyOf Tryd.f8), codeAt [1, 1, 1, 1, 1, 1, 0, 1, 0, 0] (bodyOf Tryd.f8)] := by kernel_rfl
theorem scanJoins_holds (hΓ : HoldsAll Tryd.prog G0 scanJoins_Γ) (hok : ∀ (s1 : ByteArray) (t2 : ByteArray) (y : Bool), sScanJoins s1 t2 = some y → ∃ n, ∀ (R : Type) (k : Bool → Option R), scanJoins_b n  s1 t2 k = k y) : Holds Tryd.prog G0 8 scanJoins_C := by
  refine fun_pat mixed tOk (ctrOf_ok hΓ) Tryd.func8 rfl rfl rfl rfl (F := funOf Tryd.f8) (normBy_ok scanJoins_cfg) (pat := scanJoins_pat) (L := scanJoins_L) (normJ_ok scanJoins_cfg) (on := scanJoins_on) (patj := scanJoins_patj) (J := scanJoins_J) (fun c hc ls R k => ?_) (fun c hc p hp m ls R k r h => ?_) (fun c hc p hp m ls R k r h => ?_) (fun ps x h => ?_)
  · rw [show (funOf Tryd.f8).code = bodyOf Tryd.f8 from rfl, scanJoins_loops] at hc
    simp only [List.mem_cons, List.not_mem_nil, or_false] at hc
    rcases hc with rfl | rfl
    · show scanJoins_L6 0 ls R k = none
      unfold scanJoins_L6
      split
      · rfl
      · rfl
    · show scanJoins_L14 0 ls R k = none
      unfold scanJoins_L14
      split
      · rfl
      · rfl
  · rw [show (funOf Tryd.f8).code = bodyOf Tryd.f8 from rfl, scanJoins_loops] at hc
    simp only [List.mem_cons, List.not_mem_nil, or_false] at hc
    rcases hc with rfl | rfl
    · have hp' : p = ⟨sparse .undef [(0, (.val .str)), (1, (.val .str)), (6, (.val (.int .i64))), (25, (.ow 0)), (26, (.val (.int .i64))), (27, (.val (.int .i64)))] 0 71, [(.row 1)], []⟩ := (Option.some.inj (hp : some _ = some p)).symm
      subst hp'
      change scanJoins_L6 (m + 1) ls R k = some r at h
      have h' := h
      unfold scanJoins_L6 at h'
      split at h'
      · exact (scanJoins_step6 m _ _ _ _ _ _ R k).trans h
      · cases h'
    · have hp' : p = ⟨sparse .undef [(0, (.val .str)), (1, (.val .str)), (6, (.val (.int .i64))), (9, (.val (.int .i64))), (10, (.val .str)), (11, (.val (.int .i64)))] 0 71, [], []⟩ := (Option.some.inj (hp : some _ = some p)).symm
      subst hp'
      change scanJoins_L14 (m + 1) ls R k = some r at h
      have h' := h
      unfold scanJoins_L14 at h'
      split at h'
      · exact (scanJoins_step14 m _ _ _ _ _ _ R k).trans h
      · cases h'
  · cases (List.mem_filter.1 hc).2
  · obtain ⟨y, hy, hx⟩ := bind_inv h
    cases hx
    obtain ⟨s1, t2, rfl⟩ := scanJoins_inv hy
    obtain ⟨n, hn⟩ := hok s1 t2 y hy
    exact ⟨n, (scanJoins_eq n s1 t2).trans (hn _ _)⟩

/-! ## drayman/draymanlaw02.ScanTells -/
def scanTells_l2 {R : Type} : Nat → Int → Int → Int → List (List PV) → (Bool → Option R) → (Int → Option R) → Option R
  | 0, _, _, _, _, _, _ => none
  | n + 1, n9, i10, i11, es12, k0, k1 =>
    cond (decide (i11 < i10)) (
      if 0 ≤ i11 ∧ i11 < (es12.length : Int) then
        Option.bind (es12[(Int.toNat i11)]?) fun e13 =>
        Option.bind (e13[0]?) fun c14 =>
        Option.bind (PV.asS c14) fun s15 =>
        Option.bind (sInt_d s15) fun y16 =>
        Option.bind (sRInt s15) fun y17 =>
        cond (y16.1 != y17.1) (
          k0 false) (
          cond (y16.2 != y17.2) (
            k0 false) (
            Option.bind (sWords s15) fun y18 =>
            Option.bind (sRWords s15) fun y19 =>
            Option.bind (sSameS y18 y19) fun y20 =>
            cond (!y20) (
              k0 false) (
              scanTells_l2 n n9 i10 (IntKind.i64.wrap (i11 + (1 : Int))) es12 k0 k1)))
      else none) (
      k1 n9)
def scanTells_b {R : Type} (n : Nat) (s1 : ByteArray) (n2 : Int) (k : Bool → Option R) : Option R :=
  Option.bind (sRDigits n2) fun y3 =>
  if ((ByteArray.mk #[45])).size + (s1).size ≤ 140737488355328 then
    if (s1).size + ((ByteArray.mk #[48])).size ≤ 140737488355328 then
      scanTells_l2 n n2 4 0 [[(PV.str s1)], [(PV.str y3)], [(PV.str ((ByteArray.mk #[45]) ++ s1))], [(PV.str (s1 ++ (ByteArray.mk #[48])))]] k
        (fun (n5 : Int) =>
          Option.bind (digits_d n5) fun y6 =>
          Option.bind (sRDigits n5) fun y7 =>
          cond (ByteArray.toList y6 == ByteArray.toList y7) (
            Option.bind (wakes02_d) fun y8 =>
            k y8) (
            k false))
    else none
  else none
def scanTells_E (y : Bool) : PV × List PV := ((PV.bool y), [])
def scanTells_D : List PV → Option (Bool)
  | [(PV.str s1), (PV.int .i64 n2)] => sScanTells s1 n2
  | _ => none
def scanTells_Γ : List (Nat × Cal) := [(28, .ctr rDigits_C), (14, .ctr digits_C), (15, .ctr wakes02_C), (17, .ctr sInt_C), (29, .ctr rInt_C), (27, .ctr wordsS_C), (30, .ctr rWords_C), (26, .ctr sameS_C)]
def scanTells_C : Ctr := ⟨[none, none], Bool, scanTells_D, scanTells_E, true, .d⟩
def scanTells_cfg : List (Nat × LC) := [(2, ⟨[1, 18, 19, 20], [], [], []⟩),
  (2000002, ⟨[4], [], [], []⟩),
  (1002000, ⟨[1], [], [], []⟩)]
def scanTells_pat : Nat → Option SP
  | 2 => some ⟨sparse .undef [(1, (.val (.int .i64))), (18, (.ow 0)), (19, (.val (.int .i64))), (20, (.val (.int .i64)))] 0 59, [(.row 1)], []⟩
  | _ => none
def scanTells_patj : Nat → Option SP
  | _ => none
def scanTells_L2 (n : Nat) (ls : List Leaf) (R : Type) (k : Ex → St → Option R) : Option R :=
  match ls with
  | [.int n9, .int i10, .int i11, .rows es12] => scanTells_l2 n n9 i10 i11 es12 (fun y1021 => k .ret ⟨sparse .undef [(4, (TV.val (PV.bool y1021)))] 0 59, [], []⟩)
      (fun y1022 => k (.exit 0) ⟨sparse .undef [(1, (TV.val (PV.int .i64 y1022)))] 0 59, [], []⟩)
  | _ => none
def scanTells_L (n key : Nat) (ls : List Leaf) (R : Type) (k : Ex → St → Option R) : Option R :=
  match key with
  | 2 => scanTells_L2 n ls R k
  | _ => none
def scanTells_J (n key : Nat) (ls : List Leaf) (R : Type) (k : Ex → St → Option R) : Option R :=
  match key with
  | _ => none
def scanTells_on : Code → Bool := fun _ => false
def scanTells_Λ : Nat → Loops := patL (normBy scanTells_cfg) scanTells_pat scanTells_L (normJ scanTells_cfg) scanTells_on scanTells_patj scanTells_J
theorem scanTells_step2 (n : Nat) (n9 : Int) (i10 : Int) (i11 : Int) (es12 : List (List PV))  (R : Type) (k : Ex → St → Option R) :
    roundK T G0 (ctrOf scanTells_Γ) (normBy scanTells_cfg) (scanTells_Λ n) (codeAt [1, 0, 1, 0, 0] (bodyOf Tryd.f9)) (buildSt ⟨sparse .undef [(1, (.val (.int .i64))), (18, (.ow 0)), (19, (.val (.int .i64))), (20, (.val (.int .i64)))] 0 59, [(.row 1)], []⟩ [.int n9, .int i10, .int i11, .rows es12]) R k = scanTells_L2 (n + 1) [.int n9, .int i10, .int i11, .rows es12] R k := by kernel_rfl
theorem scanTells_eq (n : Nat) (s1 : ByteArray) (n2 : Int) :
    funK T G0 (ctrOf scanTells_Γ) (scanTells_Λ n) .d true [none, none] (funOf Tryd.f9) [(PV.str s1), (PV.int .i64 n2)] = scanTells_b n  s1 n2 (fun a0 => some (scanTells_E a0)) := by kernel_rfl
theorem scanTells_inv {ps : List PV} {y : Bool} (h : scanTells_D ps = some y) : ∃ (s1 : ByteArray) (n2 : Int), ps = [(PV.str s1), (PV.int .i64 n2)] := by
  unfold scanTells_D at h
  split at h
  · exact ⟨_, _, rfl⟩
  · cases h
theorem scanTells_loops : loopsOf (bodyOf Tryd.f9) = [codeAt [1, 0, 1, 0, 0] (bodyOf Tryd.f9)] := by kernel_rfl
theorem scanTells_holds (hΓ : HoldsAll Tryd.prog G0 scanTells_Γ) (hok : ∀ (s1 : ByteArray) (n2 : Int) (y : Bool), sScanTells s1 n2 = some y → ∃ n, ∀ (R : Type) (k : Bool → Option R), scanTells_b n  s1 n2 k = k y) : Holds Tryd.prog G0 9 scanTells_C := by
  refine fun_pat mixed tOk (ctrOf_ok hΓ) Tryd.func9 rfl rfl rfl rfl (F := funOf Tryd.f9) (normBy_ok scanTells_cfg) (pat := scanTells_pat) (L := scanTells_L) (normJ_ok scanTells_cfg) (on := scanTells_on) (patj := scanTells_patj) (J := scanTells_J) (fun c hc ls R k => ?_) (fun c hc p hp m ls R k r h => ?_) (fun c hc p hp m ls R k r h => ?_) (fun ps x h => ?_)
  · rw [show (funOf Tryd.f9).code = bodyOf Tryd.f9 from rfl, scanTells_loops] at hc
    simp only [List.mem_cons, List.not_mem_nil, or_false] at hc
    rcases hc with rfl
    · show scanTells_L2 0 ls R k = none
      unfold scanTells_L2
      split
      · rfl
      · rfl
  · rw [show (funOf Tryd.f9).code = bodyOf Tryd.f9 from rfl, scanTells_loops] at hc
    simp only [List.mem_cons, List.not_mem_nil, or_false] at hc
    rcases hc with rfl
    · have hp' : p = ⟨sparse .undef [(1, (.val (.int .i64))), (18, (.ow 0)), (19, (.val (.int .i64))), (20, (.val (.int .i64)))] 0 59, [(.row 1)], []⟩ := (Option.some.inj (hp : some _ = some p)).symm
      subst hp'
      change scanTells_L2 (m + 1) ls R k = some r at h
      have h' := h
      unfold scanTells_L2 at h'
      split at h'
      · exact (scanTells_step2 m _ _ _ _ R k).trans h
      · cases h'
  · cases (List.mem_filter.1 hc).2
  · obtain ⟨y, hy, hx⟩ := bind_inv h
    cases hx
    obtain ⟨s1, n2, rfl⟩ := scanTells_inv hy
    obtain ⟨n, hn⟩ := hok s1 n2 y hy
    exact ⟨n, (scanTells_eq n s1 n2).trans (hn _ _)⟩

/-! ## drayman/draymanlaw02.ScanBack -/
def scanBack_l13 {R : Type} : Nat → List (List PV) → Int → ByteArray → Int → Int → List (List PV) → (List (List PV) → Int → ByteArray → Int → List (List PV) → Option R) → Option R
  | 0, _, _, _, _, _, _, _ => none
  | n + 1, l27, k28, t29, i30, j31, es32, k0 =>
    Option.bind (within_d k28 3) fun y33 =>
    cond (decide (j31 < (Int.tmod (IntKind.i64.wrap (y33 + i30)) (3 : Int)))) (
      if (t29).size + ((ByteArray.mk #[32])).size ≤ 140737488355328 then
        scanBack_l13 n l27 k28 (t29 ++ (ByteArray.mk #[32])) i30 (IntKind.i64.wrap (j31 + (1 : Int))) es32 k0
      else none) (
      k0 l27 k28 t29 i30 es32)
def scanBack_l17 {R : Type} : Nat → List (List PV) → Int → ByteArray → Int → Int → Int → List (List PV) → List (List PV) → (List (List PV) → Int → ByteArray → Int → List (List PV) → Option R) → Option R
  | 0, _, _, _, _, _, _, _, _, _ => none
  | n + 1, l34, k35, t36, i37, i38, i39, es40, es41, k0 =>
    cond (decide (i39 < i38)) (
      if 0 ≤ i39 ∧ i39 < (es41.length : Int) then
        Option.bind (es41[(Int.toNat i39)]?) fun e42 =>
        Option.bind (e42[0]?) fun c43 =>
        Option.bind (PV.asS c43) fun s44 =>
        if (s44).size + ((ByteArray.mk #[32])).size ≤ 140737488355328 then
          if (t36).size + ((s44 ++ (ByteArray.mk #[32]))).size ≤ 140737488355328 then
            if (es40.length + ([[(PV.str s44)]] : List (List PV)).length) * 16 ≤ maxBytes then
              scanBack_l17 n l34 k35 (t36 ++ (s44 ++ (ByteArray.mk #[32]))) i37 i38 (IntKind.i64.wrap (i39 + (1 : Int))) (es40 ++ [[(PV.str s44)]]) es41 k0
            else none
          else none
        else none
      else none) (
      k0 l34 k35 t36 i37 es40)
def scanBack_l9 {R : Type} : Nat → List (List PV) → Int → ByteArray → Int → List (List PV) → (ByteArray → List (List PV) → Option R) → Option R
  | 0, _, _, _, _, _, _ => none
  | n + 1, l8, k9, t10, i11, es12, k0 =>
    cond (decide (i11 < (l8.length : Int))) (
      cond (decide (i11 < (9 : Int))) (
        if (t10).size + ((ByteArray.mk #[32])).size ≤ 140737488355328 then
          scanBack_l13 n l8 k9 (t10 ++ (ByteArray.mk #[32])) i11 0 es12
            (fun (l13 : List (List PV)) (k14 : Int) (t15 : ByteArray) (i16 : Int) (es17 : List (List PV)) =>
              Option.bind (idx l13 i16) fun e18 =>
              if e18.length = 1 then
                Option.bind (e18[0]?) fun c19 =>
                Option.bind (PV.asS c19) fun s20 =>
                Option.bind (sRWords s20) fun y21 =>
                scanBack_l17 n l13 k14 t15 i16 (y21.length : Int) 0 es17 y21
                  (fun (l22 : List (List PV)) (k23 : Int) (t24 : ByteArray) (i25 : Int) (es26 : List (List PV)) =>
                    scanBack_l9 n l22 k23 t24 (IntKind.i64.wrap (i25 + (1 : Int))) es26 k0)
              else none)
        else none) (
        k0 t10 es12)) (
      k0 t10 es12)
def scanBack_q7 {R : Type} (n : Nat) (l55 : List (List PV)) (k56 : Int) (k0 : Bool → Option R) : Option R :=
  scanBack_l9 n l55 k56 (ByteArray.mk #[]) 0 []
    (fun (t57 : ByteArray) (es58 : List (List PV)) =>
      Option.bind (sWords t57) fun y59 =>
      Option.bind (sSameS y59 es58) fun y60 =>
      cond y60 (
        Option.bind (wakes02_d) fun y61 =>
        k0 y61) (
        k0 false))
def scanBack_q5 {R : Type} (n : Nat) (n45 : Int) (l46 : List (List PV)) (k47 : Int) (m48 : Int) (ok49 : Bool) (small50 : Bool) (k0 : Bool → Option R) : Option R :=
  cond (ok49 != small50) (
    k0 false) (
    cond ok49 (
      cond (m48 != n45) (
        k0 false) (
        cond (!ok49) (
          cond (m48 != (0 : Int)) (
            k0 false) (
            scanBack_q7 n l46 k47 k0)) (
          scanBack_q7 n l46 k47 k0))) (
      cond (!ok49) (
        cond (m48 != (0 : Int)) (
          k0 false) (
          scanBack_q7 n l46 k47 k0)) (
        scanBack_q7 n l46 k47 k0)))
def scanBack_b {R : Type} (n : Nat) (n1 : Int) (l2 : List (List PV)) (k3 : Int) (k : Bool → Option R) : Option R :=
  Option.bind (digits_d n1) fun y4 =>
  Option.bind (sInt_d y4) fun y5 =>
  cond (decide (n1 > (-1000000000000000000 : Int))) (
    scanBack_q5 n n1 l2 k3 y5.1 y5.2 (decide (n1 < (1000000000000000000 : Int))) k) (
    scanBack_q5 n n1 l2 k3 y5.1 y5.2 false k)
def scanBack_E (y : Bool) : PV × List PV := ((PV.bool y), [])
def scanBack_D : List PV → Option (Bool)
  | [(PV.int .i64 n1), (PV.fs l2), (PV.int .i64 k3)] => sScanBack n1 l2 k3
  | _ => none
def scanBack_Γ : List (Nat × Cal) := [(14, .ctr digits_C), (17, .ctr sInt_C), (30, .ctr rWords_C), (16, .ctr within_C), (27, .ctr wordsS_C), (26, .ctr sameS_C), (15, .ctr wakes02_C)]
def scanBack_C : Ctr := ⟨[none, none, none], Bool, scanBack_D, scanBack_E, true, .d⟩
def scanBack_cfg : List (Nat × LC) := [(9, ⟨[1, 2, 11, 12, 13], [12], [], []⟩),
  (4000007, ⟨[1, 2], [], [], []⟩),
  (4000005, ⟨[0, 1, 2, 8, 9, 10], [], [], []⟩),
  (6000005, ⟨[6], [], [], []⟩),
  (13, ⟨[1, 2, 11, 12, 13, 14], [], [], []⟩),
  (1009000, ⟨[11, 12], [], [], []⟩),
  (1013002, ⟨[1, 2, 11, 12, 13], [], [], []⟩),
  (6000007, ⟨[6], [], [], []⟩),
  (17, ⟨[1, 2, 11, 12, 13, 76, 77, 78], [12], [], []⟩),
  (1017004, ⟨[1, 2, 11, 12, 13], [], [], []⟩)]
def scanBack_pat : Nat → Option SP
  | 13 => some ⟨sparse .undef [(1, (.val .fs)), (2, (.val (.int .i64))), (11, (.val .str)), (12, (.ow 0)), (13, (.val (.int .i64))), (14, (.val (.int .i64)))] 0 98, [(.row 1)], []⟩
  | 17 => some ⟨sparse .undef [(1, (.val .fs)), (2, (.val (.int .i64))), (11, (.val .str)), (12, (.ow 0)), (13, (.val (.int .i64))), (76, (.ow 1)), (77, (.val (.int .i64))), (78, (.val (.int .i64)))] 0 98, [(.row 1), (.row 1)], []⟩
  | 9 => some ⟨sparse .undef [(1, (.val .fs)), (2, (.val (.int .i64))), (11, (.val .str)), (12, (.ow 0)), (13, (.val (.int .i64)))] 0 98, [(.row 1)], []⟩
  | _ => none
def scanBack_patj : Nat → Option SP
  | 7 => some ⟨sparse .undef [(1, (.val .fs)), (2, (.val (.int .i64)))] 0 98, [], []⟩
  | 5 => some ⟨sparse .undef [(0, (.val (.int .i64))), (1, (.val .fs)), (2, (.val (.int .i64))), (8, (.val (.int .i64))), (9, (.val .bool)), (10, (.val .bool))] 0 98, [], []⟩
  | _ => none
def scanBack_L13 (n : Nat) (ls : List Leaf) (R : Type) (k : Ex → St → Option R) : Option R :=
  match ls with
  | [.rows l27, .int k28, .str t29, .int i30, .int j31, .rows es32] => scanBack_l13 n l27 k28 t29 i30 j31 es32 (fun y1062 y1063 y1064 y1065 y1066 => k (.exit 2) ⟨sparse .undef [(1, (TV.val (PV.fs y1062))), (2, (TV.val (PV.int .i64 y1063))), (11, (TV.val (PV.str y1064))), (12, (TV.ow 0)), (13, (TV.val (PV.int .i64 y1065)))] 0 98, [(Ob.row y1066 1)], []⟩)
  | _ => none
def scanBack_L17 (n : Nat) (ls : List Leaf) (R : Type) (k : Ex → St → Option R) : Option R :=
  match ls with
  | [.rows l34, .int k35, .str t36, .int i37, .int i38, .int i39, .rows es40, .rows es41] => scanBack_l17 n l34 k35 t36 i37 i38 i39 es40 es41 (fun y2067 y2068 y2069 y2070 y2071 => k (.exit 4) ⟨sparse .undef [(1, (TV.val (PV.fs y2067))), (2, (TV.val (PV.int .i64 y2068))), (11, (TV.val (PV.str y2069))), (12, (TV.ow 0)), (13, (TV.val (PV.int .i64 y2070)))] 0 98, [(Ob.row y2071 1)], []⟩)
  | _ => none
def scanBack_L9 (n : Nat) (ls : List Leaf) (R : Type) (k : Ex → St → Option R) : Option R :=
  match ls with
  | [.rows l8, .int k9, .str t10, .int i11, .rows es12] => scanBack_l9 n l8 k9 t10 i11 es12 (fun y3072 y3073 => k (.exit 0) ⟨sparse .undef [(11, (TV.val (PV.str y3072))), (12, (TV.ow 0))] 0 98, [(Ob.row y3073 1)], []⟩)
  | _ => none
def scanBack_J7 (n : Nat) (ls : List Leaf) (R : Type) (k : Ex → St → Option R) : Option R :=
  match ls with
  | [.rows l55, .int k56] => scanBack_q7 n l55 k56 (fun y4074 => k .ret ⟨sparse .undef [(6, (TV.val (PV.bool y4074)))] 0 98, [], []⟩)
  | _ => none
def scanBack_J5 (n : Nat) (ls : List Leaf) (R : Type) (k : Ex → St → Option R) : Option R :=
  match ls with
  | [.int n45, .rows l46, .int k47, .int m48, .bool ok49, .bool small50] => scanBack_q5 n n45 l46 k47 m48 ok49 small50 (fun y5075 => k .ret ⟨sparse .undef [(6, (TV.val (PV.bool y5075)))] 0 98, [], []⟩)
  | _ => none
def scanBack_L (n key : Nat) (ls : List Leaf) (R : Type) (k : Ex → St → Option R) : Option R :=
  match key with
  | 13 => scanBack_L13 n ls R k
  | 17 => scanBack_L17 n ls R k
  | 9 => scanBack_L9 n ls R k
  | _ => none
def scanBack_J (n key : Nat) (ls : List Leaf) (R : Type) (k : Ex → St → Option R) : Option R :=
  match key with
  | 7 => scanBack_J7 n ls R k
  | 5 => scanBack_J5 n ls R k
  | _ => none
def scanBack_on : Code → Bool := onKeys [5, 7]
def scanBack_Λ : Nat → Loops := patL (normBy scanBack_cfg) scanBack_pat scanBack_L (normJ scanBack_cfg) scanBack_on scanBack_patj scanBack_J
theorem scanBack_step9 (n : Nat) (l8 : List (List PV)) (k9 : Int) (t10 : ByteArray) (i11 : Int) (es12 : List (List PV))  (R : Type) (k : Ex → St → Option R) :
    roundK T G0 (ctrOf scanBack_Γ) (normBy scanBack_cfg) (scanBack_Λ n) (codeAt [1, 1, 1, 1, 1, 1, 1, 0, 1, 0, 0] (bodyOf Tryd.f10)) (buildSt ⟨sparse .undef [(1, (.val .fs)), (2, (.val (.int .i64))), (11, (.val .str)), (12, (.ow 0)), (13, (.val (.int .i64)))] 0 98, [(.row 1)], []⟩ [.rows l8, .int k9, .str t10, .int i11, .rows es12]) R k = scanBack_L9 (n + 1) [.rows l8, .int k9, .str t10, .int i11, .rows es12] R k := by kernel_rfl
theorem scanBack_step13 (n : Nat) (l27 : List (List PV)) (k28 : Int) (t29 : ByteArray) (i30 : Int) (j31 : Int) (es32 : List (List PV))  (R : Type) (k : Ex → St → Option R) :
    roundK T G0 (ctrOf scanBack_Γ) (normBy scanBack_cfg) (scanBack_Λ n) (codeAt [1, 1, 1, 1, 1, 1, 1, 0, 1, 0, 0, 1, 0, 0, 1, 0, 1, 0, 0] (bodyOf Tryd.f10)) (buildSt ⟨sparse .undef [(1, (.val .fs)), (2, (.val (.int .i64))), (11, (.val .str)), (12, (.ow 0)), (13, (.val (.int .i64))), (14, (.val (.int .i64)))] 0 98, [(.row 1)], []⟩ [.rows l27, .int k28, .str t29, .int i30, .int j31, .rows es32]) R k = scanBack_L13 (n + 1) [.rows l27, .int k28, .str t29, .int i30, .int j31, .rows es32] R k := by kernel_rfl
theorem scanBack_step17 (n : Nat) (l34 : List (List PV)) (k35 : Int) (t36 : ByteArray) (i37 : Int) (i38 : Int) (i39 : Int) (es40 : List (List PV)) (es41 : List (List PV))  (R : Type) (k : Ex → St → Option R) :
    roundK T G0 (ctrOf scanBack_Γ) (normBy scanBack_cfg) (scanBack_Λ n) (codeAt [1, 1, 1, 1, 1, 1, 1, 0, 1, 0, 0, 1, 0, 0, 1, 1, 1, 0, 0] (bodyOf Tryd.f10)) (buildSt ⟨sparse .undef [(1, (.val .fs)), (2, (.val (.int .i64))), (11, (.val .str)), (12, (.ow 0)), (13, (.val (.int .i64))), (76, (.ow 1)), (77, (.val (.int .i64))), (78, (.val (.int .i64)))] 0 98, [(.row 1), (.row 1)], []⟩ [.rows l34, .int k35, .str t36, .int i37, .int i38, .int i39, .rows es40, .rows es41]) R k = scanBack_L17 (n + 1) [.rows l34, .int k35, .str t36, .int i37, .int i38, .int i39, .rows es40, .rows es41] R k := by kernel_rfl
theorem scanBack_stepq5 (n : Nat) (n45 : Int) (l46 : List (List PV)) (k47 : Int) (m48 : Int) (ok49 : Bool) (small50 : Bool)  (R : Type) (k : Ex → St → Option R) :
    joinK T G0 (ctrOf scanBack_Γ) (normJ scanBack_cfg) (scanBack_Λ n) (codeAt [1, 1, 1, 1] (bodyOf Tryd.f10)) (buildSt ⟨sparse .undef [(0, (.val (.int .i64))), (1, (.val .fs)), (2, (.val (.int .i64))), (8, (.val (.int .i64))), (9, (.val .bool)), (10, (.val .bool))] 0 98, [], []⟩ [.int n45, .rows l46, .int k47, .int m48, .bool ok49, .bool small50]) R k = scanBack_J5 n [.int n45, .rows l46, .int k47, .int m48, .bool ok49, .bool small50] R k := by kernel_rfl
theorem scanBack_stepq7 (n : Nat) (l55 : List (List PV)) (k56 : Int)  (R : Type) (k : Ex → St → Option R) :
    joinK T G0 (ctrOf scanBack_Γ) (normJ scanBack_cfg) (scanBack_Λ n) (codeAt [1, 1, 1, 1, 1] (bodyOf Tryd.f10)) (buildSt ⟨sparse .undef [(1, (.val .fs)), (2, (.val (.int .i64)))] 0 98, [], []⟩ [.rows l55, .int k56]) R k = scanBack_J7 n [.rows l55, .int k56] R k := by kernel_rfl
theorem scanBack_eq (n : Nat) (n1 : Int) (l2 : List (List PV)) (k3 : Int) :
    funK T G0 (ctrOf scanBack_Γ) (scanBack_Λ n) .d true [none, none, none] (funOf Tryd.f10) [(PV.int .i64 n1), (PV.fs l2), (PV.int .i64 k3)] = scanBack_b n  n1 l2 k3 (fun a0 => some (scanBack_E a0)) := by kernel_rfl
theorem scanBack_inv {ps : List PV} {y : Bool} (h : scanBack_D ps = some y) : ∃ (n1 : Int) (l2 : List (List PV)) (k3 : Int), ps = [(PV.int .i64 n1), (PV.fs l2), (PV.int .i64 k3)] := by
  unfold scanBack_D at h
  split at h
  · exact ⟨_, _, _, rfl⟩
  · cases h
theorem scanBack_loops : loopsOf (bodyOf Tryd.f10) = [codeAt [1, 1, 1, 1, 1, 1, 1, 0, 1, 0, 0] (bodyOf Tryd.f10), codeAt [1, 1, 1, 1, 1, 1, 1, 0, 1, 0, 0, 1, 0, 0, 1, 0, 1, 0, 0] (bodyOf Tryd.f10), codeAt [1, 1, 1, 1, 1, 1, 1, 0, 1, 0, 0, 1, 0, 0, 1, 1, 1, 0, 0] (bodyOf Tryd.f10)] := by kernel_rfl
theorem scanBack_joins : (joinsOf (bodyOf Tryd.f10)).filter scanBack_on = [codeAt [1, 1, 1, 1] (bodyOf Tryd.f10), codeAt [1, 1, 1, 1, 1] (bodyOf Tryd.f10)] := by kernel_rfl
theorem scanBack_holds (hΓ : HoldsAll Tryd.prog G0 scanBack_Γ) (hok : ∀ (n1 : Int) (l2 : List (List PV)) (k3 : Int) (y : Bool), sScanBack n1 l2 k3 = some y → ∃ n, ∀ (R : Type) (k : Bool → Option R), scanBack_b n  n1 l2 k3 k = k y) : Holds Tryd.prog G0 10 scanBack_C := by
  refine fun_pat mixed tOk (ctrOf_ok hΓ) Tryd.func10 rfl rfl rfl rfl (F := funOf Tryd.f10) (normBy_ok scanBack_cfg) (pat := scanBack_pat) (L := scanBack_L) (normJ_ok scanBack_cfg) (on := scanBack_on) (patj := scanBack_patj) (J := scanBack_J) (fun c hc ls R k => ?_) (fun c hc p hp m ls R k r h => ?_) (fun c hc p hp m ls R k r h => ?_) (fun ps x h => ?_)
  · rw [show (funOf Tryd.f10).code = bodyOf Tryd.f10 from rfl, scanBack_loops] at hc
    simp only [List.mem_cons, List.not_mem_nil, or_false] at hc
    rcases hc with rfl | rfl | rfl
    · show scanBack_L9 0 ls R k = none
      unfold scanBack_L9
      split
      · rfl
      · rfl
    · show scanBack_L13 0 ls R k = none
      unfold scanBack_L13
      split
      · rfl
      · rfl
    · show scanBack_L17 0 ls R k = none
      unfold scanBack_L17
      split
      · rfl
      · rfl
  · rw [show (funOf Tryd.f10).code = bodyOf Tryd.f10 from rfl, scanBack_loops] at hc
    simp only [List.mem_cons, List.not_mem_nil, or_false] at hc
    rcases hc with rfl | rfl | rfl
    · have hp' : p = ⟨sparse .undef [(1, (.val .fs)), (2, (.val (.int .i64))), (11, (.val .str)), (12, (.ow 0)), (13, (.val (.int .i64)))] 0 98, [(.row 1)], []⟩ := (Option.some.inj (hp : some _ = some p)).symm
      subst hp'
      change scanBack_L9 (m + 1) ls R k = some r at h
      have h' := h
      unfold scanBack_L9 at h'
      split at h'
      · exact (scanBack_step9 m _ _ _ _ _ R k).trans h
      · cases h'
    · have hp' : p = ⟨sparse .undef [(1, (.val .fs)), (2, (.val (.int .i64))), (11, (.val .str)), (12, (.ow 0)), (13, (.val (.int .i64))), (14, (.val (.int .i64)))] 0 98, [(.row 1)], []⟩ := (Option.some.inj (hp : some _ = some p)).symm
      subst hp'
      change scanBack_L13 (m + 1) ls R k = some r at h
      have h' := h
      unfold scanBack_L13 at h'
      split at h'
      · exact (scanBack_step13 m _ _ _ _ _ _ R k).trans h
      · cases h'
    · have hp' : p = ⟨sparse .undef [(1, (.val .fs)), (2, (.val (.int .i64))), (11, (.val .str)), (12, (.ow 0)), (13, (.val (.int .i64))), (76, (.ow 1)), (77, (.val (.int .i64))), (78, (.val (.int .i64)))] 0 98, [(.row 1), (.row 1)], []⟩ := (Option.some.inj (hp : some _ = some p)).symm
      subst hp'
      change scanBack_L17 (m + 1) ls R k = some r at h
      have h' := h
      unfold scanBack_L17 at h'
      split at h'
      · exact (scanBack_step17 m _ _ _ _ _ _ _ _ R k).trans h
      · cases h'
  · rw [show (funOf Tryd.f10).code = bodyOf Tryd.f10 from rfl, scanBack_joins] at hc
    simp only [List.mem_cons, List.not_mem_nil, or_false] at hc
    rcases hc with rfl | rfl
    · have hp' : p = ⟨sparse .undef [(0, (.val (.int .i64))), (1, (.val .fs)), (2, (.val (.int .i64))), (8, (.val (.int .i64))), (9, (.val .bool)), (10, (.val .bool))] 0 98, [], []⟩ := (Option.some.inj (hp : some _ = some p)).symm
      subst hp'
      change scanBack_J5 m ls R k = some r at h
      have h' := h
      unfold scanBack_J5 at h'
      split at h'
      · exact (scanBack_stepq5 m _ _ _ _ _ _ R k).trans h
      · cases h'
    · have hp' : p = ⟨sparse .undef [(1, (.val .fs)), (2, (.val (.int .i64)))] 0 98, [], []⟩ := (Option.some.inj (hp : some _ = some p)).symm
      subst hp'
      change scanBack_J7 m ls R k = some r at h
      have h' := h
      unfold scanBack_J7 at h'
      split at h'
      · exact (scanBack_stepq7 m _ _ R k).trans h
      · cases h'
  · obtain ⟨y, hy, hx⟩ := bind_inv h
    cases hx
    obtain ⟨n1, l2, k3, rfl⟩ := scanBack_inv hy
    obtain ⟨n, hn⟩ := hok n1 l2 k3 y hy
    exact ⟨n, (scanBack_eq n n1 l2 k3).trans (hn _ _)⟩

end
end Go.Proofs.YtkeklbicmfhemaaDoorV
