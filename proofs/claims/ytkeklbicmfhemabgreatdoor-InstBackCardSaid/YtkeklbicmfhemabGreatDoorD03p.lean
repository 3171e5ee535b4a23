/- What the functions of the program come to, as the reading machine has it: printed by dec.py. -/
import Derived.Test.YtkeklbicmfhemabGreatDoorVTab
import Derived.Test.YtkeklbicmfhemabGreatDoorD03
namespace Go.Proofs.YtkeklbicmfhemabGreatDoorV
open Go
set_option maxRecDepth 100000
set_option linter.unusedVariables false
set_option linter.unusedSimpArgs false
noncomputable section
/-! ## drayman/inst.line -/
def iLine_l2 {R : Type} : Nat → ByteArray → List (List PV) → Int → Int → (ByteArray → Option R) → Option R
  | 0, _, _, _, _, _ => none
  | n + 1, word4, es5, i6, i7, k0 =>
    cond (decide (i7 < i6)) (
      Option.bind (idx es5 i7) fun e8 =>
      if e8.length = 1 then
        Option.bind (e8[0]?) fun c9 =>
        Option.bind (PV.asI .i64 c9) fun n10 =>
        if (word4).size + ((ByteArray.mk #[32])).size ≤ 140737488355328 then
          Option.bind (digits_d n10) fun y11 =>
          if ((word4 ++ (ByteArray.mk #[32]))).size + (y11).size ≤ 140737488355328 then
            iLine_l2 n ((word4 ++ (ByteArray.mk #[32])) ++ y11) es5 i6 (IntKind.i64.wrap (i7 + (1 : Int))) k0
          else none
        else none
      else none) (
      k0 word4)
def iLine_b {R : Type} (n : Nat) (word1 : ByteArray) (l2 : List (List PV)) (k : ByteArray → Option R) : Option R :=
  iLine_l2 n word1 l2 (l2.length : Int) 0
    (fun (word3 : ByteArray) =>
      if (word3).size + ((ByteArray.mk #[10])).size ≤ 140737488355328 then
        k (word3 ++ (ByteArray.mk #[10]))
      else none)
def iLine_E (y : ByteArray) : PV × List PV := ((PV.str y), [])
def iLine_D : List PV → Option (ByteArray)
  | [(PV.str word1), (PV.fs l2)] => sILine word1 l2
  | _ => none
def iLine_Γ : List (Nat × Cal) := [(28, .ctr digits_C)]
def iLine_C : Ctr := ⟨[none, none], ByteArray, iLine_D, iLine_E, true, .d⟩
def iLine_cfg : List (Nat × LC) := [(2, ⟨[0, 7, 8, 9], [], [], []⟩),
  (1002000, ⟨[0], [], [], []⟩)]
def iLine_pat : Nat → Option SP
  | 2 => some ⟨sparse .undef [(0, (.val .str)), (7, (.val .fs)), (8, (.val (.int .i64))), (9, (.val (.int .i64)))] 0 21, [], []⟩
  | _ => none
def iLine_patj : Nat → Option SP
  | _ => none
def iLine_L2 (n : Nat) (ls : List Leaf) (R : Type) (k : Ex → St → Option R) : Option R :=
  match ls with
  | [.str word4, .rows es5, .int i6, .int i7] => iLine_l2 n word4 es5 i6 i7 (fun y1012 => k (.exit 0) ⟨sparse .undef [(0, (TV.val (PV.str y1012)))] 0 21, [], []⟩)
  | _ => none
def iLine_L (n key : Nat) (ls : List Leaf) (R : Type) (k : Ex → St → Option R) : Option R :=
  match key with
  | 2 => iLine_L2 n ls R k
  | _ => none
def iLine_J (n key : Nat) (ls : List Leaf) (R : Type) (k : Ex → St → Option R) : Option R :=
  match key with
  | _ => none
def iLine_on : Code → Bool := fun _ => false
def iLine_Λ : Nat → Loops := patL (normBy iLine_cfg) iLine_pat iLine_L (normJ iLine_cfg) iLine_on iLine_patj iLine_J
theorem iLine_step2 (n : Nat) (word4 : ByteArray) (es5 : List (List PV)) (i6 : Int) (i7 : Int)  (R : Type) (k : Ex → St → Option R) :
    roundK T G0 (ctrOf iLine_Γ) (normBy iLine_cfg) (iLine_Λ n) (codeAt [1, 0, 1, 0, 0] (bodyOf Tryz.f14)) (buildSt ⟨sparse .undef [(0, (.val .str)), (7, (.val .fs)), (8, (.val (.int .i64))), (9, (.val (.int .i64)))] 0 21, [], []⟩ [.str word4, .rows es5, .int i6, .int i7]) R k = iLine_L2 (n + 1) [.str word4, .rows es5, .int i6, .int i7] R k := by kernel_rfl
theorem iLine_eq (n : Nat) (word1 : ByteArray) (l2 : List (List PV)) :
    funK T G0 (ctrOf iLine_Γ) (iLine_Λ n) .d true [none, none] (funOf Tryz.f14) [(PV.str word1), (PV.fs l2)] = iLine_b n  word1 l2 (fun a0 => some (iLine_E a0)) := by kernel_rfl
theorem iLine_inv {ps : List PV} {y : ByteArray} (h : iLine_D ps = some y) : ∃ (word1 : ByteArray) (l2 : List (List PV)), ps = [(PV.str word1), (PV.fs l2)] := by
  unfold iLine_D at h
  split at h
  · exact ⟨_, _, rfl⟩
  · cases h
theorem iLine_loops : loopsOf (bodyOf Tryz.f14) = [codeAt [1, 0, 1, 0, 0] (bodyOf Tryz.f14)] := by kernel_rfl
theorem iLine_holds (hΓ : HoldsAll Tryz.prog G0 iLine_Γ) (hok : ∀ (word1 : ByteArray) (l2 : List (List PV)) (y : ByteArray), sILine word1 l2 = some y → ∃ n, ∀ (R : Type) (k : ByteArray → Option R), iLine_b n  word1 l2 k = k y) : Holds Tryz.prog G0 14 iLine_C := by
  refine fun_pat mixed tOk (ctrOf_ok hΓ) Tryz.func14 rfl rfl rfl rfl (F := funOf Tryz.f14) (normBy_ok iLine_cfg) (pat := iLine_pat) (L := iLine_L) (normJ_ok iLine_cfg) (on := iLine_on) (patj := iLine_patj) (J := iLine_J) (fun c hc ls R k => ?_) (fun c hc p hp m ls R k r h => ?_) (fun c hc p hp m ls R k r h => ?_) (fun ps x h => ?_)
  · rw [show (funOf Tryz.f14).code = bodyOf Tryz.f14 from rfl, iLine_loops] at hc
    simp only [List.mem_cons, List.not_mem_nil, or_false] at hc
    rcases hc with rfl
    · show iLine_L2 0 ls R k = none
      unfold iLine_L2
      split
      · rfl
      · rfl
  · rw [show (funOf Tryz.f14).code = bodyOf Tryz.f14 from rfl, iLine_loops] at hc
    simp only [List.mem_cons, List.not_mem_nil, or_false] at hc
    rcases hc with rfl
    · have hp' : p = ⟨sparse .undef [(0, (.val .str)), (7, (.val .fs)), (8, (.val (.int .i64))), (9, (.val (.int .i64)))] 0 21, [], []⟩ := (Option.some.inj (hp : some _ = some p)).symm
      subst hp'
      change iLine_L2 (m + 1) ls R k = some r at h
      have h' := h
      unfold iLine_L2 at h'
      split at h'
      · exact (iLine_step2 m _ _ _ _ R k).trans h
      · cases h'
  · cases (List.mem_filter.1 hc).2
  · obtain ⟨y, hy, hx⟩ := bind_inv h
    cases hx
    obtain ⟨word1, l2, rfl⟩ := iLine_inv hy
    obtain ⟨n, hn⟩ := hok word1 l2 y hy
    exact ⟨n, (iLine_eq n word1 l2).trans (hn _ _)⟩

/-! ## drayman/inst.lines -/
def iLines_l2 {R : Type} : Nat → ByteArray → List (List PV) → (Bool → Option R) → (List (List PV) → Option R) → Option R
  | 0, _, _, _, _ => none
  | n + 1, text4, es5, k0, k1 =>
    cond (!(ByteArray.toList text4 == ByteArray.toList (ByteArray.mk #[]))) (
      Option.bind (sCut text4 (ByteArray.mk #[10])) fun y6 =>
      Option.bind (sWords y6.1) fun y7 =>
      cond (!y6.2.2) (
        k0 false) (
        cond ((y7.length : Int) == (0 : Int)) (
          k0 false) (
          Option.bind (sJoin y7 (ByteArray.mk #[32])) fun y8 =>
          cond (!(ByteArray.toList y8 == ByteArray.toList y6.1)) (
            k0 false) (
            if (es5.length + ([[(PV.fs y7)]] : List (List PV)).length) * 24 ≤ maxBytes then
              iLines_l2 n y6.2.1 (es5 ++ [[(PV.fs y7)]]) k0 k1
            else none)))) (
      k1 es5)
def iLines_b {R : Type} (n : Nat) (text1 : ByteArray) (k : List (List PV) → Bool → Option R) : Option R :=
  iLines_l2 n text1 []
    (fun (b2 : Bool) =>
      k [] b2)
    (fun (es3 : List (List PV)) =>
      k es3 true)
def iLines_E (y : (List (List PV)) × Bool) : PV × List PV := ((PV.tuple [(PV.os y.1 1), (PV.bool y.2)]), [])
def iLines_D : List PV → Option ((List (List PV)) × Bool)
  | [(PV.str text1)] => sILines text1
  | _ => none
def iLines_Γ : List (Nat × Cal) := [(29, .ctr cutS_C), (30, .ctr wordsS_C), (31, .ctr joinS_C)]
def iLines_C : Ctr := ⟨[none], (List (List PV)) × Bool, iLines_D, iLines_E, false, (.t [.s, .d])⟩
def iLines_cfg : List (Nat × LC) := [(2, ⟨[0, 4], [4], [], []⟩),
  (2000002, ⟨[2, 3], [], [], []⟩),
  (1002000, ⟨[4], [], [], []⟩)]
def iLines_pat : Nat → Option SP
  | 2 => some ⟨sparse .undef [(0, (.val .str)), (4, (.ow 0))] 0 38, [(.row 1)], []⟩
  | _ => none
def iLines_patj : Nat → Option SP
  | _ => none
def iLines_L2 (n : Nat) (ls : List Leaf) (R : Type) (k : Ex → St → Option R) : Option R :=
  match ls with
  | [.str text4, .rows es5] => iLines_l2 n text4 es5 (fun y1009 => k .ret ⟨sparse .undef [(2, (TV.nil 1)), (3, (TV.val (PV.bool y1009)))] 0 38, [], []⟩)
      (fun y1010 => k (.exit 0) ⟨sparse .undef [(4, (TV.ow 0))] 0 38, [(Ob.row y1010 1)], []⟩)
  | _ => none
def iLines_L (n key : Nat) (ls : List Leaf) (R : Type) (k : Ex → St → Option R) : Option R :=
  match key with
  | 2 => iLines_L2 n ls R k
  | _ => none
def iLines_J (n key : Nat) (ls : List Leaf) (R : Type) (k : Ex → St → Option R) : Option R :=
  match key with
  | _ => none
def iLines_on : Code → Bool := fun _ => false
def iLines_Λ : Nat → Loops := patL (normBy iLines_cfg) iLines_pat iLines_L (normJ iLines_cfg) iLines_on iLines_patj iLines_J
theorem iLines_step2 (n : Nat) (text4 : ByteArray) (es5 : List (List PV))  (R : Type) (k : Ex → St → Option R) :
    roundK T G0 (ctrOf iLines_Γ) (normBy iLines_cfg) (iLines_Λ n) (codeAt [1, 1, 0, 0, 0] (bodyOf Tryz.f15)) (buildSt ⟨sparse .undef [(0, (.val .str)), (4, (.ow 0))] 0 38, [(.row 1)], []⟩ [.str text4, .rows es5]) R k = iLines_L2 (n + 1) [.str text4, .rows es5] R k := by kernel_rfl
theorem iLines_eq (n : Nat) (text1 : ByteArray) :
    funK T G0 (ctrOf iLines_Γ) (iLines_Λ n) (.t [.s, .d]) false [none] (funOf Tryz.f15) [(PV.str text1)] = iLines_b n  text1 (fun a0 a1 => some (iLines_E (a0, a1))) := by kernel_rfl
theorem iLines_inv {ps : List PV} {y : (List (List PV)) × Bool} (h : iLines_D ps = some y) : ∃ (text1 : ByteArray), ps = [(PV.str text1)] := by
  unfold iLines_D at h
  split at h
  · exact ⟨_, rfl⟩
  · cases h
theorem iLines_loops : loopsOf (bodyOf Tryz.f15) = [codeAt [1, 1, 0, 0, 0] (bodyOf Tryz.f15)] := by kernel_rfl
theorem iLines_holds (hΓ : HoldsAll Tryz.prog G0 iLines_Γ) (hok : ∀ (text1 : ByteArray) (y : (List (List PV)) × Bool), sILines text1 = some y → ∃ n, ∀ (R : Type) (k : List (List PV) → Bool → Option R), iLines_b n  text1 k = k y.1 y.2) : Holds Tryz.prog G0 15 iLines_C := by
  refine fun_pat mixed tOk (ctrOf_ok hΓ) Tryz.func15 rfl rfl rfl rfl (F := funOf Tryz.f15) (normBy_ok iLines_cfg) (pat := iLines_pat) (L := iLines_L) (normJ_ok iLines_cfg) (on := iLines_on) (patj := iLines_patj) (J := iLines_J) (fun c hc ls R k => ?_) (fun c hc p hp m ls R k r h => ?_) (fun c hc p hp m ls R k r h => ?_) (fun ps x h => ?_)
  · rw [show (funOf Tryz.f15).code = bodyOf Tryz.f15 from rfl, iLines_loops] at hc
    simp only [List.mem_cons, List.not_mem_nil, or_false] at hc
    rcases hc with rfl
    · show iLines_L2 0 ls R k = none
      unfold iLines_L2
      split
      · rfl
      · rfl
  · rw [show (funOf Tryz.f15).code = bodyOf Tryz.f15 from rfl, iLines_loops] at hc
    simp only [List.mem_cons, List.not_mem_nil, or_false] at hc
    rcases hc with rfl
    · have hp' : p = ⟨sparse .undef [(0, (.val .str)), (4, (.ow 0))] 0 38, [(.row 1)], []⟩ := (Option.some.inj (hp : some _ = some p)).symm
      subst hp'
      change iLines_L2 (m + 1) ls R k = some r at h
      have h' := h
      unfold iLines_L2 at h'
      split at h'
      · exact (iLines_step2 m _ _ R k).trans h
      · cases h'
  · cases (List.mem_filter.1 hc).2
  · obtain ⟨y, hy, hx⟩ := bind_inv h
    cases hx
    obtain ⟨text1, rfl⟩ := iLines_inv hy
    obtain ⟨n, hn⟩ := hok text1 y hy
    exact ⟨n, (iLines_eq n text1).trans (hn _ _)⟩

/-! ## (*drayman/inst.reader).next -/
def iNext_l5 {R : Type} : Nat → List (List PV) → Int → Int → List (List PV) → List (List PV) → (Bool → List (List PV) → Option R) → (List (List PV) → List (List PV) → Option R) → Option R
  | 0, _, _, _, _, _, _, _ => none
  | n + 1, es69, i70, i71, es72, es73, k0, k1 =>
    cond (decide (i71 < i70)) (
      Option.bind (idx es69 i71) fun e74 =>
      if e74.length = 1 then
        Option.bind (e74[0]?) fun c75 =>
        Option.bind (PV.asS c75) fun s76 =>
        Option.bind (sInt_d s76) fun y77 =>
        cond (!y77.2) (
          k0 false es72) (
          if (es73.length + ([[(PV.int .i64 y77.1)]] : List (List PV)).length) * 8 ≤ maxBytes then
            iNext_l5 n es69 i70 (IntKind.i64.wrap (i71 + (1 : Int))) es72 (es73 ++ [[(PV.int .i64 y77.1)]]) k0 k1
          else none)
      else none) (
      k1 es72 es73)
def iNext_q3 {R : Type} (n : Nat) (b86 : Bool) (es87 : List (List PV)) (k0 : Bool → List (List PV) → Option R) (k1 : List (List PV) → Option R) : Option R :=
  cond b86 (
    k0 false es87) (
    k1 es87)
def iNext_q4 {R : Type} (n : Nat) (es78 : List (List PV)) (k0 : Bool → List (List PV) → Option R) (k1 : Bool → Nat → Nat → List (List PV) → List (List PV) → Option R) : Option R :=
  if 0 ≤ (0 : Int) ∧ (0 : Int) < (es78.length : Int) then
    Option.bind (es78[0]?) fun e79 =>
    Option.bind (e79[0]?) fun c80 =>
    Option.bind (PV.asFs c80) fun es81 =>
    if (0 : Int) ≤ (1 : Int) ∧ (1 : Int) ≤ (es81.length : Int) ∧ (es81.length : Int) = (es81.length : Int) ∧ (es81.length : Int) ≤ (es81.length : Int) ∧ allLen 1 es81 = true then
      iNext_l5 n ((es81.take (Int.toNat (es81.length : Int))).drop 1) (((es81.take (Int.toNat (es81.length : Int))).drop 1).length : Int) 0 es78 [] k0
        (fun (es84 : List (List PV)) (es85 : List (List PV)) =>
          if (0 : Int) ≤ (1 : Int) ∧ (1 : Int) ≤ (es84.length : Int) ∧ (es84.length : Int) = (es84.length : Int) ∧ (es84.length : Int) ≤ (es84.length : Int) ∧ 1 = 1 then
            k1 true 1 (Int.toNat ((es84.length : Int) - (1 : Int))) es84 es85
          else none)
    else none
  else none
def iNext_b {R : Type} (n : Nat) (r1 : List (List PV)) (word2 : ByteArray) (many3 : Int) (k : List (List PV) → Bool → List (List PV) → Option R) : Option R :=
  cond ((r1.length : Int) == (0 : Int)) (
    iNext_q3 n true r1
      (fun (b4 : Bool) (es5 : List (List PV)) =>
        k [] b4 es5)
      (fun (es6 : List (List PV)) =>
        iNext_q4 n es6
          (fun (b7 : Bool) (es8 : List (List PV)) =>
            k [] b7 es8)
          (fun (b9 : Bool) (j10 : Nat) (j11 : Nat) (es12 : List (List PV)) (es13 : List (List PV)) =>
            k es13 b9 ((es12.drop j10).take j11)))) (
    if 0 ≤ (0 : Int) ∧ (0 : Int) < (r1.length : Int) then
      Option.bind (r1[0]?) fun e14 =>
      Option.bind (e14[0]?) fun c15 =>
      Option.bind (PV.asFs c15) fun es16 =>
      Option.bind (idx es16 (0 : Int)) fun e17 =>
      if e17.length = 1 then
        Option.bind (e17[0]?) fun c18 =>
        Option.bind (PV.asS c18) fun s19 =>
        cond (!(ByteArray.toList s19 == ByteArray.toList word2)) (
          iNext_q3 n true r1
            (fun (b20 : Bool) (es21 : List (List PV)) =>
              k [] b20 es21)
            (fun (es22 : List (List PV)) =>
              iNext_q4 n es22
                (fun (b23 : Bool) (es24 : List (List PV)) =>
                  k [] b23 es24)
                (fun (b25 : Bool) (j26 : Nat) (j27 : Nat) (es28 : List (List PV)) (es29 : List (List PV)) =>
                  k es29 b25 ((es28.drop j26).take j27)))) (
          cond (decide (many3 ≥ (0 : Int))) (
            if 0 ≤ (0 : Int) ∧ (0 : Int) < (r1.length : Int) then
              Option.bind (r1[0]?) fun e30 =>
              Option.bind (e30[0]?) fun c31 =>
              Option.bind (PV.asFs c31) fun es32 =>
              cond ((es32.length : Int) != (IntKind.i64.wrap (many3 + (1 : Int)))) (
                iNext_q3 n true r1
                  (fun (b33 : Bool) (es34 : List (List PV)) =>
                    k [] b33 es34)
                  (fun (es35 : List (List PV)) =>
                    iNext_q4 n es35
                      (fun (b36 : Bool) (es37 : List (List PV)) =>
                        k [] b36 es37)
                      (fun (b38 : Bool) (j39 : Nat) (j40 : Nat) (es41 : List (List PV)) (es42 : List (List PV)) =>
                        k es42 b38 ((es41.drop j39).take j40)))) (
                if 0 ≤ (0 : Int) ∧ (0 : Int) < (r1.length : Int) then
                  Option.bind (r1[0]?) fun e43 =>
                  Option.bind (e43[0]?) fun c44 =>
                  Option.bind (PV.asFs c44) fun es45 =>
                  iNext_q3 n (decide ((es45.length : Int) < (2 : Int))) r1
                    (fun (b46 : Bool) (es47 : List (List PV)) =>
                      k [] b46 es47)
                    (fun (es48 : List (List PV)) =>
                      iNext_q4 n es48
                        (fun (b49 : Bool) (es50 : List (List PV)) =>
                          k [] b49 es50)
                        (fun (b51 : Bool) (j52 : Nat) (j53 : Nat) (es54 : List (List PV)) (es55 : List (List PV)) =>
                          k es55 b51 ((es54.drop j52).take j53)))
                else none)
            else none) (
            if 0 ≤ (0 : Int) ∧ (0 : Int) < (r1.length : Int) then
              Option.bind (r1[0]?) fun e56 =>
              Option.bind (e56[0]?) fun c57 =>
              Option.bind (PV.asFs c57) fun es58 =>
              iNext_q3 n (decide ((es58.length : Int) < (2 : Int))) r1
                (fun (b59 : Bool) (es60 : List (List PV)) =>
                  k [] b59 es60)
                (fun (es61 : List (List PV)) =>
                  iNext_q4 n es61
                    (fun (b62 : Bool) (es63 : List (List PV)) =>
                      k [] b62 es63)
                    (fun (b64 : Bool) (j65 : Nat) (j66 : Nat) (es67 : List (List PV)) (es68 : List (List PV)) =>
                      k es68 b64 ((es67.drop j65).take j66)))
            else none))
      else none
    else none)
def iNext_E (y : (List (List PV)) × Bool × (List (List PV))) : PV × List PV := ((PV.tuple [(PV.fs y.1), (PV.bool y.2.1)]), [(PV.obj [(PV.os y.2.2 1)])])
def iNext_D : List PV → Option ((List (List PV)) × Bool × (List (List PV)))
  | [(PV.obj [(PV.os r1 1)]), (PV.str word2), (PV.int .i64 many3)] => sINext r1 word2 many3
  | _ => none
def iNext_Γ : List (Nat × Cal) := [(32, .ctr sInt_C)]
def iNext_C : Ctr := ⟨[some ((.o [.s]), true), none, none], (List (List PV)) × Bool × (List (List PV)), iNext_D, iNext_E, false, .d⟩
def iNext_cfg : List (Nat × LC) := [(4000003, ⟨[0, 56], [], [], []⟩),
  (6000003, ⟨[6, 7], [], [], []⟩),
  (5000003, ⟨[0], [], [], []⟩),
  (5, ⟨[0, 8, 63, 64, 65], [8], [], []⟩),
  (4000004, ⟨[0], [], [], []⟩),
  (2000005, ⟨[6, 7], [], [], []⟩),
  (1005000, ⟨[0, 8], [], [], []⟩),
  (6000004, ⟨[6, 7], [], [], []⟩)]
def iNext_pat : Nat → Option SP
  | 5 => some ⟨sparse .undef [(0, (.ref 0 0)), (8, (.ow 2)), (63, (.val .fs)), (64, (.val (.int .i64))), (65, (.val (.int .i64)))] 0 90, [(.box [(.ow 1)]), (.row 1), (.row 1)], [(.ref 0 0)]⟩
  | _ => none
def iNext_patj : Nat → Option SP
  | 3 => some ⟨sparse .undef [(0, (.ref 0 0)), (56, (.val .bool))] 0 90, [(.box [(.ow 1)]), (.row 1)], [(.ref 0 0)]⟩
  | 4 => some ⟨sparse .undef [(0, (.ref 0 0))] 0 90, [(.box [(.ow 1)]), (.row 1)], [(.ref 0 0)]⟩
  | _ => none
def iNext_L5 (n : Nat) (ls : List Leaf) (R : Type) (k : Ex → St → Option R) : Option R :=
  match ls with
  | [.rows es69, .int i70, .int i71, .rows es72, .rows es73] => iNext_l5 n es69 i70 i71 es72 es73 (fun y1088 y1089 => k .ret ⟨sparse .undef [(6, (TV.nil 1)), (7, (TV.val (PV.bool y1088)))] 0 90, [(Ob.box [(TV.ow 1)]), (Ob.row y1089 1)], [(TV.ref 0 0)]⟩)
      (fun y1090 y1091 => k (.exit 0) ⟨sparse .undef [(0, (TV.ref 0 0)), (8, (TV.ow 2))] 0 90, [(Ob.box [(TV.ow 1)]), (Ob.row y1090 1), (Ob.row y1091 1)], [(TV.ref 0 0)]⟩)
  | _ => none
def iNext_J3 (n : Nat) (ls : List Leaf) (R : Type) (k : Ex → St → Option R) : Option R :=
  match ls with
  | [.bool b86, .rows es87] => iNext_q3 n b86 es87 (fun y2092 y2093 => k .ret ⟨sparse .undef [(6, (TV.nil 1)), (7, (TV.val (PV.bool y2092)))] 0 90, [(Ob.box [(TV.ow 1)]), (Ob.row y2093 1)], [(TV.ref 0 0)]⟩)
      (fun y2094 => k .normal ⟨sparse .undef [(0, (TV.ref 0 0))] 0 90, [(Ob.box [(TV.ow 1)]), (Ob.row y2094 1)], [(TV.ref 0 0)]⟩)
  | _ => none
def iNext_J4 (n : Nat) (ls : List Leaf) (R : Type) (k : Ex → St → Option R) : Option R :=
  match ls with
  | [.rows es78] => iNext_q4 n es78 (fun y3095 y3096 => k .ret ⟨sparse .undef [(6, (TV.nil 1)), (7, (TV.val (PV.bool y3095)))] 0 90, [(Ob.box [(TV.ow 1)]), (Ob.row y3096 1)], [(TV.ref 0 0)]⟩)
      (fun y3097 y3098 y3099 y3100 y3101 => k .ret ⟨sparse .undef [(6, (TV.ow 2)), (7, (TV.val (PV.bool y3097)))] 0 90, [(Ob.box [(TV.sl 1 y3098 y3099 false)]), (Ob.row y3100 1), (Ob.row y3101 1)], [(TV.ref 0 0)]⟩)
  | _ => none
def iNext_L (n key : Nat) (ls : List Leaf) (R : Type) (k : Ex → St → Option R) : Option R :=
  match key with
  | 5 => iNext_L5 n ls R k
  | _ => none
def iNext_J (n key : Nat) (ls : List Leaf) (R : Type) (k : Ex → St → Option R) : Option R :=
  match key with
  | 3 => iNext_J3 n ls R k
  | 4 => iNext_J4 n ls R k
  | _ => none
def iNext_on : Code → Bool := onKeys [4, 3]
def iNext_Λ : Nat → Loops := patL (normBy iNext_cfg) iNext_pat iNext_L (normJ iNext_cfg) iNext_on iNext_patj iNext_J
theorem iNext_step5 (n : Nat) (es69 : List (List PV)) (i70 : Int) (i71 : Int) (es72 : List (List PV)) (es73 : List (List PV))  (R : Type) (k : Ex → St → Option R) :
    roundK T G0 (ctrOf iNext_Γ) (normBy iNext_cfg) (iNext_Λ n) (codeAt [1, 1, 1, 0, 1, 0, 0] (bodyOf Tryz.f16)) (buildSt ⟨sparse .undef [(0, (.ref 0 0)), (8, (.ow 2)), (63, (.val .fs)), (64, (.val (.int .i64))), (65, (.val (.int .i64)))] 0 90, [(.box [(.ow 1)]), (.row 1), (.row 1)], [(.ref 0 0)]⟩ [.rows es69, .int i70, .int i71, .rows es72, .rows es73]) R k = iNext_L5 (n + 1) [.rows es69, .int i70, .int i71, .rows es72, .rows es73] R k := by kernel_rfl
theorem iNext_stepq4 (n : Nat) (es78 : List (List PV))  (R : Type) (k : Ex → St → Option R) :
    joinK T G0 (ctrOf iNext_Γ) (normJ iNext_cfg) (iNext_Λ n) (codeAt [1, 1] (bodyOf Tryz.f16)) (buildSt ⟨sparse .undef [(0, (.ref 0 0))] 0 90, [(.box [(.ow 1)]), (.row 1)], [(.ref 0 0)]⟩ [.rows es78]) R k = iNext_J4 n [.rows es78] R k := by kernel_rfl
theorem iNext_stepq3 (n : Nat) (b86 : Bool) (es87 : List (List PV))  (R : Type) (k : Ex → St → Option R) :
    joinK T G0 (ctrOf iNext_Γ) (normJ iNext_cfg) (iNext_Λ n) (codeAt [1, 0, 1] (bodyOf Tryz.f16)) (buildSt ⟨sparse .undef [(0, (.ref 0 0)), (56, (.val .bool))] 0 90, [(.box [(.ow 1)]), (.row 1)], [(.ref 0 0)]⟩ [.bool b86, .rows es87]) R k = iNext_J3 n [.bool b86, .rows es87] R k := by kernel_rfl
theorem iNext_eq (n : Nat) (r1 : List (List PV)) (word2 : ByteArray) (many3 : Int) :
    funK T G0 (ctrOf iNext_Γ) (iNext_Λ n) .d false [some ((.o [.s]), true), none, none] (funOf Tryz.f16) [(PV.obj [(PV.os r1 1)]), (PV.str word2), (PV.int .i64 many3)] = iNext_b n  r1 word2 many3 (fun a0 a1 a2 => some (iNext_E (a0, a1, a2))) := by kernel_rfl
theorem iNext_inv {ps : List PV} {y : (List (List PV)) × Bool × (List (List PV))} (h : iNext_D ps = some y) : ∃ (r1 : List (List PV)) (word2 : ByteArray) (many3 : Int), ps = [(PV.obj [(PV.os r1 1)]), (PV.str word2), (PV.int .i64 many3)] := by
  unfold iNext_D at h
  split at h
  · exact ⟨_, _, _, rfl⟩
  · cases h
theorem iNext_loops : loopsOf (bodyOf Tryz.f16) = [codeAt [1, 1, 1, 0, 1, 0, 0] (bodyOf Tryz.f16)] := by kernel_rfl
theorem iNext_joins : (joinsOf (bodyOf Tryz.f16)).filter iNext_on = [codeAt [1, 1] (bodyOf Tryz.f16), codeAt [1, 0, 1] (bodyOf Tryz.f16)] := by kernel_rfl
theorem iNext_holds (hΓ : HoldsAll Tryz.prog G0 iNext_Γ) (hok : ∀ (r1 : List (List PV)) (word2 : ByteArray) (many3 : Int) (y : (List (List PV)) × Bool × (List (List PV))), sINext r1 word2 many3 = some y → ∃ n, ∀ (R : Type) (k : List (List PV) → Bool → List (List PV) → Option R), iNext_b n  r1 word2 many3 k = k y.1 y.2.1 y.2.2) : Holds Tryz.prog G0 16 iNext_C := by
  refine fun_pat mixed tOk (ctrOf_ok hΓ) Tryz.func16 rfl rfl rfl rfl (F := funOf Tryz.f16) (normBy_ok iNext_cfg) (pat := iNext_pat) (L := iNext_L) (normJ_ok iNext_cfg) (on := iNext_on) (patj := iNext_patj) (J := iNext_J) (fun c hc ls R k => ?_) (fun c hc p hp m ls R k r h => ?_) (fun c hc p hp m ls R k r h => ?_) (fun ps x h => ?_)
  · rw [show (funOf Tryz.f16).code = bodyOf Tryz.f16 from rfl, iNext_loops] at hc
    simp only [List.mem_cons, List.not_mem_nil, or_false] at hc
    rcases hc with rfl
    · show iNext_L5 0 ls R k = none
      unfold iNext_L5
      split
      · rfl
      · rfl
  · rw [show (funOf Tryz.f16).code = bodyOf Tryz.f16 from rfl, iNext_loops] at hc
    simp only [List.mem_cons, List.not_mem_nil, or_false] at hc
    rcases hc with rfl
    · have hp' : p = ⟨sparse .undef [(0, (.ref 0 0)), (8, (.ow 2)), (63, (.val .fs)), (64, (.val (.int .i64))), (65, (.val (.int .i64)))] 0 90, [(.box [(.ow 1)]), (.row 1), (.row 1)], [(.ref 0 0)]⟩ := (Option.some.inj (hp : some _ = some p)).symm
      subst hp'
      change iNext_L5 (m + 1) ls R k = some r at h
      have h' := h
      unfold iNext_L5 at h'
      split at h'
      · exact (iNext_step5 m _ _ _ _ _ R k).trans h
      · cases h'
  · rw [show (funOf Tryz.f16).code = bodyOf Tryz.f16 from rfl, iNext_joins] at hc
    simp only [List.mem_cons, List.not_mem_nil, or_false] at hc
    rcases hc with rfl | rfl
    · have hp' : p = ⟨sparse .undef [(0, (.ref 0 0))] 0 90, [(.box [(.ow 1)]), (.row 1)], [(.ref 0 0)]⟩ := (Option.some.inj (hp : some _ = some p)).symm
      subst hp'
      change iNext_J4 m ls R k = some r at h
      have h' := h
      unfold iNext_J4 at h'
      split at h'
      · exact (iNext_stepq4 m _ R k).trans h
      · cases h'
    · have hp' : p = ⟨sparse .undef [(0, (.ref 0 0)), (56, (.val .bool))] 0 90, [(.box [(.ow 1)]), (.row 1)], [(.ref 0 0)]⟩ := (Option.some.inj (hp : some _ = some p)).symm
      subst hp'
      change iNext_J3 m ls R k = some r at h
      have h' := h
      unfold iNext_J3 at h'
      split at h'
      · exact (iNext_stepq3 m _ _ R k).trans h
      · cases h'
  · obtain ⟨y, hy, hx⟩ := bind_inv h
    cases hx
    obtain ⟨r1, word2, many3, rfl⟩ := iNext_inv hy
    obtain ⟨n, hn⟩ := hok r1 word2 many3 y hy
    exact ⟨n, (iNext_eq n r1 word2 many3).trans (hn _ _)⟩

/-! ## drayman/inst.Parse -/
def iParse_l19 {R : Type} : Nat → List (List PV) → Bool → List (List PV) → List (List PV) → List (List PV) → List (List PV) → List (List PV) → (List (List PV) → List (List PV) → List (List PV) → List (List PV) → List (List PV) → Option R) → Option R
  | 0, _, _, _, _, _, _, _, _ => none
  | n + 1, n73, ok74, es75, es76, es77, es78, es79, k0 =>
    cond ok74 (
      if (es79.length + ([[(PV.fs n73)]] : List (List PV)).length) * 24 ≤ maxBytes then
        Option.bind (sINext es75 (ByteArray.mk #[114, 111, 119]) (-1)) fun y80 =>
        iParse_l19 n y80.1 y80.2.1 y80.2.2 es76 es77 es78 (es79 ++ [[(PV.fs n73)]]) k0
      else none) (
      k0 es75 es76 es77 es78 es79)
def iParse_l15 {R : Type} : Nat → List (List PV) → Bool → List (List PV) → List (List PV) → List (List PV) → List (List PV) → (List (List PV) → List (List PV) → List (List PV) → List (List PV) → Option R) → Option R
  | 0, _, _, _, _, _, _, _ => none
  | n + 1, n58, ok59, es60, es61, es62, es63, k0 =>
    cond ok59 (
      Option.bind (idx n58 (0 : Int)) fun e64 =>
      if e64.length = 1 then
        Option.bind (e64[0]?) fun c65 =>
        Option.bind (PV.asI .i64 c65) fun n66 =>
        Option.bind (idx n58 (1 : Int)) fun e67 =>
        if e67.length = 1 then
          Option.bind (e67[0]?) fun c68 =>
          Option.bind (PV.asI .i64 c68) fun n69 =>
          meet (
            if (es63.length + ([[(PV.int .i64 n66), (PV.int .i64 n69)]] : List (List PV)).length) * 16 ≤ maxBytes then
              Option.bind (sINext es60 (ByteArray.mk #[112, 97, 105, 114]) 2) fun y70 =>
              iParse_l15 n y70.1 y70.2.1 y70.2.2 es61 es62 (es63 ++ [[(PV.int .i64 n66), (PV.int .i64 n69)]]) k0
            else none) (
            meet (
              if (es63.length + ([[(PV.int .i64 n66), (PV.int .i64 n69)]] : List (List PV)).length) * 16 ≤ maxBytes then
                Option.bind (sINext es60 (ByteArray.mk #[112, 97, 105, 114]) 2) fun y71 =>
                iParse_l15 n y71.1 y71.2.1 y71.2.2 es61 es62 (es63 ++ [[(PV.int .i64 n66), (PV.int .i64 n69)]]) k0
              else none) (
              if (es63.length + ([[(PV.int .i64 n66), (PV.int .i64 n69)]] : List (List PV)).length) * 16 ≤ maxBytes then
                Option.bind (sINext es60 (ByteArray.mk #[112, 97, 105, 114]) 2) fun y72 =>
                iParse_l15 n y72.1 y72.2.1 y72.2.2 es61 es62 (es63 ++ [[(PV.int .i64 n66), (PV.int .i64 n69)]]) k0
              else none))
        else none
      else none) (
      k0 es60 es61 es62 es63)
def iParse_l11 {R : Type} : Nat → List (List PV) → Bool → List (List PV) → List (List PV) → List (List PV) → (List (List PV) → List (List PV) → List (List PV) → Option R) → Option R
  | 0, _, _, _, _, _, _ => none
  | n + 1, n38, ok39, es40, es41, es42, k0 =>
    cond ok39 (
      Option.bind (idx n38 (0 : Int)) fun e43 =>
      if e43.length = 1 then
        Option.bind (e43[0]?) fun c44 =>
        Option.bind (PV.asI .i64 c44) fun n45 =>
        Option.bind (idx n38 (1 : Int)) fun e46 =>
        if e46.length = 1 then
          Option.bind (e46[0]?) fun c47 =>
          Option.bind (PV.asI .i64 c47) fun n48 =>
          Option.bind (idx n38 (2 : Int)) fun e49 =>
          if e49.length = 1 then
            Option.bind (e49[0]?) fun c50 =>
            Option.bind (PV.asI .i64 c50) fun n51 =>
            Option.bind (idx n38 (3 : Int)) fun e52 =>
            if e52.length = 1 then
              Option.bind (e52[0]?) fun c53 =>
              Option.bind (PV.asI .i64 c53) fun n54 =>
              meet (
                if (es42.length + ([[(PV.int .i64 n45), (PV.int .i64 n48), (PV.int .i64 n51), (PV.int .i64 n54)]] : List (List PV)).length) * 32 ≤ maxBytes then
                  Option.bind (sINext es40 (ByteArray.mk #[115, 116, 111, 112]) 4) fun y55 =>
                  iParse_l11 n y55.1 y55.2.1 y55.2.2 es41 (es42 ++ [[(PV.int .i64 n45), (PV.int .i64 n48), (PV.int .i64 n51), (PV.int .i64 n54)]]) k0
                else none) (
                meet (
                  if (es42.length + ([[(PV.int .i64 n45), (PV.int .i64 n48), (PV.int .i64 n51), (PV.int .i64 n54)]] : List (List PV)).length) * 32 ≤ maxBytes then
                    Option.bind (sINext es40 (ByteArray.mk #[115, 116, 111, 112]) 4) fun y56 =>
                    iParse_l11 n y56.1 y56.2.1 y56.2.2 es41 (es42 ++ [[(PV.int .i64 n45), (PV.int .i64 n48), (PV.int .i64 n51), (PV.int .i64 n54)]]) k0
                  else none) (
                  if (es42.length + ([[(PV.int .i64 n45), (PV.int .i64 n48), (PV.int .i64 n51), (PV.int .i64 n54)]] : List (List PV)).length) * 32 ≤ maxBytes then
                    Option.bind (sINext es40 (ByteArray.mk #[115, 116, 111, 112]) 4) fun y57 =>
                    iParse_l11 n y57.1 y57.2.1 y57.2.2 es41 (es42 ++ [[(PV.int .i64 n45), (PV.int .i64 n48), (PV.int .i64 n51), (PV.int .i64 n54)]]) k0
                  else none))
            else none
          else none
        else none
      else none) (
      k0 es40 es41 es42)
def iParse_l7 {R : Type} : Nat → List (List PV) → Bool → List (List PV) → List (List PV) → (List (List PV) → List (List PV) → Option R) → Option R
  | 0, _, _, _, _, _ => none
  | n + 1, n22, ok23, es24, es25, k0 =>
    cond ok23 (
      Option.bind (idx n22 (0 : Int)) fun e26 =>
      if e26.length = 1 then
        Option.bind (e26[0]?) fun c27 =>
        Option.bind (PV.asI .i64 c27) fun n28 =>
        Option.bind (idx n22 (1 : Int)) fun e29 =>
        if e29.length = 1 then
          Option.bind (e29[0]?) fun c30 =>
          Option.bind (PV.asI .i64 c30) fun n31 =>
          Option.bind (idx n22 (2 : Int)) fun e32 =>
          if e32.length = 1 then
            Option.bind (e32[0]?) fun c33 =>
            Option.bind (PV.asI .i64 c33) fun n34 =>
            meet (
              if (es25.length + ([[(PV.int .i64 n28), (PV.int .i64 n31), (PV.int .i64 n34)]] : List (List PV)).length) * 24 ≤ maxBytes then
                Option.bind (sINext es24 (ByteArray.mk #[99, 97, 114]) 3) fun y35 =>
                iParse_l7 n y35.1 y35.2.1 y35.2.2 (es25 ++ [[(PV.int .i64 n28), (PV.int .i64 n31), (PV.int .i64 n34)]]) k0
              else none) (
              meet (
                if (es25.length + ([[(PV.int .i64 n28), (PV.int .i64 n31), (PV.int .i64 n34)]] : List (List PV)).length) * 24 ≤ maxBytes then
                  Option.bind (sINext es24 (ByteArray.mk #[99, 97, 114]) 3) fun y36 =>
                  iParse_l7 n y36.1 y36.2.1 y36.2.2 (es25 ++ [[(PV.int .i64 n28), (PV.int .i64 n31), (PV.int .i64 n34)]]) k0
                else none) (
                if (es25.length + ([[(PV.int .i64 n28), (PV.int .i64 n31), (PV.int .i64 n34)]] : List (List PV)).length) * 24 ≤ maxBytes then
                  Option.bind (sINext es24 (ByteArray.mk #[99, 97, 114]) 3) fun y37 =>
                  iParse_l7 n y37.1 y37.2.1 y37.2.2 (es25 ++ [[(PV.int .i64 n28), (PV.int .i64 n31), (PV.int .i64 n34)]]) k0
                else none))
          else none
        else none
      else none) (
      k0 es24 es25)
def iParse_b {R : Type} (n : Nat) (text1 : ByteArray) (k : List (List PV) → List (List PV) → List (List PV) → List (List PV) → Int → Option R) : Option R :=
  Option.bind (sILines text1) fun y2 =>
  cond (!y2.2) (
    k [] [] [] [] 2) (
    Option.bind (sINext y2.1 (ByteArray.mk #[99, 97, 114]) 3) fun y3 =>
    iParse_l7 n y3.1 y3.2.1 y3.2.2 []
      (fun (es4 : List (List PV)) (es5 : List (List PV)) =>
        Option.bind (sINext es4 (ByteArray.mk #[115, 116, 111, 112]) 4) fun y6 =>
        iParse_l11 n y6.1 y6.2.1 y6.2.2 es5 []
          (fun (es7 : List (List PV)) (es8 : List (List PV)) (es9 : List (List PV)) =>
            Option.bind (sINext es7 (ByteArray.mk #[112, 97, 105, 114]) 2) fun y10 =>
            iParse_l15 n y10.1 y10.2.1 y10.2.2 es8 es9 []
              (fun (es11 : List (List PV)) (es12 : List (List PV)) (es13 : List (List PV)) (es14 : List (List PV)) =>
                Option.bind (sINext es11 (ByteArray.mk #[114, 111, 119]) (-1)) fun y15 =>
                iParse_l19 n y15.1 y15.2.1 y15.2.2 es12 es13 es14 []
                  (fun (es16 : List (List PV)) (es17 : List (List PV)) (es18 : List (List PV)) (es19 : List (List PV)) (es20 : List (List PV)) =>
                    cond (decide ((es16.length : Int) > (0 : Int))) (
                      k [] [] [] [] 2) (
                      Option.bind (iCheck_d es17 es18 es19 es20) fun y21 =>
                      cond (y21 != (0 : Int)) (
                        k [] [] [] [] y21) (
                        k es17 es18 es19 es20 0)))))))
def iParse_E (y : (List (List PV)) × (List (List PV)) × (List (List PV)) × (List (List PV)) × Int) : PV × List PV := ((PV.tuple [(PV.agg [(PV.fs y.1), (PV.fs y.2.1), (PV.fs y.2.2.1), (PV.fs y.2.2.2.1)]), (PV.int .i64 y.2.2.2.2)]), [])
def iParse_D : List PV → Option ((List (List PV)) × (List (List PV)) × (List (List PV)) × (List (List PV)) × Int)
  | [(PV.str text1)] => sIParse text1
  | _ => none
def iParse_Γ : List (Nat × Cal) := [(15, .ctr iLines_C), (16, .ctr iNext_C), (8, .ctr iCheck_C)]
def iParse_C : Ctr := ⟨[none], (List (List PV)) × (List (List PV)) × (List (List PV)) × (List (List PV)) × Int, iParse_D, iParse_E, false, .d⟩
def iParse_cfg : List (Nat × LC) := [(7, ⟨[2, 6, 7, 8, 9], [], [], [(7, 0)]⟩),
  (1007000, ⟨[2, 6, 7], [], [], []⟩),
  (11, ⟨[2, 6, 7, 10, 11], [], [], [(7, 1)]⟩),
  (1011002, ⟨[2, 6, 7], [], [], []⟩),
  (15, ⟨[2, 6, 7, 12, 13], [], [], [(7, 2)]⟩),
  (1015004, ⟨[2, 6, 7], [], [], []⟩),
  (19, ⟨[2, 6, 7, 14, 15], [], [], [(7, 3)]⟩),
  (1019006, ⟨[2, 6, 7], [], [], []⟩)]
def iParse_pat : Nat → Option SP
  | 19 => some ⟨sparse .undef [(2, (.ref 0 0)), (6, (.ref 1 0)), (7, (.ref 3 0)), (14, (.val .fs)), (15, (.val .bool))] 0 137, [(.box [(.nil 3), (.nil 4), (.nil 2), (.nil 1)]), (.box [(.ow 2)]), (.row 1), (.box [(.ow 4), (.ow 5), (.ow 6), (.ow 7)]), (.row 3), (.row 4), (.row 2), (.row 1)], []⟩
  | 15 => some ⟨sparse .undef [(2, (.ref 0 0)), (6, (.ref 1 0)), (7, (.ref 3 0)), (12, (.val .fs)), (13, (.val .bool))] 0 137, [(.box [(.nil 3), (.nil 4), (.nil 2), (.nil 1)]), (.box [(.ow 2)]), (.row 1), (.box [(.ow 4), (.ow 5), (.ow 6), (.nil 1)]), (.row 3), (.row 4), (.row 2)], []⟩
  | 11 => some ⟨sparse .undef [(2, (.ref 0 0)), (6, (.ref 1 0)), (7, (.ref 3 0)), (10, (.val .fs)), (11, (.val .bool))] 0 137, [(.box [(.nil 3), (.nil 4), (.nil 2), (.nil 1)]), (.box [(.ow 2)]), (.row 1), (.box [(.ow 4), (.ow 5), (.nil 2), (.nil 1)]), (.row 3), (.row 4)], []⟩
  | 7 => some ⟨sparse .undef [(2, (.ref 0 0)), (6, (.ref 1 0)), (7, (.ref 3 0)), (8, (.val .fs)), (9, (.val .bool))] 0 137, [(.box [(.nil 3), (.nil 4), (.nil 2), (.nil 1)]), (.box [(.ow 2)]), (.row 1), (.box [(.ow 4), (.nil 4), (.nil 2), (.nil 1)]), (.row 3)], []⟩
  | _ => none
def iParse_patj : Nat → Option SP
  | _ => none
def iParse_L19 (n : Nat) (ls : List Leaf) (R : Type) (k : Ex → St → Option R) : Option R :=
  match ls with
  | [.rows n73, .bool ok74, .rows es75, .rows es76, .rows es77, .rows es78, .rows es79] => iParse_l19 n n73 ok74 es75 es76 es77 es78 es79 (fun y1081 y1082 y1083 y1084 y1085 => k (.exit 6) ⟨sparse .undef [(2, (TV.ref 0 0)), (6, (TV.ref 1 0)), (7, (TV.ref 3 0))] 0 137, [(Ob.box [(TV.nil 3), (TV.nil 4), (TV.nil 2), (TV.nil 1)]), (Ob.box [(TV.ow 2)]), (Ob.row y1081 1), (Ob.box [(TV.ow 4), (TV.ow 5), (TV.ow 6), (TV.ow 7)]), (Ob.row y1082 3), (Ob.row y1083 4), (Ob.row y1084 2), (Ob.row y1085 1)], []⟩)
  | _ => none
def iParse_L15 (n : Nat) (ls : List Leaf) (R : Type) (k : Ex → St → Option R) : Option R :=
  match ls with
  | [.rows n58, .bool ok59, .rows es60, .rows es61, .rows es62, .rows es63] => iParse_l15 n n58 ok59 es60 es61 es62 es63 (fun y2086 y2087 y2088 y2089 => k (.exit 4) ⟨sparse .undef [(2, (TV.ref 0 0)), (6, (TV.ref 1 0)), (7, (TV.ref 3 0))] 0 137, [(Ob.box [(TV.nil 3), (TV.nil 4), (TV.nil 2), (TV.nil 1)]), (Ob.box [(TV.ow 2)]), (Ob.row y2086 1), (Ob.box [(TV.ow 4), (TV.ow 5), (TV.ow 6), (TV.nil 1)]), (Ob.row y2087 3), (Ob.row y2088 4), (Ob.row y2089 2)], []⟩)
  | _ => none
def iParse_L11 (n : Nat) (ls : List Leaf) (R : Type) (k : Ex → St → Option R) : Option R :=
  match ls with
  | [.rows n38, .bool ok39, .rows es40, .rows es41, .rows es42] => iParse_l11 n n38 ok39 es40 es41 es42 (fun y3090 y3091 y3092 => k (.exit 2) ⟨sparse .undef [(2, (TV.ref 0 0)), (6, (TV.ref 1 0)), (7, (TV.ref 3 0))] 0 137, [(Ob.box [(TV.nil 3), (TV.nil 4), (TV.nil 2), (TV.nil 1)]), (Ob.box [(TV.ow 2)]), (Ob.row y3090 1), (Ob.box [(TV.ow 4), (TV.ow 5), (TV.nil 2), (TV.nil 1)]), (Ob.row y3091 3), (Ob.row y3092 4)], []⟩)
  | _ => none
def iParse_L7 (n : Nat) (ls : List Leaf) (R : Type) (k : Ex → St → Option R) : Option R :=
  match ls with
  | [.rows n22, .bool ok23, .rows es24, .rows es25] => iParse_l7 n n22 ok23 es24 es25 (fun y4093 y4094 => k (.exit 0) ⟨sparse .undef [(2, (TV.ref 0 0)), (6, (TV.ref 1 0)), (7, (TV.ref 3 0))] 0 137, [(Ob.box [(TV.nil 3), (TV.nil 4), (TV.nil 2), (TV.nil 1)]), (Ob.box [(TV.ow 2)]), (Ob.row y4093 1), (Ob.box [(TV.ow 4), (TV.nil 4), (TV.nil 2), (TV.nil 1)]), (Ob.row y4094 3)], []⟩)
  | _ => none
def iParse_L (n key : Nat) (ls : List Leaf) (R : Type) (k : Ex → St → Option R) : Option R :=
  match key with
  | 19 => iParse_L19 n ls R k
  | 15 => iParse_L15 n ls R k
  | 11 => iParse_L11 n ls R k
  | 7 => iParse_L7 n ls R k
  | _ => none
def iParse_J (n key : Nat) (ls : List Leaf) (R : Type) (k : Ex → St → Option R) : Option R :=
  match key with
  | _ => none
def iParse_on : Code → Bool := fun _ => false
def iParse_Λ : Nat → Loops := patL (normBy iParse_cfg) iParse_pat iParse_L (normJ iParse_cfg) iParse_on iParse_patj iParse_J
theorem iParse_step7 (n : Nat) (n22 : List (List PV)) (ok23 : Bool) (es24 : List (List PV)) (es25 : List (List PV))  (R : Type) (k : Ex → St → Option R) :
    roundK T G0 (ctrOf iParse_Γ) (normBy iParse_cfg) (iParse_Λ n) (codeAt [1, 1, 1, 1, 1, 0, 1, 0, 0] (bodyOf Tryz.f6)) (buildSt ⟨sparse .undef [(2, (.ref 0 0)), (6, (.ref 1 0)), (7, (.ref 3 0)), (8, (.val .fs)), (9, (.val .bool))] 0 137, [(.box [(.nil 3), (.nil 4), (.nil 2), (.nil 1)]), (.box [(.ow 2)]), (.row 1), (.box [(.ow 4), (.nil 4), (.nil 2), (.nil 1)]), (.row 3)], []⟩ [.rows n22, .bool ok23, .rows es24, .rows es25]) R k = iParse_L7 (n + 1) [.rows n22, .bool ok23, .rows es24, .rows es25] R k := by kernel_rfl
theorem iParse_step11 (n : Nat) (n38 : List (List PV)) (ok39 : Bool) (es40 : List (List PV)) (es41 : List (List PV)) (es42 : List (List PV))  (R : Type) (k : Ex → St → Option R) :
    roundK T G0 (ctrOf iParse_Γ) (normBy iParse_cfg) (iParse_Λ n) (codeAt [1, 1, 1, 1, 1, 1, 0, 1, 0, 0] (bodyOf Tryz.f6)) (buildSt ⟨sparse .undef [(2, (.ref 0 0)), (6, (.ref 1 0)), (7, (.ref 3 0)), (10, (.val .fs)), (11, (.val .bool))] 0 137, [(.box [(.nil 3), (.nil 4), (.nil 2), (.nil 1)]), (.box [(.ow 2)]), (.row 1), (.box [(.ow 4), (.ow 5), (.nil 2), (.nil 1)]), (.row 3), (.row 4)], []⟩ [.rows n38, .bool ok39, .rows es40, .rows es41, .rows es42]) R k = iParse_L11 (n + 1) [.rows n38, .bool ok39, .rows es40, .rows es41, .rows es42] R k := by kernel_rfl
theorem iParse_step15 (n : Nat) (n58 : List (List PV)) (ok59 : Bool) (es60 : List (List PV)) (es61 : List (List PV)) (es62 : List (List PV)) (es63 : List (List PV))  (R : Type) (k : Ex → St → Option R) :
    roundK T G0 (ctrOf iParse_Γ) (normBy iParse_cfg) (iParse_Λ n) (codeAt [1, 1, 1, 1, 1, 1, 1, 0, 1, 0, 0] (bodyOf Tryz.f6)) (buildSt ⟨sparse .undef [(2, (.ref 0 0)), (6, (.ref 1 0)), (7, (.ref 3 0)), (12, (.val .fs)), (13, (.val .bool))] 0 137, [(.box [(.nil 3), (.nil 4), (.nil 2), (.nil 1)]), (.box [(.ow 2)]), (.row 1), (.box [(.ow 4), (.ow 5), (.ow 6), (.nil 1)]), (.row 3), (.row 4), (.row 2)], []⟩ [.rows n58, .bool ok59, .rows es60, .rows es61, .rows es62, .rows es63]) R k = iParse_L15 (n + 1) [.rows n58, .bool ok59, .rows es60, .rows es61, .rows es62, .rows es63] R k := by kernel_rfl
theorem iParse_step19 (n : Nat) (n73 : List (List PV)) (ok74 : Bool) (es75 : List (List PV)) (es76 : List (List PV)) (es77 : List (List PV)) (es78 : List (List PV)) (es79 : List (List PV))  (R : Type) (k : Ex → St → Option R) :
    roundK T G0 (ctrOf iParse_Γ) (normBy iParse_cfg) (iParse_Λ n) (codeAt [1, 1, 1, 1, 1, 1, 1, 1, 0, 1, 0, 0] (bodyOf Tryz.f6)) (buildSt ⟨sparse .undef [(2, (.ref 0 0)), (6, (.ref 1 0)), (7, (.ref 3 0)), (14, (.val .fs)), (15, (.val .bool))] 0 137, [(.box [(.nil 3), (.nil 4), (.nil 2), (.nil 1)]), (.box [(.ow 2)]), (.row 1), (.box [(.ow 4), (.ow 5), (.ow 6), (.ow 7)]), (.row 3), (.row 4), (.row 2), (.row 1)], []⟩ [.rows n73, .bool ok74, .rows es75, .rows es76, .rows es77, .rows es78, .rows es79]) R k = iParse_L19 (n + 1) [.rows n73, .bool ok74, .rows es75, .rows es76, .rows es77, .rows es78, .rows es79] R k := by kernel_rfl
theorem iParse_eq (n : Nat) (text1 : ByteArray) :
    funK T G0 (ctrOf iParse_Γ) (iParse_Λ n) .d false [none] (funOf Tryz.f6) [(PV.str text1)] = iParse_b n  text1 (fun a0 a1 a2 a3 a4 => some (iParse_E (a0, a1, a2, a3, a4))) := by kernel_rfl
theorem iParse_inv {ps : List PV} {y : (List (List PV)) × (List (List PV)) × (List (List PV)) × (List (List PV)) × Int} (h : iParse_D ps = some y) : ∃ (text1 : ByteArray), ps = [(PV.str text1)] := by
  unfold iParse_D at h
  split at h
  · exact ⟨_, rfl⟩
  · cases h
theorem iParse_loops : loopsOf (bodyOf Tryz.f6) = [codeAt [1, 1, 1, 1, 1, 0, 1, 0, 0] (bodyOf Tryz.f6), codeAt [1, 1, 1, 1, 1, 1, 0, 1, 0, 0] (bodyOf Tryz.f6), codeAt [1, 1, 1, 1, 1, 1, 1, 0, 1, 0, 0] (bodyOf Tryz.f6), codeAt [1, 1, 1, 1, 1, 1, 1, 1, 0, 1, 0, 0] (bodyOf Tryz.f6)] := by kernel_rfl
theorem iParse_holds (hΓ : HoldsAll Tryz.prog G0 iParse_Γ) (hok : ∀ (text1 : ByteArray) (y : (List (List PV)) × (List (List PV)) × (List (List PV)) × (List (List PV)) × Int), sIParse text1 = some y → ∃ n, ∀ (R : Type) (k : List (List PV) → List (List PV) → List (List PV) → List (List PV) → Int → Option R), iParse_b n  text1 k = k y.1 y.2.1 y.2.2.1 y.2.2.2.1 y.2.2.2.2) : Holds Tryz.prog G0 6 iParse_C := by
  refine fun_pat mixed tOk (ctrOf_ok hΓ) Tryz.func6 rfl rfl rfl rfl (F := funOf Tryz.f6) (normBy_ok iParse_cfg) (pat := iParse_pat) (L := iParse_L) (normJ_ok iParse_cfg) (on := iParse_on) (patj := iParse_patj) (J := iParse_J) (fun c hc ls R k => ?_) (fun c hc p hp m ls R k r h => ?_) (fun c hc p hp m ls R k r h => ?_) (fun ps x h => ?_)
  · rw [show (funOf Tryz.f6).code = bodyOf Tryz.f6 from rfl, iParse_loops] at hc
    simp only [List.mem_cons, List.not_mem_nil, or_false] at hc
    rcases hc with rfl | rfl | rfl | rfl
    · show iParse_L7 0 ls R k = none
      unfold iParse_L7
      split
      · rfl
      · rfl
    · show iParse_L11 0 ls R k = none
      unfold iParse_L11
      split
      · rfl
      · rfl
    · show iParse_L15 0 ls R k = none
      unfold iParse_L15
      split
      · rfl
      · rfl
    · show iParse_L19 0 ls R k = none
      unfold iParse_L19
      split
      · rfl
      · rfl
  · rw [show (funOf Tryz.f6).code = bodyOf Tryz.f6 from rfl, iParse_loops] at hc
    simp only [List.mem_cons, List.not_mem_nil, or_false] at hc
    rcases hc with rfl | rfl | rfl | rfl
    · have hp' : p = ⟨sparse .undef [(2, (.ref 0 0)), (6, (.ref 1 0)), (7, (.ref 3 0)), (8, (.val .fs)), (9, (.val .bool))] 0 137, [(.box [(.nil 3), (.nil 4), (.nil 2), (.nil 1)]), (.box [(.ow 2)]), (.row 1), (.box [(.ow 4), (.nil 4), (.nil 2), (.nil 1)]), (.row 3)], []⟩ := (Option.some.inj (hp : some _ = some p)).symm
      subst hp'
      change iParse_L7 (m + 1) ls R k = some r at h
      have h' := h
      unfold iParse_L7 at h'
      split at h'
      · exact (iParse_step7 m _ _ _ _ R k).trans h
      · cases h'
    · have hp' : p = ⟨sparse .undef [(2, (.ref 0 0)), (6, (.ref 1 0)), (7, (.ref 3 0)), (10, (.val .fs)), (11, (.val .bool))] 0 137, [(.box [(.nil 3), (.nil 4), (.nil 2), (.nil 1)]), (.box [(.ow 2)]), (.row 1), (.box [(.ow 4), (.ow 5), (.nil 2), (.nil 1)]), (.row 3), (.row 4)], []⟩ := (Option.some.inj (hp : some _ = some p)).symm
      subst hp'
      change iParse_L11 (m + 1) ls R k = some r at h
      have h' := h
      unfold iParse_L11 at h'
      split at h'
      · exact (iParse_step11 m _ _ _ _ _ R k).trans h
      · cases h'
    · have hp' : p = ⟨sparse .undef [(2, (.ref 0 0)), (6, (.ref 1 0)), (7, (.ref 3 0)), (12, (.val .fs)), (13, (.val .bool))] 0 137, [(.box [(.nil 3), (.nil 4), (.nil 2), (.nil 1)]), (.box [(.ow 2)]), (.row 1), (.box [(.ow 4), (.ow 5), (.ow 6), (.nil 1)]), (.row 3), (.row 4), (.row 2)], []⟩ := (Option.some.inj (hp : some _ = some p)).symm
      subst hp'
      change iParse_L15 (m + 1) ls R k = some r at h
      have h' := h
      unfold iParse_L15 at h'
      split at h'
      · exact (iParse_step15 m _ _ _ _ _ _ R k).trans h
      · cases h'
    · have hp' : p = ⟨sparse .undef [(2, (.ref 0 0)), (6, (.ref 1 0)), (7, (.ref 3 0)), (14, (.val .fs)), (15, (.val .bool))] 0 137, [(.box [(.nil 3), (.nil 4), (.nil 2), (.nil 1)]), (.box [(.ow 2)]), (.row 1), (.box [(.ow 4), (.ow 5), (.ow 6), (.ow 7)]), (.row 3), (.row 4), (.row 2), (.row 1)], []⟩ := (Option.some.inj (hp : some _ = some p)).symm
      subst hp'
      change iParse_L19 (m + 1) ls R k = some r at h
      have h' := h
      unfold iParse_L19 at h'
      split at h'
      · exact (iParse_step19 m _ _ _ _ _ _ _ R k).trans h
      · cases h'
  · cases (List.mem_filter.1 hc).2
  · obtain ⟨y, hy, hx⟩ := bind_inv h
    cases hx
    obtain ⟨text1, rfl⟩ := iParse_inv hy
    obtain ⟨n, hn⟩ := hok text1 y hy
    exact ⟨n, (iParse_eq n text1).trans (hn _ _)⟩

/-! ## drayman/inst.Print -/
def iPrint_l21 {R : Type} : Nat → ByteArray → List (List PV) → Int → Int → (ByteArray → Option R) → Option R
  | 0, _, _, _, _, _ => none
  | n + 1, out73, es74, i75, i76, k0 =>
    cond (decide (i76 < i75)) (
      Option.bind (idx es74 i76) fun e77 =>
      if e77.length = 1 then
        Option.bind (e77[0]?) fun c78 =>
        Option.bind (PV.asFs c78) fun es79 =>
        Option.bind (sILine (ByteArray.mk #[114, 111, 119]) es79) fun y80 =>
        if (out73).size + (y80).size ≤ 140737488355328 then
          iPrint_l21 n (out73 ++ y80) es74 i75 (IntKind.i64.wrap (i76 + (1 : Int))) k0
        else none
      else none) (
      k0 out73)
def iPrint_l16 {R : Type} : Nat → ByteArray → List (List PV) → Int → Int → List (List PV) → List (List PV) → List (List PV) → List (List PV) → (ByteArray → List (List PV) → List (List PV) → List (List PV) → List (List PV) → Option R) → Option R
  | 0, _, _, _, _, _, _, _, _, _ => none
  | n + 1, out58, es59, i60, i61, es62, es63, es64, es65, k0 =>
    cond (decide (i61 < i60)) (
      Option.bind (idx es59 i61) fun e66 =>
      if e66.length = 2 then
        Option.bind (subAgg e66 0 2) fun p67 =>
        if (PV.isAgg p67 2) = true then
          Option.bind ((PV.cells p67)[0]?) fun c68 =>
          Option.bind (PV.asI .i64 c68) fun n69 =>
          Option.bind ((PV.cells p67)[1]?) fun c70 =>
          Option.bind (PV.asI .i64 c70) fun n71 =>
          Option.bind (sILine (ByteArray.mk #[112, 97, 105, 114]) [[(PV.int .i64 n69)], [(PV.int .i64 n71)]]) fun y72 =>
          if (out58).size + (y72).size ≤ 140737488355328 then
            iPrint_l16 n (out58 ++ y72) es59 i60 (IntKind.i64.wrap (i61 + (1 : Int))) es62 es63 es64 es65 k0
          else none
        else none
      else none) (
      k0 out58 es62 es63 es64 es65)
def iPrint_l11 {R : Type} : Nat → ByteArray → List (List PV) → Int → Int → List (List PV) → List (List PV) → List (List PV) → List (List PV) → (ByteArray → List (List PV) → List (List PV) → List (List PV) → List (List PV) → Option R) → Option R
  | 0, _, _, _, _, _, _, _, _, _ => none
  | n + 1, out39, es40, i41, i42, es43, es44, es45, es46, k0 =>
    cond (decide (i42 < i41)) (
      Option.bind (idx es40 i42) fun e47 =>
      if e47.length = 4 then
        Option.bind (subAgg e47 0 4) fun p48 =>
        if (PV.isAgg p48 4) = true then
          Option.bind ((PV.cells p48)[0]?) fun c49 =>
          Option.bind (PV.asI .i64 c49) fun n50 =>
          Option.bind ((PV.cells p48)[1]?) fun c51 =>
          Option.bind (PV.asI .i64 c51) fun n52 =>
          Option.bind ((PV.cells p48)[2]?) fun c53 =>
          Option.bind (PV.asI .i64 c53) fun n54 =>
          Option.bind ((PV.cells p48)[3]?) fun c55 =>
          Option.bind (PV.asI .i64 c55) fun n56 =>
          Option.bind (sILine (ByteArray.mk #[115, 116, 111, 112]) [[(PV.int .i64 n50)], [(PV.int .i64 n52)], [(PV.int .i64 n54)], [(PV.int .i64 n56)]]) fun y57 =>
          if (out39).size + (y57).size ≤ 140737488355328 then
            iPrint_l11 n (out39 ++ y57) es40 i41 (IntKind.i64.wrap (i42 + (1 : Int))) es43 es44 es45 es46 k0
          else none
        else none
      else none) (
      k0 out39 es43 es44 es45 es46)
def iPrint_l6 {R : Type} : Nat → ByteArray → List (List PV) → Int → Int → List (List PV) → List (List PV) → List (List PV) → List (List PV) → (ByteArray → List (List PV) → List (List PV) → List (List PV) → List (List PV) → Option R) → Option R
  | 0, _, _, _, _, _, _, _, _, _ => none
  | n + 1, out22, es23, i24, i25, es26, es27, es28, es29, k0 =>
    cond (decide (i25 < i24)) (
      Option.bind (idx es23 i25) fun e30 =>
      if e30.length = 3 then
        Option.bind (subAgg e30 0 3) fun p31 =>
        if (PV.isAgg p31 3) = true then
          Option.bind ((PV.cells p31)[0]?) fun c32 =>
          Option.bind (PV.asI .i64 c32) fun n33 =>
          Option.bind ((PV.cells p31)[1]?) fun c34 =>
          Option.bind (PV.asI .i64 c34) fun n35 =>
          Option.bind ((PV.cells p31)[2]?) fun c36 =>
          Option.bind (PV.asI .i64 c36) fun n37 =>
          Option.bind (sILine (ByteArray.mk #[99, 97, 114]) [[(PV.int .i64 n33)], [(PV.int .i64 n35)], [(PV.int .i64 n37)]]) fun y38 =>
          if (out22).size + (y38).size ≤ 140737488355328 then
            iPrint_l6 n (out22 ++ y38) es23 i24 (IntKind.i64.wrap (i25 + (1 : Int))) es26 es27 es28 es29 k0
          else none
        else none
      else none) (
      k0 out22 es26 es27 es28 es29)
def iPrint_b {R : Type} (n : Nat) (i1 : List (List PV)) (i2 : List (List PV)) (i3 : List (List PV)) (i4 : List (List PV)) (k : ByteArray → Int → Option R) : Option R :=
  Option.bind (iCheck_d i1 i2 i3 i4) fun y5 =>
  cond (y5 != (0 : Int)) (
    k (ByteArray.mk #[]) y5) (
    iPrint_l6 n (ByteArray.mk #[]) i1 (i1.length : Int) 0 i1 i2 i3 i4
      (fun (out6 : ByteArray) (es7 : List (List PV)) (es8 : List (List PV)) (es9 : List (List PV)) (es10 : List (List PV)) =>
        iPrint_l11 n out6 es8 (es8.length : Int) 0 es7 es8 es9 es10
          (fun (out11 : ByteArray) (es12 : List (List PV)) (es13 : List (List PV)) (es14 : List (List PV)) (es15 : List (List PV)) =>
            iPrint_l16 n out11 es14 (es14.length : Int) 0 es12 es13 es14 es15
              (fun (out16 : ByteArray) (es17 : List (List PV)) (es18 : List (List PV)) (es19 : List (List PV)) (es20 : List (List PV)) =>
                iPrint_l21 n out16 es20 (es20.length : Int) 0
                  (fun (out21 : ByteArray) =>
                    k out21 0)))))
def iPrint_E (y : ByteArray × Int) : PV × List PV := ((PV.tuple [(PV.str y.1), (PV.int .i64 y.2)]), [])
def iPrint_D : List PV → Option (ByteArray × Int)
  | [(PV.agg [(PV.fs i1), (PV.fs i2), (PV.fs i3), (PV.fs i4)])] => sIPrint i1 i2 i3 i4
  | _ => none
def iPrint_Γ : List (Nat × Cal) := [(8, .ctr iCheck_C), (14, .ctr iLine_C)]
def iPrint_C : Ctr := ⟨[none], ByteArray × Int, iPrint_D, iPrint_E, true, .d⟩
def iPrint_cfg : List (Nat × LC) := [(6, ⟨[1, 5, 20, 21, 22], [], [], []⟩),
  (1006000, ⟨[1, 5], [], [], []⟩),
  (11, ⟨[1, 5, 38, 39, 40], [], [], []⟩),
  (1011002, ⟨[1, 5], [], [], []⟩),
  (16, ⟨[1, 5, 58, 59, 60], [], [], []⟩),
  (1016004, ⟨[1, 5], [], [], []⟩),
  (21, ⟨[5, 74, 75, 76], [], [], []⟩),
  (1021006, ⟨[5], [], [], []⟩)]
def iPrint_pat : Nat → Option SP
  | 21 => some ⟨sparse .undef [(5, (.val .str)), (74, (.val .fs)), (75, (.val (.int .i64))), (76, (.val (.int .i64)))] 0 86, [], []⟩
  | 16 => some ⟨sparse .undef [(1, (.ref 0 0)), (5, (.val .str)), (58, (.val .fs)), (59, (.val (.int .i64))), (60, (.val (.int .i64)))] 0 86, [(.pbox (.agg [.fs, .fs, .fs, .fs]) 4)], []⟩
  | 11 => some ⟨sparse .undef [(1, (.ref 0 0)), (5, (.val .str)), (38, (.val .fs)), (39, (.val (.int .i64))), (40, (.val (.int .i64)))] 0 86, [(.pbox (.agg [.fs, .fs, .fs, .fs]) 4)], []⟩
  | 6 => some ⟨sparse .undef [(1, (.ref 0 0)), (5, (.val .str)), (20, (.val .fs)), (21, (.val (.int .i64))), (22, (.val (.int .i64)))] 0 86, [(.pbox (.agg [.fs, .fs, .fs, .fs]) 4)], []⟩
  | _ => none
def iPrint_patj : Nat → Option SP
  | _ => none
def iPrint_L21 (n : Nat) (ls : List Leaf) (R : Type) (k : Ex → St → Option R) : Option R :=
  match ls with
  | [.str out73, .rows es74, .int i75, .int i76] => iPrint_l21 n out73 es74 i75 i76 (fun y1081 => k (.exit 6) ⟨sparse .undef [(5, (TV.val (PV.str y1081)))] 0 86, [], []⟩)
  | _ => none
def iPrint_L16 (n : Nat) (ls : List Leaf) (R : Type) (k : Ex → St → Option R) : Option R :=
  match ls with
  | [.str out58, .rows es59, .int i60, .int i61, .rows es62, .rows es63, .rows es64, .rows es65] => iPrint_l16 n out58 es59 i60 i61 es62 es63 es64 es65 (fun y2082 y2083 y2084 y2085 y2086 => k (.exit 4) ⟨sparse .undef [(1, (TV.ref 0 0)), (5, (TV.val (PV.str y2082)))] 0 86, [(Ob.pbox (PV.agg [(PV.fs y2083), (PV.fs y2084), (PV.fs y2085), (PV.fs y2086)]) 4)], []⟩)
  | _ => none
def iPrint_L11 (n : Nat) (ls : List Leaf) (R : Type) (k : Ex → St → Option R) : Option R :=
  match ls with
  | [.str out39, .rows es40, .int i41, .int i42, .rows es43, .rows es44, .rows es45, .rows es46] => iPrint_l11 n out39 es40 i41 i42 es43 es44 es45 es46 (fun y3087 y3088 y3089 y3090 y3091 => k (.exit 2) ⟨sparse .undef [(1, (TV.ref 0 0)), (5, (TV.val (PV.str y3087)))] 0 86, [(Ob.pbox (PV.agg [(PV.fs y3088), (PV.fs y3089), (PV.fs y3090), (PV.fs y3091)]) 4)], []⟩)
  | _ => none
def iPrint_L6 (n : Nat) (ls : List Leaf) (R : Type) (k : Ex → St → Option R) : Option R :=
  match ls with
  | [.str out22, .rows es23, .int i24, .int i25, .rows es26, .rows es27, .rows es28, .rows es29] => iPrint_l6 n out22 es23 i24 i25 es26 es27 es28 es29 (fun y4092 y4093 y4094 y4095 y4096 => k (.exit 0) ⟨sparse .undef [(1, (TV.ref 0 0)), (5, (TV.val (PV.str y4092)))] 0 86, [(Ob.pbox (PV.agg [(PV.fs y4093), (PV.fs y4094), (PV.fs y4095), (PV.fs y4096)]) 4)], []⟩)
  | _ => none
def iPrint_L (n key : Nat) (ls : List Leaf) (R : Type) (k : Ex → St → Option R) : Option R :=
  match key with
  | 21 => iPrint_L21 n ls R k
  | 16 => iPrint_L16 n ls R k
  | 11 => iPrint_L11 n ls R k
  | 6 => iPrint_L6 n ls R k
  | _ => none
def iPrint_J (n key : Nat) (ls : List Leaf) (R : Type) (k : Ex → St → Option R) : Option R :=
  match key with
  | _ => none
def iPrint_on : Code → Bool := fun _ => false
def iPrint_Λ : Nat → Loops := patL (normBy iPrint_cfg) iPrint_pat iPrint_L (normJ iPrint_cfg) iPrint_on iPrint_patj iPrint_J
theorem iPrint_step6 (n : Nat) (out22 : ByteArray) (es23 : List (List PV)) (i24 : Int) (i25 : Int) (es26 : List (List PV)) (es27 : List (List PV)) (es28 : List (List PV)) (es29 : List (List PV))  (R : Type) (k : Ex → St → Option R) :
    roundK T G0 (ctrOf iPrint_Γ) (normBy iPrint_cfg) (iPrint_Λ n) (codeAt [1, 1, 1, 0, 1, 0, 0] (bodyOf Tryz.f5)) (buildSt ⟨sparse .undef [(1, (.ref 0 0)), (5, (.val .str)), (20, (.val .fs)), (21, (.val (.int .i64))), (22, (.val (.int .i64)))] 0 86, [(.pbox (.agg [.fs, .fs, .fs, .fs]) 4)], []⟩ [.str out22, .rows es23, .int i24, .int i25, .rows es26, .rows es27, .rows es28, .rows es29]) R k = iPrint_L6 (n + 1) [.str out22, .rows es23, .int i24, .int i25, .rows es26, .rows es27, .rows es28, .rows es29] R k := by kernel_rfl
theorem iPrint_step11 (n : Nat) (out39 : ByteArray) (es40 : List (List PV)) (i41 : Int) (i42 : Int) (es43 : List (List PV)) (es44 : List (List PV)) (es45 : List (List PV)) (es46 : List (List PV))  (R : Type) (k : Ex → St → Option R) :
    roundK T G0 (ctrOf iPrint_Γ) (normBy iPrint_cfg) (iPrint_Λ n) (codeAt [1, 1, 1, 1, 0, 1, 0, 0] (bodyOf Tryz.f5)) (buildSt ⟨sparse .undef [(1, (.ref 0 0)), (5, (.val .str)), (38, (.val .fs)), (39, (.val (.int .i64))), (40, (.val (.int .i64)))] 0 86, [(.pbox (.agg [.fs, .fs, .fs, .fs]) 4)], []⟩ [.str out39, .rows es40, .int i41, .int i42, .rows es43, .rows es44, .rows es45, .rows es46]) R k = iPrint_L11 (n + 1) [.str out39, .rows es40, .int i41, .int i42, .rows es43, .rows es44, .rows es45, .rows es46] R k := by kernel_rfl
theorem iPrint_step16 (n : Nat) (out58 : ByteArray) (es59 : List (List PV)) (i60 : Int) (i61 : Int) (es62 : List (List PV)) (es63 : List (List PV)) (es64 : List (List PV)) (es65 : List (List PV))  (R : Type) (k : Ex → St → Option R) :
    roundK T G0 (ctrOf iPrint_Γ) (normBy iPrint_cfg) (iPrint_Λ n) (codeAt [1, 1, 1, 1, 1, 0, 1, 0, 0] (bodyOf Tryz.f5)) (buildSt ⟨sparse .undef [(1, (.ref 0 0)), (5, (.val .str)), (58, (.val .fs)), (59, (.val (.int .i64))), (60, (.val (.int .i64)))] 0 86, [(.pbox (.agg [.fs, .fs, .fs, .fs]) 4)], []⟩ [.str out58, .rows es59, .int i60, .int i61, .rows es62, .rows es63, .rows es64, .rows es65]) R k = iPrint_L16 (n + 1) [.str out58, .rows es59, .int i60, .int i61, .rows es62, .rows es63, .rows es64, .rows es65] R k := by kernel_rfl
theorem iPrint_step21 (n : Nat) (out73 : ByteArray) (es74 : List (List PV)) (i75 : Int) (i76 : Int)  (R : Type) (k : Ex → St → Option R) :
    roundK T G0 (ctrOf iPrint_Γ) (normBy iPrint_cfg) (iPrint_Λ n) (codeAt [1, 1, 1, 1, 1, 1, 0, 1, 0, 0] (bodyOf Tryz.f5)) (buildSt ⟨sparse .undef [(5, (.val .str)), (74, (.val .fs)), (75, (.val (.int .i64))), (76, (.val (.int .i64)))] 0 86, [], []⟩ [.str out73, .rows es74, .int i75, .int i76]) R k = iPrint_L21 (n + 1) [.str out73, .rows es74, .int i75, .int i76] R k := by kernel_rfl
theorem iPrint_eq (n : Nat) (i1 : List (List PV)) (i2 : List (List PV)) (i3 : List (List PV)) (i4 : List (List PV)) :
    funK T G0 (ctrOf iPrint_Γ) (iPrint_Λ n) .d true [none] (funOf Tryz.f5) [(PV.agg [(PV.fs i1), (PV.fs i2), (PV.fs i3), (PV.fs i4)])] = iPrint_b n  i1 i2 i3 i4 (fun a0 a1 => some (iPrint_E (a0, a1))) := by kernel_rfl
theorem iPrint_inv {ps : List PV} {y : ByteArray × Int} (h : iPrint_D ps = some y) : ∃ (i1 : List (List PV)) (i2 : List (List PV)) (i3 : List (List PV)) (i4 : List (List PV)), ps = [(PV.agg [(PV.fs i1), (PV.fs i2), (PV.fs i3), (PV.fs i4)])] := by
  unfold iPrint_D at h
  split at h
  · exact ⟨_, _, _, _, rfl⟩
  · cases h
theorem iPrint_loops : loopsOf (bodyOf Tryz.f5) = [codeAt [1, 1, 1, 0, 1, 0, 0] (bodyOf Tryz.f5), codeAt [1, 1, 1, 1, 0, 1, 0, 0] (bodyOf Tryz.f5), codeAt [1, 1, 1, 1, 1, 0, 1, 0, 0] (bodyOf Tryz.f5), codeAt [1, 1, 1, 1, 1, 1, 0, 1, 0, 0] (bodyOf Tryz.f5)] := by kernel_rfl
theorem iPrint_holds (hΓ : HoldsAll Tryz.prog G0 iPrint_Γ) (hok : ∀ (i1 : List (List PV)) (i2 : List (List PV)) (i3 : List (List PV)) (i4 : List (List PV)) (y : ByteArray × Int), sIPrint i1 i2 i3 i4 = some y → ∃ n, ∀ (R : Type) (k : ByteArray → Int → Option R), iPrint_b n  i1 i2 i3 i4 k = k y.1 y.2) : Holds Tryz.prog G0 5 iPrint_C := by
  refine fun_pat mixed tOk (ctrOf_ok hΓ) Tryz.func5 rfl rfl rfl rfl (F := funOf Tryz.f5) (normBy_ok iPrint_cfg) (pat := iPrint_pat) (L := iPrint_L) (normJ_ok iPrint_cfg) (on := iPrint_on) (patj := iPrint_patj) (J := iPrint_J) (fun c hc ls R k => ?_) (fun c hc p hp m ls R k r h => ?_) (fun c hc p hp m ls R k r h => ?_) (fun ps x h => ?_)
  · rw [show (funOf Tryz.f5).code = bodyOf Tryz.f5 from rfl, iPrint_loops] at hc
    simp only [List.mem_cons, List.not_mem_nil, or_false] at hc
    rcases hc with rfl | rfl | rfl | rfl
    · show iPrint_L6 0 ls R k = none
      unfold iPrint_L6
      split
      · rfl
      · rfl
    · show iPrint_L11 0 ls R k = none
      unfold iPrint_L11
      split
      · rfl
      · rfl
    · show iPrint_L16 0 ls R k = none
      unfold iPrint_L16
      split
      · rfl
      · rfl
    · show iPrint_L21 0 ls R k = none
      unfold iPrint_L21
      split
      · rfl
      · rfl
  · rw [show (funOf Tryz.f5).code = bodyOf Tryz.f5 from rfl, iPrint_loops] at hc
    simp only [List.mem_cons, List.not_mem_nil, or_false] at hc
    rcases hc with rfl | rfl | rfl | rfl
    · have hp' : p = ⟨sparse .undef [(1, (.ref 0 0)), (5, (.val .str)), (20, (.val .fs)), (21, (.val (.int .i64))), (22, (.val (.int .i64)))] 0 86, [(.pbox (.agg [.fs, .fs, .fs, .fs]) 4)], []⟩ := (Option.some.inj (hp : some _ = some p)).symm
      subst hp'
      change iPrint_L6 (m + 1) ls R k = some r at h
      have h' := h
      unfold iPrint_L6 at h'
      split at h'
      · exact (iPrint_step6 m _ _ _ _ _ _ _ _ R k).trans h
      · cases h'
    · have hp' : p = ⟨sparse .undef [(1, (.ref 0 0)), (5, (.val .str)), (38, (.val .fs)), (39, (.val (.int .i64))), (40, (.val (.int .i64)))] 0 86, [(.pbox (.agg [.fs, .fs, .fs, .fs]) 4)], []⟩ := (Option.some.inj (hp : some _ = some p)).symm
      subst hp'
      change iPrint_L11 (m + 1) ls R k = some r at h
      have h' := h
      unfold iPrint_L11 at h'
      split at h'
      · exact (iPrint_step11 m _ _ _ _ _ _ _ _ R k).trans h
      · cases h'
    · have hp' : p = ⟨sparse .undef [(1, (.ref 0 0)), (5, (.val .str)), (58, (.val .fs)), (59, (.val (.int .i64))), (60, (.val (.int .i64)))] 0 86, [(.pbox (.agg [.fs, .fs, .fs, .fs]) 4)], []⟩ := (Option.some.inj (hp : some _ = some p)).symm
      subst hp'
      change iPrint_L16 (m + 1) ls R k = some r at h
      have h' := h
      unfold iPrint_L16 at h'
      split at h'
      · exact (iPrint_step16 m _ _ _ _ _ _ _ _ R k).trans h
      · cases h'
    · have hp' : p = ⟨sparse .undef [(5, (.val .str)), (74, (.val .fs)), (75, (.val (.int .i64))), (76, (.val (.int .i64)))] 0 86, [], []⟩ := (Option.some.inj (hp : some _ = some p)).symm
      subst hp'
      change iPrint_L21 (m + 1) ls R k = some r at h
      have h' := h
      unfold iPrint_L21 at h'
      split at h'
      · exact (iPrint_step21 m _ _ _ _ R k).trans h
      · cases h'
  · cases (List.mem_filter.1 hc).2
  · obtain ⟨y, hy, hx⟩ := bind_inv h
    cases hx
    obtain ⟨i1, i2, i3, i4, rfl⟩ := iPrint_inv hy
    obtain ⟨n, hn⟩ := hok i1 i2 i3 i4 y hy
    exact ⟨n, (iPrint_eq n i1 i2 i3 i4).trans (hn _ _)⟩

end
end Go.Proofs.YtkeklbicmfhemabGreatDoorV
