/- What the functions of the program come to, as the reading machine has it: printed by dec.py. -/
import Derived.Test.YtkeklbicmfhemaaDoorVTab
import Derived.Test.YtkeklbicmfhemaaDoorS24
import Derived.Test.YtkeklbicmfhemaaDoorD02
namespace Go.Proofs.YtkeklbicmfhemaaDoorV
open Go
set_option maxRecDepth 100000
set_option linter.unusedVariables false
set_option linter.unusedSimpArgs false
noncomputable section
/-! ## drayman/script.words -/
def scWords_b {R : Type} (k : List (List PV) → Option R) : Option R :=
  k [[(PV.str (ByteArray.mk #[111, 112, 101, 110]))], [(PV.str (ByteArray.mk #[99, 108, 111, 115, 101]))], [(PV.str (ByteArray.mk #[115, 97, 121]))], [(PV.str (ByteArray.mk #[98, 121, 116, 101, 115]))], [(PV.str (ByteArray.mk #[112, 105, 99, 107]))], [(PV.str (ByteArray.mk #[114, 117, 110]))]]
def scWords_E (y : (List (List PV))) : PV × List PV := ((PV.os y 1), [])
def scWords_d : Option ((List (List PV))) := scWords_b fun a0 => if (noMem (scWords_E a0).1 && noMemL (scWords_E a0).2) = true then some a0 else none
def scWords_D : List PV → Option ((List (List PV)))
  | [] => scWords_d
  | _ => none
def scWords_Γ : List (Nat × Cal) := []
def scWords_C : Ctr := ⟨[], (List (List PV)), scWords_D, scWords_E, true, .s⟩
theorem scWords_eq :
    funK T G0 (ctrOf scWords_Γ) noL .s true [] (funOf Tryd.f64) [] = scWords_b  (fun a0 => if (noMem (scWords_E a0).1 && noMemL (scWords_E a0).2) = true then some (scWords_E a0) else none) := by kernel_rfl
theorem scWords_inv {ps : List PV} {y : (List (List PV))} (h : scWords_D ps = some y) : ps = [] := by
  unfold scWords_D at h
  split at h
  · rfl
  · cases h
theorem scWords_nat {R : Type} (k : List (List PV) → Option R) : scWords_b k = Option.bind (scWords_b fun a0 => some a0) fun y => k y := by
  unfold scWords_b
  first | rfl | simp only [Option.bind_assoc, bind_cond, bind_ite, Option.bind_some, Option.bind_none]
theorem scWords_holds (hΓ : HoldsAll Tryd.prog G0 scWords_Γ) : Holds Tryd.prog G0 64 scWords_C := by
  refine fun_ok mixed tOk (ctrOf_ok hΓ) Tryd.func64 rfl rfl rfl rfl (F := funOf Tryd.f64) (fun ps x h => ?_)
  obtain ⟨y, hy, hx⟩ := bind_inv h
  cases hx
  obtain rfl := scWords_inv hy
  have hy' : scWords_d = some y := hy
  refine ⟨noL, noL_ok _, (scWords_eq).trans ?_⟩
  unfold scWords_d at hy'
  rw [scWords_nat] at hy' ⊢
  obtain ⟨z, hz, hz'⟩ := bind_inv hy'
  rw [hz]
  try simp only at hz'
  split at hz'
  · rename_i hno
    cases hz'
    exact if_pos hno
  · cases hz'

/-! ## drayman/script.text -/
def scText_b {R : Type} (kind1 : Int) (k : Bool → Option R) : Option R :=
  cond (kind1 == (3 : Int)) (
    k true) (
    k (kind1 == (4 : Int)))
def scText_E (y : Bool) : PV × List PV := ((PV.bool y), [])
def scText_d (kind1 : Int) : Option (Bool) := scText_b kind1 fun a0 => some a0
def scText_D : List PV → Option (Bool)
  | [(PV.int .i64 kind1)] => scText_d kind1
  | _ => none
def scText_Γ : List (Nat × Cal) := []
def scText_C : Ctr := ⟨[none], Bool, scText_D, scText_E, true, .d⟩
theorem scText_eq (kind1 : Int) :
    funK T G0 (ctrOf scText_Γ) noL .d true [none] (funOf Tryd.f65) [(PV.int .i64 kind1)] = scText_b  kind1 (fun a0 => some (scText_E a0)) := by kernel_rfl
theorem scText_inv {ps : List PV} {y : Bool} (h : scText_D ps = some y) : ∃ (kind1 : Int), ps = [(PV.int .i64 kind1)] := by
  unfold scText_D at h
  split at h
  · exact ⟨_, rfl⟩
  · cases h
theorem scText_nat {R : Type} (kind1 : Int) (k : Bool → Option R) : scText_b kind1 k = Option.bind (scText_b kind1 fun a0 => some a0) fun y => k y := by
  unfold scText_b
  first | rfl | simp only [Option.bind_assoc, bind_cond, bind_ite, Option.bind_some, Option.bind_none]
theorem scText_holds (hΓ : HoldsAll Tryd.prog G0 scText_Γ) : Holds Tryd.prog G0 65 scText_C := by
  refine fun_ok mixed tOk (ctrOf_ok hΓ) Tryd.func65 rfl rfl rfl rfl (F := funOf Tryd.f65) (fun ps x h => ?_)
  obtain ⟨y, hy, hx⟩ := bind_inv h
  cases hx
  obtain ⟨kind1, rfl⟩ := scText_inv hy
  have hy' : scText_d kind1 = some y := hy
  refine ⟨noL, noL_ok _, (scText_eq kind1).trans ?_⟩
  unfold scText_d at hy'
  rw [scText_nat, hy']
  rfl

/-! ## drayman/script.act -/
def scAct_l3 {R : Type} : Nat → ByteArray → ByteArray → Bool → Int → Int → Int → Int → ByteArray → List (List PV) → (Bool → Int → Int → ByteArray → Option R) → (Int → Int → ByteArray → Option R) → Option R
  | 0, _, _, _, _, _, _, _, _, _, _, _ => none
  | n + 1, word11, rest12, is13, i14, i15, i16, i17, s18, es19, k0, k1 =>
    cond (decide (i15 < i14)) (
      if 0 ≤ i15 ∧ i15 < (es19.length : Int) then
        Option.bind (es19[(Int.toNat i15)]?) fun e20 =>
        Option.bind (e20[0]?) fun c21 =>
        Option.bind (PV.asS c21) fun s22 =>
        cond (!(ByteArray.toList s22 == ByteArray.toList word11)) (
          scAct_l3 n word11 rest12 is13 i14 (IntKind.i64.wrap (i15 + (1 : Int))) i16 i17 s18 es19 k0 k1) (
          cond (!is13) (
            scAct_l3 n word11 rest12 is13 i14 (IntKind.i64.wrap (i15 + (1 : Int))) i16 i17 s18 es19 k0 k1) (
            Option.bind (sCut rest12 (ByteArray.mk #[32])) fun y23 =>
            Option.bind (sInt_d y23.1) fun y24 =>
            cond y24.2 (
              cond (decide (y24.1 ≥ (0 : Int))) (
                cond (decide (y24.1 ≤ (9999 : Int))) (
                  meet (
                    Option.bind (scText_d (IntKind.i64.wrap (i15 + (1 : Int)))) fun y25 =>
                    meet (
                      k0 (y23.2.2 == y25) (IntKind.i64.wrap (i15 + (1 : Int))) y24.1 y23.2.1) (
                      k0 (y23.2.2 == y25) (IntKind.i64.wrap (i15 + (1 : Int))) y24.1 y23.2.1)) (
                    Option.bind (scText_d (IntKind.i64.wrap (i15 + (1 : Int)))) fun y26 =>
                    meet (
                      meet (
                        k0 (y23.2.2 == y26) (IntKind.i64.wrap (i15 + (1 : Int))) y24.1 y23.2.1) (
                        k0 (y23.2.2 == y26) (IntKind.i64.wrap (i15 + (1 : Int))) y24.1 y23.2.1)) (
                      k0 (y23.2.2 == y26) (IntKind.i64.wrap (i15 + (1 : Int))) y24.1 y23.2.1))) (
                  meet (
                    meet (
                      k0 false (IntKind.i64.wrap (i15 + (1 : Int))) y24.1 y23.2.1) (
                      k0 false (IntKind.i64.wrap (i15 + (1 : Int))) y24.1 y23.2.1)) (
                    meet (
                      meet (
                        k0 false (IntKind.i64.wrap (i15 + (1 : Int))) y24.1 y23.2.1) (
                        k0 false (IntKind.i64.wrap (i15 + (1 : Int))) y24.1 y23.2.1)) (
                      meet (
                        meet (
                          k0 false (IntKind.i64.wrap (i15 + (1 : Int))) y24.1 y23.2.1) (
                          k0 false (IntKind.i64.wrap (i15 + (1 : Int))) y24.1 y23.2.1)) (
                        k0 false (IntKind.i64.wrap (i15 + (1 : Int))) y24.1 y23.2.1))))) (
                meet (
                  meet (
                    k0 false (IntKind.i64.wrap (i15 + (1 : Int))) y24.1 y23.2.1) (
                    k0 false (IntKind.i64.wrap (i15 + (1 : Int))) y24.1 y23.2.1)) (
                  meet (
                    meet (
                      k0 false (IntKind.i64.wrap (i15 + (1 : Int))) y24.1 y23.2.1) (
                      k0 false (IntKind.i64.wrap (i15 + (1 : Int))) y24.1 y23.2.1)) (
                    meet (
                      meet (
                        k0 false (IntKind.i64.wrap (i15 + (1 : Int))) y24.1 y23.2.1) (
                        k0 false (IntKind.i64.wrap (i15 + (1 : Int))) y24.1 y23.2.1)) (
                      k0 false (IntKind.i64.wrap (i15 + (1 : Int))) y24.1 y23.2.1))))) (
              meet (
                meet (
                  k0 false (IntKind.i64.wrap (i15 + (1 : Int))) y24.1 y23.2.1) (
                  k0 false (IntKind.i64.wrap (i15 + (1 : Int))) y24.1 y23.2.1)) (
                meet (
                  meet (
                    k0 false (IntKind.i64.wrap (i15 + (1 : Int))) y24.1 y23.2.1) (
                    k0 false (IntKind.i64.wrap (i15 + (1 : Int))) y24.1 y23.2.1)) (
                  meet (
                    meet (
                      k0 false (IntKind.i64.wrap (i15 + (1 : Int))) y24.1 y23.2.1) (
                      k0 false (IntKind.i64.wrap (i15 + (1 : Int))) y24.1 y23.2.1)) (
                    k0 false (IntKind.i64.wrap (i15 + (1 : Int))) y24.1 y23.2.1))))))
      else none) (
      k1 i16 i17 s18)
def scAct_b {R : Type} (n : Nat) (line1 : ByteArray) (k : Int → Int → ByteArray → Bool → Option R) : Option R :=
  Option.bind (sCut line1 (ByteArray.mk #[32])) fun y2 =>
  Option.bind (scWords_d) fun y3 =>
  scAct_l3 n y2.1 y2.2.1 y2.2.2 (y3.length : Int) 0 0 0 (ByteArray.mk #[]) y3
    (fun (b4 : Bool) (i5 : Int) (i6 : Int) (s7 : ByteArray) =>
      k i5 i6 s7 b4)
    (fun (i8 : Int) (i9 : Int) (s10 : ByteArray) =>
      k 0 0 (ByteArray.mk #[]) false)
def scAct_E (y : Int × Int × ByteArray × Bool) : PV × List PV := ((PV.tuple [(PV.agg [(PV.int .i64 y.1), (PV.int .i64 y.2.1), (PV.str y.2.2.1)]), (PV.bool y.2.2.2)]), [])
def scAct_D : List PV → Option (Int × Int × ByteArray × Bool)
  | [(PV.str line1)] => sScAct line1
  | _ => none
def scAct_Γ : List (Nat × Cal) := [(39, .ctr cutS_C), (64, .ctr scWords_C), (17, .ctr sInt_C), (65, .ctr scText_C)]
def scAct_C : Ctr := ⟨[none], Int × Int × ByteArray × Bool, scAct_D, scAct_E, true, .d⟩
def scAct_cfg : List (Nat × LC) := [(3, ⟨[2, 4, 5, 6, 21, 22, 23], [], [], []⟩),
  (2000003, ⟨[2, 3], [], [], []⟩),
  (1003000, ⟨[2], [], [], []⟩)]
def scAct_pat : Nat → Option SP
  | 3 => some ⟨sparse .undef [(2, (.ref 0 0)), (4, (.val .str)), (5, (.val .str)), (6, (.val .bool)), (21, (.ow 1)), (22, (.val (.int .i64))), (23, (.val (.int .i64)))] 0 72, [(.box [(.val (.int .i64)), (.val (.int .i64)), (.val .str)]), (.row 1)], []⟩
  | _ => none
def scAct_patj : Nat → Option SP
  | _ => none
def scAct_L3 (n : Nat) (ls : List Leaf) (R : Type) (k : Ex → St → Option R) : Option R :=
  match ls with
  | [.str word11, .str rest12, .bool is13, .int i14, .int i15, .int i16, .int i17, .str s18, .rows es19] => scAct_l3 n word11 rest12 is13 i14 i15 i16 i17 s18 es19 (fun y1027 y1028 y1029 y1030 => k .ret ⟨sparse .undef [(2, (TV.ref 0 0)), (3, (TV.val (PV.bool y1027)))] 0 72, [(Ob.pbox (PV.agg [(PV.int .i64 y1028), (PV.int .i64 y1029), (PV.str y1030)]) 3)], []⟩)
      (fun y1031 y1032 y1033 => k (.exit 0) ⟨sparse .undef [(2, (TV.ref 0 0))] 0 72, [(Ob.box [(TV.val (PV.int .i64 y1031)), (TV.val (PV.int .i64 y1032)), (TV.val (PV.str y1033))])], []⟩)
  | _ => none
def scAct_L (n key : Nat) (ls : List Leaf) (R : Type) (k : Ex → St → Option R) : Option R :=
  match key with
  | 3 => scAct_L3 n ls R k
  | _ => none
def scAct_J (n key : Nat) (ls : List Leaf) (R : Type) (k : Ex → St → Option R) : Option R :=
  match key with
  | _ => none
def scAct_on : Code → Bool := fun _ => false
def scAct_Λ : Nat → Loops := patL (normBy scAct_cfg) scAct_pat scAct_L (normJ scAct_cfg) scAct_on scAct_patj scAct_J
theorem scAct_step3 (n : Nat) (word11 : ByteArray) (rest12 : ByteArray) (is13 : Bool) (i14 : Int) (i15 : Int) (i16 : Int) (i17 : Int) (s18 : ByteArray) (es19 : List (List PV))  (R : Type) (k : Ex → St → Option R) :
    roundK T G0 (ctrOf scAct_Γ) (normBy scAct_cfg) (scAct_Λ n) (codeAt [1, 1, 0, 1, 0, 0] (bodyOf Tryd.f40)) (buildSt ⟨sparse .undef [(2, (.ref 0 0)), (4, (.val .str)), (5, (.val .str)), (6, (.val .bool)), (21, (.ow 1)), (22, (.val (.int .i64))), (23, (.val (.int .i64)))] 0 72, [(.box [(.val (.int .i64)), (.val (.int .i64)), (.val .str)]), (.row 1)], []⟩ [.str word11, .str rest12, .bool is13, .int i14, .int i15, .int i16, .int i17, .str s18, .rows es19]) R k = scAct_L3 (n + 1) [.str word11, .str rest12, .bool is13, .int i14, .int i15, .int i16, .int i17, .str s18, .rows es19] R k := by kernel_rfl
theorem scAct_eq (n : Nat) (line1 : ByteArray) :
    funK T G0 (ctrOf scAct_Γ) (scAct_Λ n) .d true [none] (funOf Tryd.f40) [(PV.str line1)] = scAct_b n  line1 (fun a0 a1 a2 a3 => some (scAct_E (a0, a1, a2, a3))) := by kernel_rfl
theorem scAct_inv {ps : List PV} {y : Int × Int × ByteArray × Bool} (h : scAct_D ps = some y) : ∃ (line1 : ByteArray), ps = [(PV.str line1)] := by
  unfold scAct_D at h
  split at h
  · exact ⟨_, rfl⟩
  · cases h
theorem scAct_loops : loopsOf (bodyOf Tryd.f40) = [codeAt [1, 1, 0, 1, 0, 0] (bodyOf Tryd.f40)] := by kernel_rfl
theorem scAct_holds (hΓ : HoldsAll Tryd.prog G0 scAct_Γ) (hok : ∀ (line1 : ByteArray) (y : Int × Int × ByteArray × Bool), sScAct line1 = some y → ∃ n, ∀ (R : Type) (k : Int → Int → ByteArray → Bool → Option R), scAct_b n  line1 k = k y.1 y.2.1 y.2.2.1 y.2.2.2) : Holds Tryd.prog G0 40 scAct_C := by
  refine fun_pat mixed tOk (ctrOf_ok hΓ) Tryd.func40 rfl rfl rfl rfl (F := funOf Tryd.f40) (normBy_ok scAct_cfg) (pat := scAct_pat) (L := scAct_L) (normJ_ok scAct_cfg) (on := scAct_on) (patj := scAct_patj) (J := scAct_J) (fun c hc ls R k => ?_) (fun c hc p hp m ls R k r h => ?_) (fun c hc p hp m ls R k r h => ?_) (fun ps x h => ?_)
  · rw [show (funOf Tryd.f40).code = bodyOf Tryd.f40 from rfl, scAct_loops] at hc
    simp only [List.mem_cons, List.not_mem_nil, or_false] at hc
    rcases hc with rfl
    · show scAct_L3 0 ls R k = none
      unfold scAct_L3
      split
      · rfl
      · rfl
  · rw [show (funOf Tryd.f40).code = bodyOf Tryd.f40 from rfl, scAct_loops] at hc
    simp only [List.mem_cons, List.not_mem_nil, or_false] at hc
    rcases hc with rfl
    · have hp' : p = ⟨sparse .undef [(2, (.ref 0 0)), (4, (.val .str)), (5, (.val .str)), (6, (.val .bool)), (21, (.ow 1)), (22, (.val (.int .i64))), (23, (.val (.int .i64)))] 0 72, [(.box [(.val (.int .i64)), (.val (.int .i64)), (.val .str)]), (.row 1)], []⟩ := (Option.some.inj (hp : some _ = some p)).symm
      subst hp'
      change scAct_L3 (m + 1) ls R k = some r at h
      have h' := h
      unfold scAct_L3 at h'
      split at h'
      · exact (scAct_step3 m _ _ _ _ _ _ _ _ _ R k).trans h
      · cases h'
  · cases (List.mem_filter.1 hc).2
  · obtain ⟨y, hy, hx⟩ := bind_inv h
    cases hx
    obtain ⟨line1, rfl⟩ := scAct_inv hy
    obtain ⟨n, hn⟩ := hok line1 y hy
    exact ⟨n, (scAct_eq n line1).trans (hn _ _)⟩

/-! ## drayman/script.Parse -/
def scParse_l2 {R : Type} : Nat → ByteArray → List (List PV) → (Int → Option R) → (List (List PV) → Option R) → Option R
  | 0, _, _, _, _ => none
  | n + 1, text4, es5, k0, k1 =>
    cond (!(ByteArray.toList text4 == ByteArray.toList (ByteArray.mk #[]))) (
      Option.bind (sCut text4 (ByteArray.mk #[10])) fun y6 =>
      Option.bind (sScAct y6.1) fun y7 =>
      cond (!y6.2.2) (
        k0 2) (
        cond (!y7.2.2.2) (
          k0 2) (
          if (es5.length + ([[(PV.int .i64 y7.1), (PV.int .i64 y7.2.1), (PV.str y7.2.2.1)]] : List (List PV)).length) * 32 ≤ maxBytes then
            scParse_l2 n y6.2.1 (es5 ++ [[(PV.int .i64 y7.1), (PV.int .i64 y7.2.1), (PV.str y7.2.2.1)]]) k0 k1
          else none))) (
      k1 es5)
def scParse_b {R : Type} (n : Nat) (text1 : ByteArray) (k : List (List PV) → Int → Option R) : Option R :=
  scParse_l2 n text1 []
    (fun (i2 : Int) =>
      k [] i2)
    (fun (es3 : List (List PV)) =>
      k es3 0)
def scParse_E (y : (List (List PV)) × Int) : PV × List PV := ((PV.tuple [(PV.os y.1 3), (PV.int .i64 y.2)]), [])
def scParse_D : List PV → Option ((List (List PV)) × Int)
  | [(PV.str text1)] => sScParse text1
  | _ => none
def scParse_Γ : List (Nat × Cal) := [(39, .ctr cutS_C), (40, .ctr scAct_C)]
def scParse_C : Ctr := ⟨[none], (List (List PV)) × Int, scParse_D, scParse_E, true, (.t [.s, .d])⟩
def scParse_cfg : List (Nat × LC) := [(2, ⟨[0, 4], [4], [], []⟩),
  (2000002, ⟨[2, 3], [], [], []⟩),
  (1002000, ⟨[4], [], [], []⟩)]
def scParse_pat : Nat → Option SP
  | 2 => some ⟨sparse .undef [(0, (.val .str)), (4, (.ow 0))] 0 35, [(.row 3)], []⟩
  | _ => none
def scParse_patj : Nat → Option SP
  | _ => none
def scParse_L2 (n : Nat) (ls : List Leaf) (R : Type) (k : Ex → St → Option R) : Option R :=
  match ls with
  | [.str text4, .rows es5] => scParse_l2 n text4 es5 (fun y1008 => k .ret ⟨sparse .undef [(2, (TV.nil 3)), (3, (TV.val (PV.int .i64 y1008)))] 0 35, [], []⟩)
      (fun y1009 => k (.exit 0) ⟨sparse .undef [(4, (TV.ow 0))] 0 35, [(Ob.row y1009 3)], []⟩)
  | _ => none
def scParse_L (n key : Nat) (ls : List Leaf) (R : Type) (k : Ex → St → Option R) : Option R :=
  match key with
  | 2 => scParse_L2 n ls R k
  | _ => none
def scParse_J (n key : Nat) (ls : List Leaf) (R : Type) (k : Ex → St → Option R) : Option R :=
  match key with
  | _ => none
def scParse_on : Code → Bool := fun _ => false
def scParse_Λ : Nat → Loops := patL (normBy scParse_cfg) scParse_pat scParse_L (normJ scParse_cfg) scParse_on scParse_patj scParse_J
theorem scParse_step2 (n : Nat) (text4 : ByteArray) (es5 : List (List PV))  (R : Type) (k : Ex → St → Option R) :
    roundK T G0 (ctrOf scParse_Γ) (normBy scParse_cfg) (scParse_Λ n) (codeAt [1, 1, 0, 0, 0] (bodyOf Tryd.f18)) (buildSt ⟨sparse .undef [(0, (.val .str)), (4, (.ow 0))] 0 35, [(.row 3)], []⟩ [.str text4, .rows es5]) R k = scParse_L2 (n + 1) [.str text4, .rows es5] R k := by kernel_rfl
theorem scParse_eq (n : Nat) (text1 : ByteArray) :
    funK T G0 (ctrOf scParse_Γ) (scParse_Λ n) (.t [.s, .d]) true [none] (funOf Tryd.f18) [(PV.str text1)] = scParse_b n  text1 (fun a0 a1 => if (noMem (scParse_E (a0, a1)).1 && noMemL (scParse_E (a0, a1)).2) = true then some (scParse_E (a0, a1)) else none) := by kernel_rfl
theorem scParse_inv {ps : List PV} {y : (List (List PV)) × Int} (h : scParse_D ps = some y) : ∃ (text1 : ByteArray), ps = [(PV.str text1)] := by
  unfold scParse_D at h
  split at h
  · exact ⟨_, rfl⟩
  · cases h
theorem scParse_loops : loopsOf (bodyOf Tryd.f18) = [codeAt [1, 1, 0, 0, 0] (bodyOf Tryd.f18)] := by kernel_rfl
theorem scParse_holds (hΓ : HoldsAll Tryd.prog G0 scParse_Γ) (hok : ∀ (text1 : ByteArray) (y : (List (List PV)) × Int), sScParse text1 = some y → ∃ n, ∀ (R : Type) (k : List (List PV) → Int → Option R), scParse_b n  text1 k = k y.1 y.2) (hno : ∀ (text1 : ByteArray) (y : (List (List PV)) × Int), sScParse text1 = some y → (noMem (scParse_E y).1 && noMemL (scParse_E y).2) = true) : Holds Tryd.prog G0 18 scParse_C := by
  refine fun_pat mixed tOk (ctrOf_ok hΓ) Tryd.func18 rfl rfl rfl rfl (F := funOf Tryd.f18) (normBy_ok scParse_cfg) (pat := scParse_pat) (L := scParse_L) (normJ_ok scParse_cfg) (on := scParse_on) (patj := scParse_patj) (J := scParse_J) (fun c hc ls R k => ?_) (fun c hc p hp m ls R k r h => ?_) (fun c hc p hp m ls R k r h => ?_) (fun ps x h => ?_)
  · rw [show (funOf Tryd.f18).code = bodyOf Tryd.f18 from rfl, scParse_loops] at hc
    simp only [List.mem_cons, List.not_mem_nil, or_false] at hc
    rcases hc with rfl
    · show scParse_L2 0 ls R k = none
      unfold scParse_L2
      split
      · rfl
      · rfl
  · rw [show (funOf Tryd.f18).code = bodyOf Tryd.f18 from rfl, scParse_loops] at hc
    simp only [List.mem_cons, List.not_mem_nil, or_false] at hc
    rcases hc with rfl
    · have hp' : p = ⟨sparse .undef [(0, (.val .str)), (4, (.ow 0))] 0 35, [(.row 3)], []⟩ := (Option.some.inj (hp : some _ = some p)).symm
      subst hp'
      change scParse_L2 (m + 1) ls R k = some r at h
      have h' := h
      unfold scParse_L2 at h'
      split at h'
      · exact (scParse_step2 m _ _ R k).trans h
      · cases h'
  · cases (List.mem_filter.1 hc).2
  · obtain ⟨y, hy, hx⟩ := bind_inv h
    cases hx
    obtain ⟨text1, rfl⟩ := scParse_inv hy
    obtain ⟨n, hn⟩ := hok text1 y hy
    exact ⟨n, (scParse_eq n text1).trans ((hn _ _).trans (if_pos (hno text1 y hy)))⟩

/-! ## (drayman/script.Act).line -/
def scLine_b {R : Type} (a1 : Int) (a2 : Int) (a3 : ByteArray) (k : ByteArray → Option R) : Option R :=
  cond (decide (a1 < (1 : Int))) (
    k (ByteArray.mk #[])) (
    cond (decide (a1 > (6 : Int))) (
      k (ByteArray.mk #[])) (
      meet (
        Option.bind (scWords_d) fun y4 =>
        meet (
          if 0 ≤ (IntKind.i64.wrap (a1 - (1 : Int))) ∧ (IntKind.i64.wrap (a1 - (1 : Int))) < (y4.length : Int) then
            meet (
              Option.bind (y4[(Int.toNat (IntKind.i64.wrap (a1 - (1 : Int))))]?) fun e5 =>
              Option.bind (e5[0]?) fun c6 =>
              Option.bind (PV.asS c6) fun s7 =>
              meet (
                if (s7).size + ((ByteArray.mk #[32])).size ≤ 140737488355328 then
                  Option.bind (digits_d a2) fun y8 =>
                  if ((s7 ++ (ByteArray.mk #[32]))).size + (y8).size ≤ 140737488355328 then
                    Option.bind (scText_d a1) fun y9 =>
                    cond y9 (
                      if (((s7 ++ (ByteArray.mk #[32])) ++ y8)).size + ((ByteArray.mk #[32])).size ≤ 140737488355328 then
                        if ((((s7 ++ (ByteArray.mk #[32])) ++ y8) ++ (ByteArray.mk #[32]))).size + (a3).size ≤ 140737488355328 then
                          k ((((s7 ++ (ByteArray.mk #[32])) ++ y8) ++ (ByteArray.mk #[32])) ++ a3)
                        else none
                      else none) (
                      k ((s7 ++ (ByteArray.mk #[32])) ++ y8))
                  else none
                else none) (
                Option.bind (digits_d a2) fun y10 =>
                if (s7).size + ((ByteArray.mk #[32])).size ≤ 140737488355328 then
                  if ((s7 ++ (ByteArray.mk #[32]))).size + (y10).size ≤ 140737488355328 then
                    Option.bind (scText_d a1) fun y11 =>
                    cond y11 (
                      if (((s7 ++ (ByteArray.mk #[32])) ++ y10)).size + ((ByteArray.mk #[32])).size ≤ 140737488355328 then
                        if ((((s7 ++ (ByteArray.mk #[32])) ++ y10) ++ (ByteArray.mk #[32]))).size + (a3).size ≤ 140737488355328 then
                          k ((((s7 ++ (ByteArray.mk #[32])) ++ y10) ++ (ByteArray.mk #[32])) ++ a3)
                        else none
                      else none) (
                      k ((s7 ++ (ByteArray.mk #[32])) ++ y10))
                  else none
                else none)) (
              Option.bind (digits_d a2) fun y12 =>
              Option.bind (y4[(Int.toNat (IntKind.i64.wrap (a1 - (1 : Int))))]?) fun e13 =>
              Option.bind (e13[0]?) fun c14 =>
              Option.bind (PV.asS c14) fun s15 =>
              if (s15).size + ((ByteArray.mk #[32])).size ≤ 140737488355328 then
                if ((s15 ++ (ByteArray.mk #[32]))).size + (y12).size ≤ 140737488355328 then
                  Option.bind (scText_d a1) fun y16 =>
                  cond y16 (
                    if (((s15 ++ (ByteArray.mk #[32])) ++ y12)).size + ((ByteArray.mk #[32])).size ≤ 140737488355328 then
                      if ((((s15 ++ (ByteArray.mk #[32])) ++ y12) ++ (ByteArray.mk #[32]))).size + (a3).size ≤ 140737488355328 then
                        k ((((s15 ++ (ByteArray.mk #[32])) ++ y12) ++ (ByteArray.mk #[32])) ++ a3)
                      else none
                    else none) (
                    k ((s15 ++ (ByteArray.mk #[32])) ++ y12))
                else none
              else none)
          else none) (
          Option.bind (digits_d a2) fun y17 =>
          if 0 ≤ (IntKind.i64.wrap (a1 - (1 : Int))) ∧ (IntKind.i64.wrap (a1 - (1 : Int))) < (y4.length : Int) then
            Option.bind (y4[(Int.toNat (IntKind.i64.wrap (a1 - (1 : Int))))]?) fun e18 =>
            Option.bind (e18[0]?) fun c19 =>
            Option.bind (PV.asS c19) fun s20 =>
            if (s20).size + ((ByteArray.mk #[32])).size ≤ 140737488355328 then
              if ((s20 ++ (ByteArray.mk #[32]))).size + (y17).size ≤ 140737488355328 then
                Option.bind (scText_d a1) fun y21 =>
                cond y21 (
                  if (((s20 ++ (ByteArray.mk #[32])) ++ y17)).size + ((ByteArray.mk #[32])).size ≤ 140737488355328 then
                    if ((((s20 ++ (ByteArray.mk #[32])) ++ y17) ++ (ByteArray.mk #[32]))).size + (a3).size ≤ 140737488355328 then
                      k ((((s20 ++ (ByteArray.mk #[32])) ++ y17) ++ (ByteArray.mk #[32])) ++ a3)
                    else none
                  else none) (
                  k ((s20 ++ (ByteArray.mk #[32])) ++ y17))
              else none
            else none
          else none)) (
        meet (
        meet (
          Option.bind (scWords_d) fun y22 =>
          if 0 ≤ (IntKind.i64.wrap (a1 - (1 : Int))) ∧ (IntKind.i64.wrap (a1 - (1 : Int))) < (y22.length : Int) then
            meet (
              Option.bind (y22[(Int.toNat (IntKind.i64.wrap (a1 - (1 : Int))))]?) fun e23 =>
              Option.bind (e23[0]?) fun c24 =>
              Option.bind (PV.asS c24) fun s25 =>
              meet (
                if (s25).size + ((ByteArray.mk #[32])).size ≤ 140737488355328 then
                  Option.bind (digits_d a2) fun y26 =>
                  if ((s25 ++ (ByteArray.mk #[32]))).size + (y26).size ≤ 140737488355328 then
                    Option.bind (scText_d a1) fun y27 =>
                    cond y27 (
                      if (((s25 ++ (ByteArray.mk #[32])) ++ y26)).size + ((ByteArray.mk #[32])).size ≤ 140737488355328 then
                        if ((((s25 ++ (ByteArray.mk #[32])) ++ y26) ++ (ByteArray.mk #[32]))).size + (a3).size ≤ 140737488355328 then
                          k ((((s25 ++ (ByteArray.mk #[32])) ++ y26) ++ (ByteArray.mk #[32])) ++ a3)
                        else none
                      else none) (
                      k ((s25 ++ (ByteArray.mk #[32])) ++ y26))
                  else none
                else none) (
                Option.bind (digits_d a2) fun y28 =>
                if (s25).size + ((ByteArray.mk #[32])).size ≤ 140737488355328 then
                  if ((s25 ++ (ByteArray.mk #[32]))).size + (y28).size ≤ 140737488355328 then
                    Option.bind (scText_d a1) fun y29 =>
                    cond y29 (
                      if (((s25 ++ (ByteArray.mk #[32])) ++ y28)).size + ((ByteArray.mk #[32])).size ≤ 140737488355328 then
                        if ((((s25 ++ (ByteArray.mk #[32])) ++ y28) ++ (ByteArray.mk #[32]))).size + (a3).size ≤ 140737488355328 then
                          k ((((s25 ++ (ByteArray.mk #[32])) ++ y28) ++ (ByteArray.mk #[32])) ++ a3)
                        else none
                      else none) (
                      k ((s25 ++ (ByteArray.mk #[32])) ++ y28))
                  else none
                else none)) (
              Option.bind (digits_d a2) fun y30 =>
              Option.bind (y22[(Int.toNat (IntKind.i64.wrap (a1 - (1 : Int))))]?) fun e31 =>
              Option.bind (e31[0]?) fun c32 =>
              Option.bind (PV.asS c32) fun s33 =>
              if (s33).size + ((ByteArray.mk #[32])).size ≤ 140737488355328 then
                if ((s33 ++ (ByteArray.mk #[32]))).size + (y30).size ≤ 140737488355328 then
                  Option.bind (scText_d a1) fun y34 =>
                  cond y34 (
                    if (((s33 ++ (ByteArray.mk #[32])) ++ y30)).size + ((ByteArray.mk #[32])).size ≤ 140737488355328 then
                      if ((((s33 ++ (ByteArray.mk #[32])) ++ y30) ++ (ByteArray.mk #[32]))).size + (a3).size ≤ 140737488355328 then
                        k ((((s33 ++ (ByteArray.mk #[32])) ++ y30) ++ (ByteArray.mk #[32])) ++ a3)
                      else none
                    else none) (
                    k ((s33 ++ (ByteArray.mk #[32])) ++ y30))
                else none
              else none)
          else none) (
          Option.bind (scWords_d) fun y35 =>
          if 0 ≤ (IntKind.i64.wrap (a1 - (1 : Int))) ∧ (IntKind.i64.wrap (a1 - (1 : Int))) < (y35.length : Int) then
            Option.bind (digits_d a2) fun y36 =>
            Option.bind (y35[(Int.toNat (IntKind.i64.wrap (a1 - (1 : Int))))]?) fun e37 =>
            Option.bind (e37[0]?) fun c38 =>
            Option.bind (PV.asS c38) fun s39 =>
            if (s39).size + ((ByteArray.mk #[32])).size ≤ 140737488355328 then
              if ((s39 ++ (ByteArray.mk #[32]))).size + (y36).size ≤ 140737488355328 then
                Option.bind (scText_d a1) fun y40 =>
                cond y40 (
                  if (((s39 ++ (ByteArray.mk #[32])) ++ y36)).size + ((ByteArray.mk #[32])).size ≤ 140737488355328 then
                    if ((((s39 ++ (ByteArray.mk #[32])) ++ y36) ++ (ByteArray.mk #[32]))).size + (a3).size ≤ 140737488355328 then
                      k ((((s39 ++ (ByteArray.mk #[32])) ++ y36) ++ (ByteArray.mk #[32])) ++ a3)
                    else none
                  else none) (
                  k ((s39 ++ (ByteArray.mk #[32])) ++ y36))
              else none
            else none
          else none)) (
        meet (
          Option.bind (scWords_d) fun y41 =>
          Option.bind (digits_d a2) fun y42 =>
          if 0 ≤ (IntKind.i64.wrap (a1 - (1 : Int))) ∧ (IntKind.i64.wrap (a1 - (1 : Int))) < (y41.length : Int) then
            Option.bind (y41[(Int.toNat (IntKind.i64.wrap (a1 - (1 : Int))))]?) fun e43 =>
            Option.bind (e43[0]?) fun c44 =>
            Option.bind (PV.asS c44) fun s45 =>
            if (s45).size + ((ByteArray.mk #[32])).size ≤ 140737488355328 then
              if ((s45 ++ (ByteArray.mk #[32]))).size + (y42).size ≤ 140737488355328 then
                Option.bind (scText_d a1) fun y46 =>
                cond y46 (
                  if (((s45 ++ (ByteArray.mk #[32])) ++ y42)).size + ((ByteArray.mk #[32])).size ≤ 140737488355328 then
                    if ((((s45 ++ (ByteArray.mk #[32])) ++ y42) ++ (ByteArray.mk #[32]))).size + (a3).size ≤ 140737488355328 then
                      k ((((s45 ++ (ByteArray.mk #[32])) ++ y42) ++ (ByteArray.mk #[32])) ++ a3)
                    else none
                  else none) (
                  k ((s45 ++ (ByteArray.mk #[32])) ++ y42))
              else none
            else none
          else none) (
          Option.bind (scWords_d) fun y47 =>
          if 0 ≤ (IntKind.i64.wrap (a1 - (1 : Int))) ∧ (IntKind.i64.wrap (a1 - (1 : Int))) < (y47.length : Int) then
            Option.bind (digits_d a2) fun y48 =>
            Option.bind (y47[(Int.toNat (IntKind.i64.wrap (a1 - (1 : Int))))]?) fun e49 =>
            Option.bind (e49[0]?) fun c50 =>
            Option.bind (PV.asS c50) fun s51 =>
            if (s51).size + ((ByteArray.mk #[32])).size ≤ 140737488355328 then
              if ((s51 ++ (ByteArray.mk #[32]))).size + (y48).size ≤ 140737488355328 then
                Option.bind (scText_d a1) fun y52 =>
                cond y52 (
                  if (((s51 ++ (ByteArray.mk #[32])) ++ y48)).size + ((ByteArray.mk #[32])).size ≤ 140737488355328 then
                    if ((((s51 ++ (ByteArray.mk #[32])) ++ y48) ++ (ByteArray.mk #[32]))).size + (a3).size ≤ 140737488355328 then
                      k ((((s51 ++ (ByteArray.mk #[32])) ++ y48) ++ (ByteArray.mk #[32])) ++ a3)
                    else none
                  else none) (
                  k ((s51 ++ (ByteArray.mk #[32])) ++ y48))
              else none
            else none
          else none)))))
def scLine_E (y : ByteArray) : PV × List PV := ((PV.str y), [])
def scLine_D : List PV → Option (ByteArray)
  | [(PV.agg [(PV.int .i64 a1), (PV.int .i64 a2), (PV.str a3)])] => sScLine a1 a2 a3
  | _ => none
def scLine_Γ : List (Nat × Cal) := [(64, .ctr scWords_C), (14, .ctr digits_C), (65, .ctr scText_C)]
def scLine_C : Ctr := ⟨[none], ByteArray, scLine_D, scLine_E, true, .d⟩
theorem scLine_eq (a1 : Int) (a2 : Int) (a3 : ByteArray) :
    funK T G0 (ctrOf scLine_Γ) noL .d true [none] (funOf Tryd.f41) [(PV.agg [(PV.int .i64 a1), (PV.int .i64 a2), (PV.str a3)])] = scLine_b  a1 a2 a3 (fun a0 => some (scLine_E a0)) := by kernel_rfl
theorem scLine_inv {ps : List PV} {y : ByteArray} (h : scLine_D ps = some y) : ∃ (a1 : Int) (a2 : Int) (a3 : ByteArray), ps = [(PV.agg [(PV.int .i64 a1), (PV.int .i64 a2), (PV.str a3)])] := by
  unfold scLine_D at h
  split at h
  · exact ⟨_, _, _, rfl⟩
  · cases h
theorem scLine_holds (hΓ : HoldsAll Tryd.prog G0 scLine_Γ) (hok : ∀ (a1 : Int) (a2 : Int) (a3 : ByteArray) (y : ByteArray), sScLine a1 a2 a3 = some y → ∀ (R : Type) (k : ByteArray → Option R), scLine_b  a1 a2 a3 k = k y) : Holds Tryd.prog G0 41 scLine_C := by
  refine fun_ok mixed tOk (ctrOf_ok hΓ) Tryd.func41 rfl rfl rfl rfl (F := funOf Tryd.f41) (fun ps x h => ?_)
  obtain ⟨y, hy, hx⟩ := bind_inv h
  cases hx
  obtain ⟨a1, a2, a3, rfl⟩ := scLine_inv hy
  refine ⟨noL, noL_ok _, (scLine_eq a1 a2 a3).trans (hok a1 a2 a3 y hy _ _)⟩

/-! ## drayman/script.Print -/
def scPrint_l3 {R : Type} : Nat → ByteArray → List (List PV) → Int → Int → (ByteArray → Int → Option R) → (ByteArray → Option R) → Option R
  | 0, _, _, _, _, _, _ => none
  | n + 1, out5, es6, i7, i8, k0, k1 =>
    cond (decide (i8 < i7)) (
      Option.bind (idx es6 i8) fun e9 =>
      if e9.length = 3 then
        Option.bind (subAgg e9 0 3) fun p10 =>
        if (PV.isAgg p10 3) = true then
          Option.bind (scLine_D [p10]) fun y11 =>
          Option.bind (sScAct y11) fun y12 =>
          cond (!y12.2.2.2) (
            k0 (ByteArray.mk #[]) 1) (
            Option.bind (PV.asAgg p10) fun cs13 =>
            Option.bind (eqvs T [(3, 0), (3, 1), (9, 2)] [(PV.int .i64 y12.1), (PV.int .i64 y12.2.1), (PV.str y12.2.2.1)] cs13) fun b14 =>
            cond (!b14) (
              k0 (ByteArray.mk #[]) 1) (
              Option.bind (sContains y11 (ByteArray.mk #[10])) fun y15 =>
              cond y15 (
                k0 (ByteArray.mk #[]) 1) (
                if (out5).size + (y11).size ≤ 140737488355328 then
                  if ((out5 ++ y11)).size + ((ByteArray.mk #[10])).size ≤ 140737488355328 then
                    scPrint_l3 n ((out5 ++ y11) ++ (ByteArray.mk #[10])) es6 i7 (IntKind.i64.wrap (i8 + (1 : Int))) k0 k1
                  else none
                else none)))
        else none
      else none) (
      k1 out5)
def scPrint_b {R : Type} (n : Nat) (l1 : List (List PV)) (k : ByteArray → Int → Option R) : Option R :=
  scPrint_l3 n (ByteArray.mk #[]) l1 (l1.length : Int) 0 k
    (fun (out4 : ByteArray) =>
      k out4 0)
def scPrint_E (y : ByteArray × Int) : PV × List PV := ((PV.tuple [(PV.str y.1), (PV.int .i64 y.2)]), [])
def scPrint_D : List PV → Option (ByteArray × Int)
  | [(PV.fs l1)] => sScPrint l1
  | _ => none
def scPrint_Γ : List (Nat × Cal) := [(41, .ctr scLine_C), (40, .ctr scAct_C), (42, .ctr containsS_C)]
def scPrint_C : Ctr := ⟨[none], ByteArray × Int, scPrint_D, scPrint_E, true, .d⟩
def scPrint_cfg : List (Nat × LC) := [(3, ⟨[4, 10, 11, 12], [], [], []⟩),
  (2000003, ⟨[2, 3], [], [], []⟩),
  (1003000, ⟨[4], [], [], []⟩)]
def scPrint_pat : Nat → Option SP
  | 3 => some ⟨sparse .undef [(4, (.val .str)), (10, (.val .fs)), (11, (.val (.int .i64))), (12, (.val (.int .i64)))] 0 40, [], []⟩
  | _ => none
def scPrint_patj : Nat → Option SP
  | _ => none
def scPrint_L3 (n : Nat) (ls : List Leaf) (R : Type) (k : Ex → St → Option R) : Option R :=
  match ls with
  | [.str out5, .rows es6, .int i7, .int i8] => scPrint_l3 n out5 es6 i7 i8 (fun y1016 y1017 => k .ret ⟨sparse .undef [(2, (TV.val (PV.str y1016))), (3, (TV.val (PV.int .i64 y1017)))] 0 40, [], []⟩)
      (fun y1018 => k (.exit 0) ⟨sparse .undef [(4, (TV.val (PV.str y1018)))] 0 40, [], []⟩)
  | _ => none
def scPrint_L (n key : Nat) (ls : List Leaf) (R : Type) (k : Ex → St → Option R) : Option R :=
  match key with
  | 3 => scPrint_L3 n ls R k
  | _ => none
def scPrint_J (n key : Nat) (ls : List Leaf) (R : Type) (k : Ex → St → Option R) : Option R :=
  match key with
  | _ => none
def scPrint_on : Code → Bool := fun _ => false
def scPrint_Λ : Nat → Loops := patL (normBy scPrint_cfg) scPrint_pat scPrint_L (normJ scPrint_cfg) scPrint_on scPrint_patj scPrint_J
theorem scPrint_step3 (n : Nat) (out5 : ByteArray) (es6 : List (List PV)) (i7 : Int) (i8 : Int)  (R : Type) (k : Ex → St → Option R) :
    roundK T G0 (ctrOf scPrint_Γ) (normBy scPrint_cfg) (scPrint_Λ n) (codeAt [1, 1, 0, 1, 0, 0] (bodyOf Tryd.f19)) (buildSt ⟨sparse .undef [(4, (.val .str)), (10, (.val .fs)), (11, (.val (.int .i64))), (12, (.val (.int .i64)))] 0 40, [], []⟩ [.str out5, .rows es6, .int i7, .int i8]) R k = scPrint_L3 (n + 1) [.str out5, .rows es6, .int i7, .int i8] R k := by kernel_rfl
theorem scPrint_eq (n : Nat) (l1 : List (List PV)) :
    funK T G0 (ctrOf scPrint_Γ) (scPrint_Λ n) .d true [none] (funOf Tryd.f19) [(PV.fs l1)] = scPrint_b n  l1 (fun a0 a1 => some (scPrint_E (a0, a1))) := by kernel_rfl
theorem scPrint_inv {ps : List PV} {y : ByteArray × Int} (h : scPrint_D ps = some y) : ∃ (l1 : List (List PV)), ps = [(PV.fs l1)] := by
  unfold scPrint_D at h
  split at h
  · exact ⟨_, rfl⟩
  · cases h
theorem scPrint_loops : loopsOf (bodyOf Tryd.f19) = [codeAt [1, 1, 0, 1, 0, 0] (bodyOf Tryd.f19)] := by kernel_rfl
theorem scPrint_holds (hΓ : HoldsAll Tryd.prog G0 scPrint_Γ) (hok : ∀ (l1 : List (List PV)) (y : ByteArray × Int), sScPrint l1 = some y → ∃ n, ∀ (R : Type) (k : ByteArray → Int → Option R), scPrint_b n  l1 k = k y.1 y.2) : Holds Tryd.prog G0 19 scPrint_C := by
  refine fun_pat mixed tOk (ctrOf_ok hΓ) Tryd.func19 rfl rfl rfl rfl (F := funOf Tryd.f19) (normBy_ok scPrint_cfg) (pat := scPrint_pat) (L := scPrint_L) (normJ_ok scPrint_cfg) (on := scPrint_on) (patj := scPrint_patj) (J := scPrint_J) (fun c hc ls R k => ?_) (fun c hc p hp m ls R k r h => ?_) (fun c hc p hp m ls R k r h => ?_) (fun ps x h => ?_)
  · rw [show (funOf Tryd.f19).code = bodyOf Tryd.f19 from rfl, scPrint_loops] at hc
    simp only [List.mem_cons, List.not_mem_nil, or_false] at hc
    rcases hc with rfl
    · show scPrint_L3 0 ls R k = none
      unfold scPrint_L3
      split
      · rfl
      · rfl
  · rw [show (funOf Tryd.f19).code = bodyOf Tryd.f19 from rfl, scPrint_loops] at hc
    simp only [List.mem_cons, List.not_mem_nil, or_false] at hc
    rcases hc with rfl
    · have hp' : p = ⟨sparse .undef [(4, (.val .str)), (10, (.val .fs)), (11, (.val (.int .i64))), (12, (.val (.int .i64)))] 0 40, [], []⟩ := (Option.some.inj (hp : some _ = some p)).symm
      subst hp'
      change scPrint_L3 (m + 1) ls R k = some r at h
      have h' := h
      unfold scPrint_L3 at h'
      split at h'
      · exact (scPrint_step3 m _ _ _ _ R k).trans h
      · cases h'
  · cases (List.mem_filter.1 hc).2
  · obtain ⟨y, hy, hx⟩ := bind_inv h
    cases hx
    obtain ⟨l1, rfl⟩ := scPrint_inv hy
    obtain ⟨n, hn⟩ := hok l1 y hy
    exact ⟨n, (scPrint_eq n l1).trans (hn _ _)⟩

/-! ## drayman/draymankeep.Same[drayman/script.Act] -/
def sameA_l4 {R : Type} : Nat → List (List PV) → List (List PV) → Int → (Bool → Option R) → (Unit → Option R) → Option R
  | 0, _, _, _, _, _ => none
  | n + 1, a4, b5, i6, k0, k1 =>
    cond (decide (i6 < (a4.length : Int))) (
      Option.bind (idx a4 i6) fun e7 =>
      if e7.length = 3 then
        Option.bind (subAgg e7 0 3) fun p8 =>
        Option.bind (idx b5 i6) fun e9 =>
        if e9.length = 3 then
          Option.bind (subAgg e9 0 3) fun p10 =>
          Option.bind (PV.asAgg p8) fun cs11 =>
          Option.bind (PV.asAgg p10) fun cs12 =>
          Option.bind (eqvs T [(3, 0), (3, 1), (9, 2)] cs11 cs12) fun b13 =>
          cond (!b13) (
            k0 false) (
            sameA_l4 n a4 b5 (IntKind.i64.wrap (i6 + (1 : Int))) k0 k1)
        else none
      else none) (
      k1 ())
def sameA_b {R : Type} (n : Nat) (a1 : List (List PV)) (b2 : List (List PV)) (k : Bool → Option R) : Option R :=
  cond ((a1.length : Int) != (b2.length : Int)) (
    k false) (
    sameA_l4 n a1 b2 0 k
      (fun (_ : Unit) =>
        k true))
def sameA_E (y : Bool) : PV × List PV := ((PV.bool y), [])
def sameA_D : List PV → Option (Bool)
  | [(PV.fs a1), (PV.fs b2)] => sSameA a1 b2
  | _ => none
def sameA_Γ : List (Nat × Cal) := []
def sameA_C : Ctr := ⟨[none, none], Bool, sameA_D, sameA_E, true, .d⟩
def sameA_cfg : List (Nat × LC) := [(4, ⟨[0, 1, 5], [], [], []⟩),
  (2000004, ⟨[4], [], [], []⟩),
  (1004000, ⟨[], [], [], []⟩)]
def sameA_pat : Nat → Option SP
  | 4 => some ⟨sparse .undef [(0, (.val .fs)), (1, (.val .fs)), (5, (.val (.int .i64)))] 0 26, [], []⟩
  | _ => none
def sameA_patj : Nat → Option SP
  | _ => none
def sameA_L4 (n : Nat) (ls : List Leaf) (R : Type) (k : Ex → St → Option R) : Option R :=
  match ls with
  | [.rows a4, .rows b5, .int i6] => sameA_l4 n a4 b5 i6 (fun y1014 => k .ret ⟨sparse .undef [(4, (TV.val (PV.bool y1014)))] 0 26, [], []⟩)
      (fun _ => k (.exit 0) ⟨sparse .undef [] 0 26, [], []⟩)
  | _ => none
def sameA_L (n key : Nat) (ls : List Leaf) (R : Type) (k : Ex → St → Option R) : Option R :=
  match key with
  | 4 => sameA_L4 n ls R k
  | _ => none
def sameA_J (n key : Nat) (ls : List Leaf) (R : Type) (k : Ex → St → Option R) : Option R :=
  match key with
  | _ => none
def sameA_on : Code → Bool := fun _ => false
def sameA_Λ : Nat → Loops := patL (normBy sameA_cfg) sameA_pat sameA_L (normJ sameA_cfg) sameA_on sameA_patj sameA_J
theorem sameA_step4 (n : Nat) (a4 : List (List PV)) (b5 : List (List PV)) (i6 : Int)  (R : Type) (k : Ex → St → Option R) :
    roundK T G0 (ctrOf sameA_Γ) (normBy sameA_cfg) (sameA_Λ n) (codeAt [1, 1, 0, 1, 0, 0] (bodyOf Tryd.f20)) (buildSt ⟨sparse .undef [(0, (.val .fs)), (1, (.val .fs)), (5, (.val (.int .i64)))] 0 26, [], []⟩ [.rows a4, .rows b5, .int i6]) R k = sameA_L4 (n + 1) [.rows a4, .rows b5, .int i6] R k := by kernel_rfl
theorem sameA_eq (n : Nat) (a1 : List (List PV)) (b2 : List (List PV)) :
    funK T G0 (ctrOf sameA_Γ) (sameA_Λ n) .d true [none, none] (funOf Tryd.f20) [(PV.fs a1), (PV.fs b2)] = sameA_b n  a1 b2 (fun a0 => some (sameA_E a0)) := by kernel_rfl
theorem sameA_inv {ps : List PV} {y : Bool} (h : sameA_D ps = some y) : ∃ (a1 : List (List PV)) (b2 : List (List PV)), ps = [(PV.fs a1), (PV.fs b2)] := by
  unfold sameA_D at h
  split at h
  · exact ⟨_, _, rfl⟩
  · cases h
theorem sameA_loops : loopsOf (bodyOf Tryd.f20) = [codeAt [1, 1, 0, 1, 0, 0] (bodyOf Tryd.f20)] := by kernel_rfl
theorem sameA_holds (hΓ : HoldsAll Tryd.prog G0 sameA_Γ) (hok : ∀ (a1 : List (List PV)) (b2 : List (List PV)) (y : Bool), sSameA a1 b2 = some y → ∃ n, ∀ (R : Type) (k : Bool → Option R), sameA_b n  a1 b2 k = k y) : Holds Tryd.prog G0 20 sameA_C := by
  refine fun_pat mixed tOk (ctrOf_ok hΓ) Tryd.func20 rfl rfl rfl rfl (F := funOf Tryd.f20) (normBy_ok sameA_cfg) (pat := sameA_pat) (L := sameA_L) (normJ_ok sameA_cfg) (on := sameA_on) (patj := sameA_patj) (J := sameA_J) (fun c hc ls R k => ?_) (fun c hc p hp m ls R k r h => ?_) (fun c hc p hp m ls R k r h => ?_) (fun ps x h => ?_)
  · rw [show (funOf Tryd.f20).code = bodyOf Tryd.f20 from rfl, sameA_loops] at hc
    simp only [List.mem_cons, List.not_mem_nil, or_false] at hc
    rcases hc with rfl
    · show sameA_L4 0 ls R k = none
      unfold sameA_L4
      split
      · rfl
      · rfl
  · rw [show (funOf Tryd.f20).code = bodyOf Tryd.f20 from rfl, sameA_loops] at hc
    simp only [List.mem_cons, List.not_mem_nil, or_false] at hc
    rcases hc with rfl
    · have hp' : p = ⟨sparse .undef [(0, (.val .fs)), (1, (.val .fs)), (5, (.val (.int .i64)))] 0 26, [], []⟩ := (Option.some.inj (hp : some _ = some p)).symm
      subst hp'
      change sameA_L4 (m + 1) ls R k = some r at h
      have h' := h
      unfold sameA_L4 at h'
      split at h'
      · exact (sameA_step4 m _ _ _ R k).trans h
      · cases h'
  · cases (List.mem_filter.1 hc).2
  · obtain ⟨y, hy, hx⟩ := bind_inv h
    cases hx
    obtain ⟨a1, b2, rfl⟩ := sameA_inv hy
    obtain ⟨n, hn⟩ := hok a1 b2 y hy
    exact ⟨n, (sameA_eq n a1 b2).trans (hn _ _)⟩

/-! ## drayman/draymanlaw24.wakes -/
def wakes24_b {R : Type} (k : Bool → Option R) : Option R :=
  Option.bind (sScParse (ByteArray.mk #[])) fun y1 =>
  Option.bind (sScParse (ByteArray.mk #[115, 97, 121, 32, 49, 32, 97, 32, 98, 10])) fun y2 =>
  cond (y1.2 == (0 : Int)) (
    cond ((y1.1.length : Int) == (0 : Int)) (
      cond (y2.2 == (0 : Int)) (
        Option.bind (sSameA y2.1 [[(PV.int .i64 3), (PV.int .i64 1), (PV.str (ByteArray.mk #[97, 32, 98]))]]) fun y3 =>
        k y3) (
        k false)) (
      k false)) (
    k false)
def wakes24_E (y : Bool) : PV × List PV := ((PV.bool y), [])
def wakes24_d : Option (Bool) := wakes24_b fun a0 => some a0
def wakes24_D : List PV → Option (Bool)
  | [] => wakes24_d
  | _ => none
def wakes24_Γ : List (Nat × Cal) := [(18, .ctr scParse_C), (20, .ctr sameA_C)]
def wakes24_C : Ctr := ⟨[], Bool, wakes24_D, wakes24_E, true, .d⟩
theorem wakes24_eq :
    funK T G0 (ctrOf wakes24_Γ) noL .d true [] (funOf Tryd.f21) [] = wakes24_b  (fun a0 => some (wakes24_E a0)) := by kernel_rfl
theorem wakes24_inv {ps : List PV} {y : Bool} (h : wakes24_D ps = some y) : ps = [] := by
  unfold wakes24_D at h
  split at h
  · rfl
  · cases h
theorem wakes24_nat {R : Type} (k : Bool → Option R) : wakes24_b k = Option.bind (wakes24_b fun a0 => some a0) fun y => k y := by
  unfold wakes24_b
  first | rfl | simp only [Option.bind_assoc, bind_cond, bind_ite, Option.bind_some, Option.bind_none]
theorem wakes24_holds (hΓ : HoldsAll Tryd.prog G0 wakes24_Γ) : Holds Tryd.prog G0 21 wakes24_C := by
  refine fun_ok mixed tOk (ctrOf_ok hΓ) Tryd.func21 rfl rfl rfl rfl (F := funOf Tryd.f21) (fun ps x h => ?_)
  obtain ⟨y, hy, hx⟩ := bind_inv h
  cases hx
  obtain rfl := wakes24_inv hy
  have hy' : wakes24_d = some y := hy
  refine ⟨noL, noL_ok _, (wakes24_eq).trans ?_⟩
  unfold wakes24_d at hy'
  rw [wakes24_nat, hy']
  rfl

/-! ## drayman/draymanlaw24.ScriptForms -/
def scriptForms_b {R : Type} (n1 : Int) (k : Bool → Option R) : Option R :=
  Option.bind (sScParse (ByteArray.mk #[111, 112, 101, 110, 32, 51, 10, 115, 97, 121, 32, 51, 32, 97, 100, 100, 32, 49, 32, 48, 32, 48, 10, 98, 121, 116, 101, 115, 32, 51, 32, 32, 120, 10, 115, 97, 121, 32, 51, 32, 10, 112, 105, 99, 107, 32, 51, 10, 114, 117, 110, 32, 57, 57, 57, 57, 10, 99, 108, 111, 115, 101, 32, 48, 10])) fun y2 =>
  Option.bind (sScPrint [[(PV.int .i64 1), (PV.int .i64 3), (PV.str (ByteArray.mk #[]))], [(PV.int .i64 3), (PV.int .i64 3), (PV.str (ByteArray.mk #[97, 100, 100, 32, 49, 32, 48, 32, 48]))], [(PV.int .i64 4), (PV.int .i64 3), (PV.str (ByteArray.mk #[32, 120]))], [(PV.int .i64 3), (PV.int .i64 3), (PV.str (ByteArray.mk #[]))], [(PV.int .i64 5), (PV.int .i64 3), (PV.str (ByteArray.mk #[]))], [(PV.int .i64 6), (PV.int .i64 9999), (PV.str (ByteArray.mk #[]))], [(PV.int .i64 2), (PV.int .i64 0), (PV.str (ByteArray.mk #[]))]]) fun y3 =>
  cond (y2.2 != (0 : Int)) (
    k false) (
    Option.bind (sSameA y2.1 [[(PV.int .i64 1), (PV.int .i64 3), (PV.str (ByteArray.mk #[]))], [(PV.int .i64 3), (PV.int .i64 3), (PV.str (ByteArray.mk #[97, 100, 100, 32, 49, 32, 48, 32, 48]))], [(PV.int .i64 4), (PV.int .i64 3), (PV.str (ByteArray.mk #[32, 120]))], [(PV.int .i64 3), (PV.int .i64 3), (PV.str (ByteArray.mk #[]))], [(PV.int .i64 5), (PV.int .i64 3), (PV.str (ByteArray.mk #[]))], [(PV.int .i64 6), (PV.int .i64 9999), (PV.str (ByteArray.mk #[]))], [(PV.int .i64 2), (PV.int .i64 0), (PV.str (ByteArray.mk #[]))]]) fun y4 =>
    cond (!y4) (
      k false) (
      cond (y3.2 != (0 : Int)) (
        k false) (
        cond (!(ByteArray.toList y3.1 == ByteArray.toList (ByteArray.mk #[111, 112, 101, 110, 32, 51, 10, 115, 97, 121, 32, 51, 32, 97, 100, 100, 32, 49, 32, 48, 32, 48, 10, 98, 121, 116, 101, 115, 32, 51, 32, 32, 120, 10, 115, 97, 121, 32, 51, 32, 10, 112, 105, 99, 107, 32, 51, 10, 114, 117, 110, 32, 57, 57, 57, 57, 10, 99, 108, 111, 115, 101, 32, 48, 10]))) (
          k false) (
          Option.bind (within_d n1 17) fun y5 =>
          if 0 ≤ y5 ∧ y5 < (17 : Int) then
            Option.bind (([[(PV.str (ByteArray.mk #[10]))], [(PV.str (ByteArray.mk #[111, 112, 101, 110, 10]))], [(PV.str (ByteArray.mk #[111, 112, 101, 110, 32, 51]))], [(PV.str (ByteArray.mk #[111, 112, 101, 110, 32, 51, 32, 10]))], [(PV.str (ByteArray.mk #[111, 112, 101, 110, 32, 32, 51, 10]))], [(PV.str (ByteArray.mk #[32, 111, 112, 101, 110, 32, 51, 10]))], [(PV.str (ByteArray.mk #[111, 112, 101, 110, 32, 48, 51, 10]))], [(PV.str (ByteArray.mk #[111, 112, 101, 110, 32, 45, 49, 10]))], [(PV.str (ByteArray.mk #[111, 112, 101, 110, 32, 49, 48, 48, 48, 48, 10]))], [(PV.str (ByteArray.mk #[111, 112, 101, 110, 32, 120, 10]))], [(PV.str (ByteArray.mk #[115, 97, 121, 32, 51, 10]))], [(PV.str (ByteArray.mk #[115, 97, 121, 32, 120, 32, 121, 10]))], [(PV.str (ByteArray.mk #[112, 105, 99, 107, 32, 51, 32, 120, 10]))], [(PV.str (ByteArray.mk #[79, 112, 101, 110, 32, 51, 10]))], [(PV.str (ByteArray.mk #[111, 112, 101, 110, 115, 32, 51, 10]))], [(PV.str (ByteArray.mk #[111, 112, 101, 110, 32, 51, 10, 10]))], [(PV.str (ByteArray.mk #[119, 104, 97, 116, 32, 51, 10]))]] : List (List PV))[(Int.toNat y5)]?) fun e6 =>
            Option.bind (e6[0]?) fun c7 =>
            Option.bind (PV.asS c7) fun s8 =>
            Option.bind (sScParse s8) fun y9 =>
            Option.bind (sScPrint [[(PV.int .i64 7), (PV.int .i64 1), (PV.str (ByteArray.mk #[]))]]) fun y10 =>
            Option.bind (sScPrint [[(PV.int .i64 1), (PV.int .i64 (-1)), (PV.str (ByteArray.mk #[]))]]) fun y11 =>
            Option.bind (sScPrint [[(PV.int .i64 5), (PV.int .i64 1), (PV.str (ByteArray.mk #[120]))]]) fun y12 =>
            Option.bind (sScPrint [[(PV.int .i64 3), (PV.int .i64 1), (PV.str (ByteArray.mk #[97, 10, 98]))]]) fun y13 =>
            cond (y9.2 != (0 : Int)) (
              cond ((y9.1.length : Int) == (0 : Int)) (
                cond (y10.2 != (0 : Int)) (
                  cond (y11.2 != (0 : Int)) (
                    cond (y12.2 != (0 : Int)) (
                      cond (y13.2 != (0 : Int)) (
                        Option.bind (wakes24_d) fun y14 =>
                        k y14) (
                        k false)) (
                      k false)) (
                    k false)) (
                  k false)) (
                k false)) (
              k false)
          else none))))
def scriptForms_E (y : Bool) : PV × List PV := ((PV.bool y), [])
def scriptForms_D : List PV → Option (Bool)
  | [(PV.int .i64 n1)] => sScriptForms n1
  | _ => none
def scriptForms_Γ : List (Nat × Cal) := [(18, .ctr scParse_C), (19, .ctr scPrint_C), (20, .ctr sameA_C), (16, .ctr within_C), (21, .ctr wakes24_C)]
def scriptForms_C : Ctr := ⟨[none], Bool, scriptForms_D, scriptForms_E, true, .d⟩
theorem scriptForms_eq (n1 : Int) :
    funK T G0 (ctrOf scriptForms_Γ) noL .d true [none] (funOf Tryd.f4) [(PV.int .i64 n1)] = scriptForms_b  n1 (fun a0 => some (scriptForms_E a0)) := by kernel_rfl
theorem scriptForms_inv {ps : List PV} {y : Bool} (h : scriptForms_D ps = some y) : ∃ (n1 : Int), ps = [(PV.int .i64 n1)] := by
  unfold scriptForms_D at h
  split at h
  · exact ⟨_, rfl⟩
  · cases h
theorem scriptForms_holds (hΓ : HoldsAll Tryd.prog G0 scriptForms_Γ) (hok : ∀ (n1 : Int) (y : Bool), sScriptForms n1 = some y → ∀ (R : Type) (k : Bool → Option R), scriptForms_b  n1 k = k y) : Holds Tryd.prog G0 4 scriptForms_C := by
  refine fun_ok mixed tOk (ctrOf_ok hΓ) Tryd.func4 rfl rfl rfl rfl (F := funOf Tryd.f4) (fun ps x h => ?_)
  obtain ⟨y, hy, hx⟩ := bind_inv h
  cases hx
  obtain ⟨n1, rfl⟩ := scriptForms_inv hy
  refine ⟨noL, noL_ok _, (scriptForms_eq n1).trans (hok n1 y hy _ _)⟩

end
end Go.Proofs.YtkeklbicmfhemaaDoorV
