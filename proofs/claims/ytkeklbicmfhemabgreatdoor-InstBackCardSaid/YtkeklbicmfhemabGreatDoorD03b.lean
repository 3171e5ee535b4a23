/- What the functions of the program come to, as the reading machine has it: printed by dec.py. -/
import Derived.Test.YtkeklbicmfhemabGreatDoorVTab
import Derived.Test.YtkeklbicmfhemabGreatDoorD03p
import Derived.Test.YtkeklbicmfhemabGreatDoorDSI
import Derived.Test.YtkeklbicmfhemabGreatDoorDP
namespace Go.Proofs.YtkeklbicmfhemabGreatDoorV
open Go
set_option maxRecDepth 100000
set_option linter.unusedVariables false
set_option linter.unusedSimpArgs false
noncomputable section
/-! ## drayman/draymankeep.Same[drayman/api.Car] -/
def sameCar_l4 {R : Type} : Nat → List (List PV) → List (List PV) → Int → (Bool → Option R) → (Unit → Option R) → Option R
  | 0, _, _, _, _, _ => none
  | n + 1, a4, b5, i6, k0, k1 =>
    cond (decide (i6 < (a4.length : Int))) (
      Option.bind (idx a4 i6) fun e7 =>
      if e7.length = 3 then
        Option.bind (subAgg e7 0 3) fun p8 =>
        Option.bind (idx b5 i6) fun e9 =>
        if e9.length = 3 then
          Option.bind (subAgg e9 0 3) fun p10 =>
          Option.bind (PV.asAgg p8) fun cs11 =>
          Option.bind (PV.asAgg p10) fun cs12 =>
          Option.bind (eqvs T [(3, 0), (3, 1), (3, 2)] cs11 cs12) fun b13 =>
          cond (!b13) (
            k0 false) (
            sameCar_l4 n a4 b5 (IntKind.i64.wrap (i6 + (1 : Int))) k0 k1)
        else none
      else none) (
      k1 ())
def sameCar_b {R : Type} (n : Nat) (a1 : List (List PV)) (b2 : List (List PV)) (k : Bool → Option R) : Option R :=
  cond ((a1.length : Int) != (b2.length : Int)) (
    k false) (
    sameCar_l4 n a1 b2 0 k
      (fun (_ : Unit) =>
        k true))
def sameCar_E (y : Bool) : PV × List PV := ((PV.bool y), [])
def sameCar_D : List PV → Option (Bool)
  | [(PV.fs a1), (PV.fs b2)] => sSameCar a1 b2
  | _ => none
def sameCar_Γ : List (Nat × Cal) := []
def sameCar_C : Ctr := ⟨[none, none], Bool, sameCar_D, sameCar_E, true, .d⟩
def sameCar_cfg : List (Nat × LC) := [(4, ⟨[0, 1, 5], [], [], []⟩),
  (2000004, ⟨[4], [], [], []⟩),
  (1004000, ⟨[], [], [], []⟩)]
def sameCar_pat : Nat → Option SP
  | 4 => some ⟨sparse .undef [(0, (.val .fs)), (1, (.val .fs)), (5, (.val (.int .i64)))] 0 26, [], []⟩
  | _ => none
def sameCar_patj : Nat → Option SP
  | _ => none
def sameCar_L4 (n : Nat) (ls : List Leaf) (R : Type) (k : Ex → St → Option R) : Option R :=
  match ls with
  | [.rows a4, .rows b5, .int i6] => sameCar_l4 n a4 b5 i6 (fun y1014 => k .ret ⟨sparse .undef [(4, (TV.val (PV.bool y1014)))] 0 26, [], []⟩)
      (fun _ => k (.exit 0) ⟨sparse .undef [] 0 26, [], []⟩)
  | _ => none
def sameCar_L (n key : Nat) (ls : List Leaf) (R : Type) (k : Ex → St → Option R) : Option R :=
  match key with
  | 4 => sameCar_L4 n ls R k
  | _ => none
def sameCar_J (n key : Nat) (ls : List Leaf) (R : Type) (k : Ex → St → Option R) : Option R :=
  match key with
  | _ => none
def sameCar_on : Code → Bool := fun _ => false
def sameCar_Λ : Nat → Loops := patL (normBy sameCar_cfg) sameCar_pat sameCar_L (normJ sameCar_cfg) sameCar_on sameCar_patj sameCar_J
theorem sameCar_step4 (n : Nat) (a4 : List (List PV)) (b5 : List (List PV)) (i6 : Int)  (R : Type) (k : Ex → St → Option R) :
    roundK T G0 (ctrOf sameCar_Γ) (normBy sameCar_cfg) (sameCar_Λ n) (codeAt [1, 1, 0, 1, 0, 0] (bodyOf Tryz.f17)) (buildSt ⟨sparse .undef [(0, (.val .fs)), (1, (.val .fs)), (5, (.val (.int .i64)))] 0 26, [], []⟩ [.rows a4, .rows b5, .int i6]) R k = sameCar_L4 (n + 1) [.rows a4, .rows b5, .int i6] R k := by kernel_rfl
theorem sameCar_eq (n : Nat) (a1 : List (List PV)) (b2 : List (List PV)) :
    funK T G0 (ctrOf sameCar_Γ) (sameCar_Λ n) .d true [none, none] (funOf Tryz.f17) [(PV.fs a1), (PV.fs b2)] = sameCar_b n  a1 b2 (fun a0 => some (sameCar_E a0)) := by kernel_rfl
theorem sameCar_inv {ps : List PV} {y : Bool} (h : sameCar_D ps = some y) : ∃ (a1 : List (List PV)) (b2 : List (List PV)), ps = [(PV.fs a1), (PV.fs b2)] := by
  unfold sameCar_D at h
  split at h
  · exact ⟨_, _, rfl⟩
  · cases h
theorem sameCar_loops : loopsOf (bodyOf Tryz.f17) = [codeAt [1, 1, 0, 1, 0, 0] (bodyOf Tryz.f17)] := by kernel_rfl
theorem sameCar_holds (hΓ : HoldsAll Tryz.prog G0 sameCar_Γ) (hok : ∀ (a1 : List (List PV)) (b2 : List (List PV)) (y : Bool), sSameCar a1 b2 = some y → ∃ n, ∀ (R : Type) (k : Bool → Option R), sameCar_b n  a1 b2 k = k y) : Holds Tryz.prog G0 17 sameCar_C := by
  refine fun_pat mixed tOk (ctrOf_ok hΓ) Tryz.func17 rfl rfl rfl rfl (F := funOf Tryz.f17) (normBy_ok sameCar_cfg) (pat := sameCar_pat) (L := sameCar_L) (normJ_ok sameCar_cfg) (on := sameCar_on) (patj := sameCar_patj) (J := sameCar_J) (fun c hc ls R k => ?_) (fun c hc p hp m ls R k r h => ?_) (fun c hc p hp m ls R k r h => ?_) (fun ps x h => ?_)
  · rw [show (funOf Tryz.f17).code = bodyOf Tryz.f17 from rfl, sameCar_loops] at hc
    simp only [List.mem_cons, List.not_mem_nil, or_false] at hc
    rcases hc with rfl
    · show sameCar_L4 0 ls R k = none
      unfold sameCar_L4
      split
      · rfl
      · rfl
  · rw [show (funOf Tryz.f17).code = bodyOf Tryz.f17 from rfl, sameCar_loops] at hc
    simp only [List.mem_cons, List.not_mem_nil, or_false] at hc
    rcases hc with rfl
    · have hp' : p = ⟨sparse .undef [(0, (.val .fs)), (1, (.val .fs)), (5, (.val (.int .i64)))] 0 26, [], []⟩ := (Option.some.inj (hp : some _ = some p)).symm
      subst hp'
      change sameCar_L4 (m + 1) ls R k = some r at h
      have h' := h
      unfold sameCar_L4 at h'
      split at h'
      · exact (sameCar_step4 m _ _ _ R k).trans h
      · cases h'
  · cases (List.mem_filter.1 hc).2
  · obtain ⟨y, hy, hx⟩ := bind_inv h
    cases hx
    obtain ⟨a1, b2, rfl⟩ := sameCar_inv hy
    obtain ⟨n, hn⟩ := hok a1 b2 y hy
    exact ⟨n, (sameCar_eq n a1 b2).trans (hn _ _)⟩

/-! ## drayman/draymankeep.Same[drayman/api.Stop] -/
def sameStop_l4 {R : Type} : Nat → List (List PV) → List (List PV) → Int → (Bool → Option R) → (Unit → Option R) → Option R
  | 0, _, _, _, _, _ => none
  | n + 1, a4, b5, i6, k0, k1 =>
    cond (decide (i6 < (a4.length : Int))) (
      Option.bind (idx a4 i6) fun e7 =>
      if e7.length = 4 then
        Option.bind (subAgg e7 0 4) fun p8 =>
        Option.bind (idx b5 i6) fun e9 =>
        if e9.length = 4 then
          Option.bind (subAgg e9 0 4) fun p10 =>
          Option.bind (PV.asAgg p8) fun cs11 =>
          Option.bind (PV.asAgg p10) fun cs12 =>
          Option.bind (eqvs T [(3, 0), (3, 1), (3, 2), (3, 3)] cs11 cs12) fun b13 =>
          cond (!b13) (
            k0 false) (
            sameStop_l4 n a4 b5 (IntKind.i64.wrap (i6 + (1 : Int))) k0 k1)
        else none
      else none) (
      k1 ())
def sameStop_b {R : Type} (n : Nat) (a1 : List (List PV)) (b2 : List (List PV)) (k : Bool → Option R) : Option R :=
  cond ((a1.length : Int) != (b2.length : Int)) (
    k false) (
    sameStop_l4 n a1 b2 0 k
      (fun (_ : Unit) =>
        k true))
def sameStop_E (y : Bool) : PV × List PV := ((PV.bool y), [])
def sameStop_D : List PV → Option (Bool)
  | [(PV.fs a1), (PV.fs b2)] => sSameStop a1 b2
  | _ => none
def sameStop_Γ : List (Nat × Cal) := []
def sameStop_C : Ctr := ⟨[none, none], Bool, sameStop_D, sameStop_E, true, .d⟩
def sameStop_cfg : List (Nat × LC) := [(4, ⟨[0, 1, 5], [], [], []⟩),
  (2000004, ⟨[4], [], [], []⟩),
  (1004000, ⟨[], [], [], []⟩)]
def sameStop_pat : Nat → Option SP
  | 4 => some ⟨sparse .undef [(0, (.val .fs)), (1, (.val .fs)), (5, (.val (.int .i64)))] 0 26, [], []⟩
  | _ => none
def sameStop_patj : Nat → Option SP
  | _ => none
def sameStop_L4 (n : Nat) (ls : List Leaf) (R : Type) (k : Ex → St → Option R) : Option R :=
  match ls with
  | [.rows a4, .rows b5, .int i6] => sameStop_l4 n a4 b5 i6 (fun y1014 => k .ret ⟨sparse .undef [(4, (TV.val (PV.bool y1014)))] 0 26, [], []⟩)
      (fun _ => k (.exit 0) ⟨sparse .undef [] 0 26, [], []⟩)
  | _ => none
def sameStop_L (n key : Nat) (ls : List Leaf) (R : Type) (k : Ex → St → Option R) : Option R :=
  match key with
  | 4 => sameStop_L4 n ls R k
  | _ => none
def sameStop_J (n key : Nat) (ls : List Leaf) (R : Type) (k : Ex → St → Option R) : Option R :=
  match key with
  | _ => none
def sameStop_on : Code → Bool := fun _ => false
def sameStop_Λ : Nat → Loops := patL (normBy sameStop_cfg) sameStop_pat sameStop_L (normJ sameStop_cfg) sameStop_on sameStop_patj sameStop_J
theorem sameStop_step4 (n : Nat) (a4 : List (List PV)) (b5 : List (List PV)) (i6 : Int)  (R : Type) (k : Ex → St → Option R) :
    roundK T G0 (ctrOf sameStop_Γ) (normBy sameStop_cfg) (sameStop_Λ n) (codeAt [1, 1, 0, 1, 0, 0] (bodyOf Tryz.f18)) (buildSt ⟨sparse .undef [(0, (.val .fs)), (1, (.val .fs)), (5, (.val (.int .i64)))] 0 26, [], []⟩ [.rows a4, .rows b5, .int i6]) R k = sameStop_L4 (n + 1) [.rows a4, .rows b5, .int i6] R k := by kernel_rfl
theorem sameStop_eq (n : Nat) (a1 : List (List PV)) (b2 : List (List PV)) :
    funK T G0 (ctrOf sameStop_Γ) (sameStop_Λ n) .d true [none, none] (funOf Tryz.f18) [(PV.fs a1), (PV.fs b2)] = sameStop_b n  a1 b2 (fun a0 => some (sameStop_E a0)) := by kernel_rfl
theorem sameStop_inv {ps : List PV} {y : Bool} (h : sameStop_D ps = some y) : ∃ (a1 : List (List PV)) (b2 : List (List PV)), ps = [(PV.fs a1), (PV.fs b2)] := by
  unfold sameStop_D at h
  split at h
  · exact ⟨_, _, rfl⟩
  · cases h
theorem sameStop_loops : loopsOf (bodyOf Tryz.f18) = [codeAt [1, 1, 0, 1, 0, 0] (bodyOf Tryz.f18)] := by kernel_rfl
theorem sameStop_holds (hΓ : HoldsAll Tryz.prog G0 sameStop_Γ) (hok : ∀ (a1 : List (List PV)) (b2 : List (List PV)) (y : Bool), sSameStop a1 b2 = some y → ∃ n, ∀ (R : Type) (k : Bool → Option R), sameStop_b n  a1 b2 k = k y) : Holds Tryz.prog G0 18 sameStop_C := by
  refine fun_pat mixed tOk (ctrOf_ok hΓ) Tryz.func18 rfl rfl rfl rfl (F := funOf Tryz.f18) (normBy_ok sameStop_cfg) (pat := sameStop_pat) (L := sameStop_L) (normJ_ok sameStop_cfg) (on := sameStop_on) (patj := sameStop_patj) (J := sameStop_J) (fun c hc ls R k => ?_) (fun c hc p hp m ls R k r h => ?_) (fun c hc p hp m ls R k r h => ?_) (fun ps x h => ?_)
  · rw [show (funOf Tryz.f18).code = bodyOf Tryz.f18 from rfl, sameStop_loops] at hc
    simp only [List.mem_cons, List.not_mem_nil, or_false] at hc
    rcases hc with rfl
    · show sameStop_L4 0 ls R k = none
      unfold sameStop_L4
      split
      · rfl
      · rfl
  · rw [show (funOf Tryz.f18).code = bodyOf Tryz.f18 from rfl, sameStop_loops] at hc
    simp only [List.mem_cons, List.not_mem_nil, or_false] at hc
    rcases hc with rfl
    · have hp' : p = ⟨sparse .undef [(0, (.val .fs)), (1, (.val .fs)), (5, (.val (.int .i64)))] 0 26, [], []⟩ := (Option.some.inj (hp : some _ = some p)).symm
      subst hp'
      change sameStop_L4 (m + 1) ls R k = some r at h
      have h' := h
      unfold sameStop_L4 at h'
      split at h'
      · exact (sameStop_step4 m _ _ _ R k).trans h
      · cases h'
  · cases (List.mem_filter.1 hc).2
  · obtain ⟨y, hy, hx⟩ := bind_inv h
    cases hx
    obtain ⟨a1, b2, rfl⟩ := sameStop_inv hy
    obtain ⟨n, hn⟩ := hok a1 b2 y hy
    exact ⟨n, (sameStop_eq n a1 b2).trans (hn _ _)⟩

/-! ## drayman/draymankeep.Same[[2]int] -/
def samePair_l4 {R : Type} : Nat → List (List PV) → List (List PV) → Int → (Bool → Option R) → (Unit → Option R) → Option R
  | 0, _, _, _, _, _ => none
  | n + 1, a4, b5, i6, k0, k1 =>
    cond (decide (i6 < (a4.length : Int))) (
      Option.bind (idx a4 i6) fun e7 =>
      if e7.length = 2 then
        Option.bind (subAgg e7 0 2) fun p8 =>
        Option.bind (idx b5 i6) fun e9 =>
        if e9.length = 2 then
          Option.bind (subAgg e9 0 2) fun p10 =>
          Option.bind (PV.asAgg p8) fun cs11 =>
          Option.bind (PV.asAgg p10) fun cs12 =>
          Option.bind (eqvs T [(3, 0), (3, 1)] cs11 cs12) fun b13 =>
          cond (!b13) (
            k0 false) (
            samePair_l4 n a4 b5 (IntKind.i64.wrap (i6 + (1 : Int))) k0 k1)
        else none
      else none) (
      k1 ())
def samePair_b {R : Type} (n : Nat) (a1 : List (List PV)) (b2 : List (List PV)) (k : Bool → Option R) : Option R :=
  cond ((a1.length : Int) != (b2.length : Int)) (
    k false) (
    samePair_l4 n a1 b2 0 k
      (fun (_ : Unit) =>
        k true))
def samePair_E (y : Bool) : PV × List PV := ((PV.bool y), [])
def samePair_D : List PV → Option (Bool)
  | [(PV.fs a1), (PV.fs b2)] => sSamePair a1 b2
  | _ => none
def samePair_Γ : List (Nat × Cal) := []
def samePair_C : Ctr := ⟨[none, none], Bool, samePair_D, samePair_E, true, .d⟩
def samePair_cfg : List (Nat × LC) := [(4, ⟨[0, 1, 5], [], [], []⟩),
  (2000004, ⟨[4], [], [], []⟩),
  (1004000, ⟨[], [], [], []⟩)]
def samePair_pat : Nat → Option SP
  | 4 => some ⟨sparse .undef [(0, (.val .fs)), (1, (.val .fs)), (5, (.val (.int .i64)))] 0 26, [], []⟩
  | _ => none
def samePair_patj : Nat → Option SP
  | _ => none
def samePair_L4 (n : Nat) (ls : List Leaf) (R : Type) (k : Ex → St → Option R) : Option R :=
  match ls with
  | [.rows a4, .rows b5, .int i6] => samePair_l4 n a4 b5 i6 (fun y1014 => k .ret ⟨sparse .undef [(4, (TV.val (PV.bool y1014)))] 0 26, [], []⟩)
      (fun _ => k (.exit 0) ⟨sparse .undef [] 0 26, [], []⟩)
  | _ => none
def samePair_L (n key : Nat) (ls : List Leaf) (R : Type) (k : Ex → St → Option R) : Option R :=
  match key with
  | 4 => samePair_L4 n ls R k
  | _ => none
def samePair_J (n key : Nat) (ls : List Leaf) (R : Type) (k : Ex → St → Option R) : Option R :=
  match key with
  | _ => none
def samePair_on : Code → Bool := fun _ => false
def samePair_Λ : Nat → Loops := patL (normBy samePair_cfg) samePair_pat samePair_L (normJ samePair_cfg) samePair_on samePair_patj samePair_J
theorem samePair_step4 (n : Nat) (a4 : List (List PV)) (b5 : List (List PV)) (i6 : Int)  (R : Type) (k : Ex → St → Option R) :
    roundK T G0 (ctrOf samePair_Γ) (normBy samePair_cfg) (samePair_Λ n) (codeAt [1, 1, 0, 1, 0, 0] (bodyOf Tryz.f19)) (buildSt ⟨sparse .undef [(0, (.val .fs)), (1, (.val .fs)), (5, (.val (.int .i64)))] 0 26, [], []⟩ [.rows a4, .rows b5, .int i6]) R k = samePair_L4 (n + 1) [.rows a4, .rows b5, .int i6] R k := by kernel_rfl
theorem samePair_eq (n : Nat) (a1 : List (List PV)) (b2 : List (List PV)) :
    funK T G0 (ctrOf samePair_Γ) (samePair_Λ n) .d true [none, none] (funOf Tryz.f19) [(PV.fs a1), (PV.fs b2)] = samePair_b n  a1 b2 (fun a0 => some (samePair_E a0)) := by kernel_rfl
theorem samePair_inv {ps : List PV} {y : Bool} (h : samePair_D ps = some y) : ∃ (a1 : List (List PV)) (b2 : List (List PV)), ps = [(PV.fs a1), (PV.fs b2)] := by
  unfold samePair_D at h
  split at h
  · exact ⟨_, _, rfl⟩
  · cases h
theorem samePair_loops : loopsOf (bodyOf Tryz.f19) = [codeAt [1, 1, 0, 1, 0, 0] (bodyOf Tryz.f19)] := by kernel_rfl
theorem samePair_holds (hΓ : HoldsAll Tryz.prog G0 samePair_Γ) (hok : ∀ (a1 : List (List PV)) (b2 : List (List PV)) (y : Bool), sSamePair a1 b2 = some y → ∃ n, ∀ (R : Type) (k : Bool → Option R), samePair_b n  a1 b2 k = k y) : Holds Tryz.prog G0 19 samePair_C := by
  refine fun_pat mixed tOk (ctrOf_ok hΓ) Tryz.func19 rfl rfl rfl rfl (F := funOf Tryz.f19) (normBy_ok samePair_cfg) (pat := samePair_pat) (L := samePair_L) (normJ_ok samePair_cfg) (on := samePair_on) (patj := samePair_patj) (J := samePair_J) (fun c hc ls R k => ?_) (fun c hc p hp m ls R k r h => ?_) (fun c hc p hp m ls R k r h => ?_) (fun ps x h => ?_)
  · rw [show (funOf Tryz.f19).code = bodyOf Tryz.f19 from rfl, samePair_loops] at hc
    simp only [List.mem_cons, List.not_mem_nil, or_false] at hc
    rcases hc with rfl
    · show samePair_L4 0 ls R k = none
      unfold samePair_L4
      split
      · rfl
      · rfl
  · rw [show (funOf Tryz.f19).code = bodyOf Tryz.f19 from rfl, samePair_loops] at hc
    simp only [List.mem_cons, List.not_mem_nil, or_false] at hc
    rcases hc with rfl
    · have hp' : p = ⟨sparse .undef [(0, (.val .fs)), (1, (.val .fs)), (5, (.val (.int .i64)))] 0 26, [], []⟩ := (Option.some.inj (hp : some _ = some p)).symm
      subst hp'
      change samePair_L4 (m + 1) ls R k = some r at h
      have h' := h
      unfold samePair_L4 at h'
      split at h'
      · exact (samePair_step4 m _ _ _ R k).trans h
      · cases h'
  · cases (List.mem_filter.1 hc).2
  · obtain ⟨y, hy, hx⟩ := bind_inv h
    cases hx
    obtain ⟨a1, b2, rfl⟩ := samePair_inv hy
    obtain ⟨n, hn⟩ := hok a1 b2 y hy
    exact ⟨n, (samePair_eq n a1 b2).trans (hn _ _)⟩

/-! ## drayman/draymanlaw03.Same -/
def sameInst_l4 {R : Type} : Nat → Int → Int → List (List PV) → List (List PV) → List (List PV) → List (List PV) → List (List PV) → List (List PV) → List (List PV) → List (List PV) → (Bool → Option R) → (Unit → Option R) → Option R
  | 0, _, _, _, _, _, _, _, _, _, _, _, _ => none
  | n + 1, i13, i14, es15, es16, es17, es18, es19, es20, es21, es22, k0, k1 =>
    cond (decide (i14 < i13)) (
      meet (
        Option.bind (idx es18 i14) fun e23 =>
        if e23.length = 1 then
          Option.bind (e23[0]?) fun c24 =>
          Option.bind (PV.asFs c24) fun es25 =>
          Option.bind (idx es22 i14) fun e26 =>
          if e26.length = 1 then
            Option.bind (e26[0]?) fun c27 =>
            Option.bind (PV.asFs c27) fun es28 =>
            Option.bind (sSameI es25 es28) fun y29 =>
            cond (!y29) (
              k0 false) (
              sameInst_l4 n i13 (IntKind.i64.wrap (i14 + (1 : Int))) es15 es16 es17 es18 es19 es20 es21 es22 k0 k1)
          else none
        else none) (
        Option.bind (idx es22 i14) fun e30 =>
        if e30.length = 1 then
          Option.bind (e30[0]?) fun c31 =>
          Option.bind (PV.asFs c31) fun es32 =>
          Option.bind (idx es18 i14) fun e33 =>
          if e33.length = 1 then
            Option.bind (e33[0]?) fun c34 =>
            Option.bind (PV.asFs c34) fun es35 =>
            Option.bind (sSameI es35 es32) fun y36 =>
            cond (!y36) (
              k0 false) (
              sameInst_l4 n i13 (IntKind.i64.wrap (i14 + (1 : Int))) es15 es16 es17 es18 es19 es20 es21 es22 k0 k1)
          else none
        else none)) (
      k1 ())
def sameInst_b {R : Type} (n : Nat) (a1 : List (List PV)) (a2 : List (List PV)) (a3 : List (List PV)) (a4 : List (List PV)) (b5 : List (List PV)) (b6 : List (List PV)) (b7 : List (List PV)) (b8 : List (List PV)) (k : Bool → Option R) : Option R :=
  Option.bind (sSameCar a1 b5) fun y9 =>
  cond (!y9) (
    k false) (
    Option.bind (sSameStop a2 b6) fun y10 =>
    cond (!y10) (
      k false) (
      Option.bind (sSamePair a3 b7) fun y11 =>
      cond (!y11) (
        k false) (
        cond ((a4.length : Int) != (b8.length : Int)) (
          k false) (
          sameInst_l4 n (a4.length : Int) 0 a1 a2 a3 a4 b5 b6 b7 b8 k
            (fun (_ : Unit) =>
              k true)))))
def sameInst_E (y : Bool) : PV × List PV := ((PV.bool y), [])
def sameInst_D : List PV → Option (Bool)
  | [(PV.agg [(PV.fs a1), (PV.fs a2), (PV.fs a3), (PV.fs a4)]), (PV.agg [(PV.fs b5), (PV.fs b6), (PV.fs b7), (PV.fs b8)])] => sSameInst a1 a2 a3 a4 b5 b6 b7 b8
  | _ => none
def sameInst_Γ : List (Nat × Cal) := [(17, .ctr sameCar_C), (18, .ctr sameStop_C), (19, .ctr samePair_C), (20, .ctr sameI_C)]
def sameInst_C : Ctr := ⟨[none, none], Bool, sameInst_D, sameInst_E, true, .d⟩
def sameInst_cfg : List (Nat × LC) := [(4, ⟨[2, 3, 39, 40], [], [], []⟩),
  (2000004, ⟨[4], [], [], []⟩),
  (1004000, ⟨[], [], [], []⟩)]
def sameInst_pat : Nat → Option SP
  | 4 => some ⟨sparse .undef [(2, (.ref 0 0)), (3, (.ref 1 0)), (39, (.val (.int .i64))), (40, (.val (.int .i64)))] 0 56, [(.pbox (.agg [.fs, .fs, .fs, .fs]) 4), (.pbox (.agg [.fs, .fs, .fs, .fs]) 4)], []⟩
  | _ => none
def sameInst_patj : Nat → Option SP
  | _ => none
def sameInst_L4 (n : Nat) (ls : List Leaf) (R : Type) (k : Ex → St → Option R) : Option R :=
  match ls with
  | [.int i13, .int i14, .rows es15, .rows es16, .rows es17, .rows es18, .rows es19, .rows es20, .rows es21, .rows es22] => sameInst_l4 n i13 i14 es15 es16 es17 es18 es19 es20 es21 es22 (fun y1037 => k .ret ⟨sparse .undef [(4, (TV.val (PV.bool y1037)))] 0 56, [], []⟩)
      (fun _ => k (.exit 0) ⟨sparse .undef [] 0 56, [], []⟩)
  | _ => none
def sameInst_L (n key : Nat) (ls : List Leaf) (R : Type) (k : Ex → St → Option R) : Option R :=
  match key with
  | 4 => sameInst_L4 n ls R k
  | _ => none
def sameInst_J (n key : Nat) (ls : List Leaf) (R : Type) (k : Ex → St → Option R) : Option R :=
  match key with
  | _ => none
def sameInst_on : Code → Bool := fun _ => false
def sameInst_Λ : Nat → Loops := patL (normBy sameInst_cfg) sameInst_pat sameInst_L (normJ sameInst_cfg) sameInst_on sameInst_patj sameInst_J
theorem sameInst_step4 (n : Nat) (i13 : Int) (i14 : Int) (es15 : List (List PV)) (es16 : List (List PV)) (es17 : List (List PV)) (es18 : List (List PV)) (es19 : List (List PV)) (es20 : List (List PV)) (es21 : List (List PV)) (es22 : List (List PV))  (R : Type) (k : Ex → St → Option R) :
    roundK T G0 (ctrOf sameInst_Γ) (normBy sameInst_cfg) (sameInst_Λ n) (codeAt [1, 1, 0, 1, 0, 0] (bodyOf Tryz.f7)) (buildSt ⟨sparse .undef [(2, (.ref 0 0)), (3, (.ref 1 0)), (39, (.val (.int .i64))), (40, (.val (.int .i64)))] 0 56, [(.pbox (.agg [.fs, .fs, .fs, .fs]) 4), (.pbox (.agg [.fs, .fs, .fs, .fs]) 4)], []⟩ [.int i13, .int i14, .rows es15, .rows es16, .rows es17, .rows es18, .rows es19, .rows es20, .rows es21, .rows es22]) R k = sameInst_L4 (n + 1) [.int i13, .int i14, .rows es15, .rows es16, .rows es17, .rows es18, .rows es19, .rows es20, .rows es21, .rows es22] R k := by kernel_rfl
theorem sameInst_eq (n : Nat) (a1 : List (List PV)) (a2 : List (List PV)) (a3 : List (List PV)) (a4 : List (List PV)) (b5 : List (List PV)) (b6 : List (List PV)) (b7 : List (List PV)) (b8 : List (List PV)) :
    funK T G0 (ctrOf sameInst_Γ) (sameInst_Λ n) .d true [none, none] (funOf Tryz.f7) [(PV.agg [(PV.fs a1), (PV.fs a2), (PV.fs a3), (PV.fs a4)]), (PV.agg [(PV.fs b5), (PV.fs b6), (PV.fs b7), (PV.fs b8)])] = sameInst_b n  a1 a2 a3 a4 b5 b6 b7 b8 (fun a0 => some (sameInst_E a0)) := by kernel_rfl
theorem sameInst_inv {ps : List PV} {y : Bool} (h : sameInst_D ps = some y) : ∃ (a1 : List (List PV)) (a2 : List (List PV)) (a3 : List (List PV)) (a4 : List (List PV)) (b5 : List (List PV)) (b6 : List (List PV)) (b7 : List (List PV)) (b8 : List (List PV)), ps = [(PV.agg [(PV.fs a1), (PV.fs a2), (PV.fs a3), (PV.fs a4)]), (PV.agg [(PV.fs b5), (PV.fs b6), (PV.fs b7), (PV.fs b8)])] := by
  unfold sameInst_D at h
  split at h
  · exact ⟨_, _, _, _, _, _, _, _, rfl⟩
  · cases h
theorem sameInst_loops : loopsOf (bodyOf Tryz.f7) = [codeAt [1, 1, 0, 1, 0, 0] (bodyOf Tryz.f7)] := by kernel_rfl
theorem sameInst_holds (hΓ : HoldsAll Tryz.prog G0 sameInst_Γ) (hok : ∀ (a1 : List (List PV)) (a2 : List (List PV)) (a3 : List (List PV)) (a4 : List (List PV)) (b5 : List (List PV)) (b6 : List (List PV)) (b7 : List (List PV)) (b8 : List (List PV)) (y : Bool), sSameInst a1 a2 a3 a4 b5 b6 b7 b8 = some y → ∃ n, ∀ (R : Type) (k : Bool → Option R), sameInst_b n  a1 a2 a3 a4 b5 b6 b7 b8 k = k y) : Holds Tryz.prog G0 7 sameInst_C := by
  refine fun_pat mixed tOk (ctrOf_ok hΓ) Tryz.func7 rfl rfl rfl rfl (F := funOf Tryz.f7) (normBy_ok sameInst_cfg) (pat := sameInst_pat) (L := sameInst_L) (normJ_ok sameInst_cfg) (on := sameInst_on) (patj := sameInst_patj) (J := sameInst_J) (fun c hc ls R k => ?_) (fun c hc p hp m ls R k r h => ?_) (fun c hc p hp m ls R k r h => ?_) (fun ps x h => ?_)
  · rw [show (funOf Tryz.f7).code = bodyOf Tryz.f7 from rfl, sameInst_loops] at hc
    simp only [List.mem_cons, List.not_mem_nil, or_false] at hc
    rcases hc with rfl
    · show sameInst_L4 0 ls R k = none
      unfold sameInst_L4
      split
      · rfl
      · rfl
  · rw [show (funOf Tryz.f7).code = bodyOf Tryz.f7 from rfl, sameInst_loops] at hc
    simp only [List.mem_cons, List.not_mem_nil, or_false] at hc
    rcases hc with rfl
    · have hp' : p = ⟨sparse .undef [(2, (.ref 0 0)), (3, (.ref 1 0)), (39, (.val (.int .i64))), (40, (.val (.int .i64)))] 0 56, [(.pbox (.agg [.fs, .fs, .fs, .fs]) 4), (.pbox (.agg [.fs, .fs, .fs, .fs]) 4)], []⟩ := (Option.some.inj (hp : some _ = some p)).symm
      subst hp'
      change sameInst_L4 (m + 1) ls R k = some r at h
      have h' := h
      unfold sameInst_L4 at h'
      split at h'
      · exact (sameInst_step4 m _ _ _ _ _ _ _ _ _ _ R k).trans h
      · cases h'
  · cases (List.mem_filter.1 hc).2
  · obtain ⟨y, hy, hx⟩ := bind_inv h
    cases hx
    obtain ⟨a1, a2, a3, a4, b5, b6, b7, b8, rfl⟩ := sameInst_inv hy
    obtain ⟨n, hn⟩ := hok a1 a2 a3 a4 b5 b6 b7 b8 y hy
    exact ⟨n, (sameInst_eq n a1 a2 a3 a4 b5 b6 b7 b8).trans (hn _ _)⟩

/-! ## drayman/draymanlaw03.wakes -/
def wakes03_b {R : Type} (k : Bool → Option R) : Option R :=
  Option.bind (iCheck_d [] [] [] []) fun y1 =>
  cond (y1 == (1 : Int)) (
    Option.bind (iCheck_d [[(PV.int .i64 0), (PV.int .i64 0), (PV.int .i64 5)]] [] [] [[(PV.fs [[(PV.int .i64 0)]])]]) fun y2 =>
    k (y2 == (0 : Int))) (
    k false)
def wakes03_E (y : Bool) : PV × List PV := ((PV.bool y), [])
def wakes03_d : Option (Bool) := wakes03_b fun a0 => some a0
def wakes03_D : List PV → Option (Bool)
  | [] => wakes03_d
  | _ => none
def wakes03_Γ : List (Nat × Cal) := [(8, .ctr iCheck_C)]
def wakes03_C : Ctr := ⟨[], Bool, wakes03_D, wakes03_E, true, .d⟩
theorem wakes03_eq :
    funK T G0 (ctrOf wakes03_Γ) noL .d true [] (funOf Tryz.f11) [] = wakes03_b  (fun a0 => some (wakes03_E a0)) := by kernel_rfl
theorem wakes03_inv {ps : List PV} {y : Bool} (h : wakes03_D ps = some y) : ps = [] := by
  unfold wakes03_D at h
  split at h
  · rfl
  · cases h
theorem wakes03_nat {R : Type} (k : Bool → Option R) : wakes03_b k = Option.bind (wakes03_b fun a0 => some a0) fun y => k y := by
  unfold wakes03_b
  first | rfl | simp only [Option.bind_assoc, bind_cond, bind_ite, Option.bind_some, Option.bind_none]
theorem wakes03_holds (hΓ : HoldsAll Tryz.prog G0 wakes03_Γ) : Holds Tryz.prog G0 11 wakes03_C := by
  refine fun_ok mixed tOk (ctrOf_ok hΓ) Tryz.func11 rfl rfl rfl rfl (F := funOf Tryz.f11) (fun ps x h => ?_)
  obtain ⟨y, hy, hx⟩ := bind_inv h
  cases hx
  obtain rfl := wakes03_inv hy
  have hy' : wakes03_d = some y := hy
  refine ⟨noL, noL_ok _, (wakes03_eq).trans ?_⟩
  unfold wakes03_d at hy'
  rw [wakes03_nat, hy']
  rfl

/-! ## drayman/draymanlaw03.InstBack -/
def instBack_l8 {R : Type} : Nat → Int → Int → List (List PV) → List (List PV) → List (List PV) → List (List PV) → (Bool → Option R) → (Int → List (List PV) → List (List PV) → List (List PV) → List (List PV) → Option R) → Option R
  | 0, _, _, _, _, _, _, _, _ => none
  | n + 1, mates14, k15, es16, es17, es18, es19, k0, k1 =>
    cond (decide (k15 ≤ (es17.length : Int))) (
      Option.bind (sMate es16 es17 es18 es19 k15) fun y20 =>
      cond (y20 == (0 : Int)) (
        Option.bind (sFirst es16 es17 es18 es19 k15) fun y21 =>
        cond y21 (
          k0 false) (
          instBack_l8 n mates14 (IntKind.i64.wrap (k15 + (1 : Int))) es16 es17 es18 es19 k0 k1)) (
        Option.bind (sMate es16 es17 es18 es19 y20) fun y22 =>
        cond (y22 != k15) (
          meet (
            meet (
              k0 false) (
              k0 false)) (
            k0 false)) (
          meet (
            Option.bind (sFirst es16 es17 es18 es19 k15) fun y23 =>
            Option.bind (sFirst es16 es17 es18 es19 y20) fun y24 =>
            cond (y23 == y24) (
              k0 false) (
              cond (y20 == k15) (
                k0 false) (
                instBack_l8 n (IntKind.i64.wrap (mates14 + (1 : Int))) (IntKind.i64.wrap (k15 + (1 : Int))) es16 es17 es18 es19 k0 k1))) (
            Option.bind (sFirst es16 es17 es18 es19 k15) fun y25 =>
            Option.bind (sFirst es16 es17 es18 es19 y20) fun y26 =>
            cond (y25 == y26) (
              k0 false) (
              cond (y20 == k15) (
                k0 false) (
                instBack_l8 n (IntKind.i64.wrap (mates14 + (1 : Int))) (IntKind.i64.wrap (k15 + (1 : Int))) es16 es17 es18 es19 k0 k1)))))) (
      k1 mates14 es16 es17 es18 es19)
def instBack_b {R : Type} (n : Nat) (l1 : List (List PV)) (k : Bool → Option R) : Option R :=
  Option.bind (sPInst l1) fun y2 =>
  Option.bind (sIPrint y2.1 y2.2.1 y2.2.2.1 y2.2.2.2) fun y3 =>
  Option.bind (sIParse y3.1) fun y4 =>
  cond (y3.2 != (0 : Int)) (
    k false) (
    cond (y4.2.2.2.2 != (0 : Int)) (
      k false) (
      Option.bind (sSameInst y2.1 y2.2.1 y2.2.2.1 y2.2.2.2 y4.1 y4.2.1 y4.2.2.1 y4.2.2.2.1) fun y5 =>
      cond (!y5) (
        k false) (
        Option.bind (iCheck_d y2.1 y2.2.1 y2.2.2.1 y2.2.2.2) fun y6 =>
        cond (y6 != (0 : Int)) (
          k false) (
          instBack_l8 n 0 1 y2.1 y2.2.1 y2.2.2.1 y2.2.2.2 k
            (fun (mates8 : Int) (es9 : List (List PV)) (es10 : List (List PV)) (es11 : List (List PV)) (es12 : List (List PV)) =>
              cond (mates8 == (IntKind.i64.wrap ((2 : Int) * (es11.length : Int)))) (
                Option.bind (wakes03_d) fun y13 =>
                k y13) (
                k false))))))
def instBack_E (y : Bool) : PV × List PV := ((PV.bool y), [])
def instBack_D : List PV → Option (Bool)
  | [(PV.fs l1)] => sInstBack l1
  | _ => none
def instBack_Γ : List (Nat × Cal) := [(4, .ctr pInst_C), (5, .ctr iPrint_C), (6, .ctr iParse_C), (7, .ctr sameInst_C), (8, .ctr iCheck_C), (11, .ctr wakes03_C), (9, .ctr iMate_C), (10, .ctr iFirst_C)]
def instBack_C : Ctr := ⟨[none], Bool, instBack_D, instBack_E, true, .d⟩
def instBack_cfg : List (Nat × LC) := [(8, ⟨[3, 8, 9], [], [], []⟩),
  (2000008, ⟨[2], [], [], []⟩),
  (1008000, ⟨[3, 8], [], [], []⟩)]
def instBack_pat : Nat → Option SP
  | 8 => some ⟨sparse .undef [(3, (.ref 0 0)), (8, (.val (.int .i64))), (9, (.val (.int .i64)))] 0 85, [(.pbox (.agg [.fs, .fs, .fs, .fs]) 4)], []⟩
  | _ => none
def instBack_patj : Nat → Option SP
  | _ => none
def instBack_L8 (n : Nat) (ls : List Leaf) (R : Type) (k : Ex → St → Option R) : Option R :=
  match ls with
  | [.int mates14, .int k15, .rows es16, .rows es17, .rows es18, .rows es19] => instBack_l8 n mates14 k15 es16 es17 es18 es19 (fun y1027 => k .ret ⟨sparse .undef [(2, (TV.val (PV.bool y1027)))] 0 85, [], []⟩)
      (fun y1028 y1029 y1030 y1031 y1032 => k (.exit 0) ⟨sparse .undef [(3, (TV.ref 0 0)), (8, (TV.val (PV.int .i64 y1028)))] 0 85, [(Ob.pbox (PV.agg [(PV.fs y1029), (PV.fs y1030), (PV.fs y1031), (PV.fs y1032)]) 4)], []⟩)
  | _ => none
def instBack_L (n key : Nat) (ls : List Leaf) (R : Type) (k : Ex → St → Option R) : Option R :=
  match key with
  | 8 => instBack_L8 n ls R k
  | _ => none
def instBack_J (n key : Nat) (ls : List Leaf) (R : Type) (k : Ex → St → Option R) : Option R :=
  match key with
  | _ => none
def instBack_on : Code → Bool := fun _ => false
def instBack_Λ : Nat → Loops := patL (normBy instBack_cfg) instBack_pat instBack_L (normJ instBack_cfg) instBack_on instBack_patj instBack_J
theorem instBack_step8 (n : Nat) (mates14 : Int) (k15 : Int) (es16 : List (List PV)) (es17 : List (List PV)) (es18 : List (List PV)) (es19 : List (List PV))  (R : Type) (k : Ex → St → Option R) :
    roundK T G0 (ctrOf instBack_Γ) (normBy instBack_cfg) (instBack_Λ n) (codeAt [1, 1, 1, 1, 1, 1, 0, 1, 0, 0] (bodyOf Tryz.f3)) (buildSt ⟨sparse .undef [(3, (.ref 0 0)), (8, (.val (.int .i64))), (9, (.val (.int .i64)))] 0 85, [(.pbox (.agg [.fs, .fs, .fs, .fs]) 4)], []⟩ [.int mates14, .int k15, .rows es16, .rows es17, .rows es18, .rows es19]) R k = instBack_L8 (n + 1) [.int mates14, .int k15, .rows es16, .rows es17, .rows es18, .rows es19] R k := by kernel_rfl
theorem instBack_eq (n : Nat) (l1 : List (List PV)) :
    funK T G0 (ctrOf instBack_Γ) (instBack_Λ n) .d true [none] (funOf Tryz.f3) [(PV.fs l1)] = instBack_b n  l1 (fun a0 => some (instBack_E a0)) := by kernel_rfl
theorem instBack_inv {ps : List PV} {y : Bool} (h : instBack_D ps = some y) : ∃ (l1 : List (List PV)), ps = [(PV.fs l1)] := by
  unfold instBack_D at h
  split at h
  · exact ⟨_, rfl⟩
  · cases h
theorem instBack_loops : loopsOf (bodyOf Tryz.f3) = [codeAt [1, 1, 1, 1, 1, 1, 0, 1, 0, 0] (bodyOf Tryz.f3)] := by kernel_rfl
theorem instBack_holds (hΓ : HoldsAll Tryz.prog G0 instBack_Γ) (hok : ∀ (l1 : List (List PV)) (y : Bool), sInstBack l1 = some y → ∃ n, ∀ (R : Type) (k : Bool → Option R), instBack_b n  l1 k = k y) : Holds Tryz.prog G0 3 instBack_C := by
  refine fun_pat mixed tOk (ctrOf_ok hΓ) Tryz.func3 rfl rfl rfl rfl (F := funOf Tryz.f3) (normBy_ok instBack_cfg) (pat := instBack_pat) (L := instBack_L) (normJ_ok instBack_cfg) (on := instBack_on) (patj := instBack_patj) (J := instBack_J) (fun c hc ls R k => ?_) (fun c hc p hp m ls R k r h => ?_) (fun c hc p hp m ls R k r h => ?_) (fun ps x h => ?_)
  · rw [show (funOf Tryz.f3).code = bodyOf Tryz.f3 from rfl, instBack_loops] at hc
    simp only [List.mem_cons, List.not_mem_nil, or_false] at hc
    rcases hc with rfl
    · show instBack_L8 0 ls R k = none
      unfold instBack_L8
      split
      · rfl
      · rfl
  · rw [show (funOf Tryz.f3).code = bodyOf Tryz.f3 from rfl, instBack_loops] at hc
    simp only [List.mem_cons, List.not_mem_nil, or_false] at hc
    rcases hc with rfl
    · have hp' : p = ⟨sparse .undef [(3, (.ref 0 0)), (8, (.val (.int .i64))), (9, (.val (.int .i64)))] 0 85, [(.pbox (.agg [.fs, .fs, .fs, .fs]) 4)], []⟩ := (Option.some.inj (hp : some _ = some p)).symm
      subst hp'
      change instBack_L8 (m + 1) ls R k = some r at h
      have h' := h
      unfold instBack_L8 at h'
      split at h'
      · exact (instBack_step8 m _ _ _ _ _ _ R k).trans h
      · cases h'
  · cases (List.mem_filter.1 hc).2
  · obtain ⟨y, hy, hx⟩ := bind_inv h
    cases hx
    obtain ⟨l1, rfl⟩ := instBack_inv hy
    obtain ⟨n, hn⟩ := hok l1 y hy
    exact ⟨n, (instBack_eq n l1).trans (hn _ _)⟩

end
end Go.Proofs.YtkeklbicmfhemabGreatDoorV
