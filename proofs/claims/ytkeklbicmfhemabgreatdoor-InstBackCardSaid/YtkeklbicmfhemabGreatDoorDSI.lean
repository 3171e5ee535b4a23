/- What the functions of the program come to, as the reading machine has it: printed by dec.py. -/
import Derived.Test.YtkeklbicmfhemabGreatDoorVTab
import Derived.Test.YtkeklbicmfhemabGreatDoorS02
namespace Go.Proofs.YtkeklbicmfhemabGreatDoorV
open Go
set_option maxRecDepth 100000
set_option linter.unusedVariables false
set_option linter.unusedSimpArgs false
noncomputable section
/-! ## drayman/draymankeep.Same[int] -/
def sameI_l4 {R : Type} : Nat → List (List PV) → List (List PV) → Int → (Bool → Option R) → (Unit → Option R) → Option R
  | 0, _, _, _, _, _ => none
  | n + 1, a4, b5, i6, k0, k1 =>
    cond (decide (i6 < (a4.length : Int))) (
      Option.bind (idx a4 i6) fun e7 =>
      if e7.length = 1 then
        Option.bind (e7[0]?) fun c8 =>
        Option.bind (PV.asI .i64 c8) fun n9 =>
        Option.bind (idx b5 i6) fun e10 =>
        if e10.length = 1 then
          Option.bind (e10[0]?) fun c11 =>
          Option.bind (PV.asI .i64 c11) fun n12 =>
          cond (n9 != n12) (
            k0 false) (
            sameI_l4 n a4 b5 (IntKind.i64.wrap (i6 + (1 : Int))) k0 k1)
        else none
      else none) (
      k1 ())
def sameI_b {R : Type} (n : Nat) (a1 : List (List PV)) (b2 : List (List PV)) (k : Bool → Option R) : Option R :=
  cond ((a1.length : Int) != (b2.length : Int)) (
    k false) (
    sameI_l4 n a1 b2 0 k
      (fun (_ : Unit) =>
        k true))
def sameI_E (y : Bool) : PV × List PV := ((PV.bool y), [])
def sameI_D : List PV → Option (Bool)
  | [(PV.fs a1), (PV.fs b2)] => sSameI a1 b2
  | _ => none
def sameI_Γ : List (Nat × Cal) := []
def sameI_C : Ctr := ⟨[none, none], Bool, sameI_D, sameI_E, true, .d⟩
def sameI_cfg : List (Nat × LC) := [(4, ⟨[0, 1, 5], [], [], []⟩),
  (2000004, ⟨[4], [], [], []⟩),
  (1004000, ⟨[], [], [], []⟩)]
def sameI_pat : Nat → Option SP
  | 4 => some ⟨sparse .undef [(0, (.val .fs)), (1, (.val .fs)), (5, (.val (.int .i64)))] 0 26, [], []⟩
  | _ => none
def sameI_patj : Nat → Option SP
  | _ => none
def sameI_L4 (n : Nat) (ls : List Leaf) (R : Type) (k : Ex → St → Option R) : Option R :=
  match ls with
  | [.rows a4, .rows b5, .int i6] => sameI_l4 n a4 b5 i6 (fun y1013 => k .ret ⟨sparse .undef [(4, (TV.val (PV.bool y1013)))] 0 26, [], []⟩)
      (fun _ => k (.exit 0) ⟨sparse .undef [] 0 26, [], []⟩)
  | _ => none
def sameI_L (n key : Nat) (ls : List Leaf) (R : Type) (k : Ex → St → Option R) : Option R :=
  match key with
  | 4 => sameI_L4 n ls R k
  | _ => none
def sameI_J (n key : Nat) (ls : List Leaf) (R : Type) (k : Ex → St → Option R) : Option R :=
  match key with
  | _ => none
def sameI_on : Code → Bool := fun _ => false
def sameI_Λ : Nat → Loops := patL (normBy sameI_cfg) sameI_pat sameI_L (normJ sameI_cfg) sameI_on sameI_patj sameI_J
theorem sameI_step4 (n : Nat) (a4 : List (List PV)) (b5 : List (List PV)) (i6 : Int)  (R : Type) (k : Ex → St → Option R) :
    roundK T G0 (ctrOf sameI_Γ) (normBy sameI_cfg) (sameI_Λ n) (codeAt [1, 1, 0, 1, 0, 0] (bodyOf Tryz.f20)) (buildSt ⟨sparse .undef [(0, (.val .fs)), (1, (.val .fs)), (5, (.val (.int .i64)))] 0 26, [], []⟩ [.rows a4, .rows b5, .int i6]) R k = sameI_L4 (n + 1) [.rows a4, .rows b5, .int i6] R k := by kernel_rfl
theorem sameI_eq (n : Nat) (a1 : List (List PV)) (b2 : List (List PV)) :
    funK T G0 (ctrOf sameI_Γ) (sameI_Λ n) .d true [none, none] (funOf Tryz.f20) [(PV.fs a1), (PV.fs b2)] = sameI_b n  a1 b2 (fun a0 => some (sameI_E a0)) := by kernel_rfl
theorem sameI_inv {ps : List PV} {y : Bool} (h : sameI_D ps = some y) : ∃ (a1 : List (List PV)) (b2 : List (List PV)), ps = [(PV.fs a1), (PV.fs b2)] := by
  unfold sameI_D at h
  split at h
  · exact ⟨_, _, rfl⟩
  · cases h
theorem sameI_loops : loopsOf (bodyOf Tryz.f20) = [codeAt [1, 1, 0, 1, 0, 0] (bodyOf Tryz.f20)] := by kernel_rfl
theorem sameI_holds (hΓ : HoldsAll Tryz.prog G0 sameI_Γ) (hok : ∀ (a1 : List (List PV)) (b2 : List (List PV)) (y : Bool), sSameI a1 b2 = some y → ∃ n, ∀ (R : Type) (k : Bool → Option R), sameI_b n  a1 b2 k = k y) : Holds Tryz.prog G0 20 sameI_C := by
  refine fun_pat mixed tOk (ctrOf_ok hΓ) Tryz.func20 rfl rfl rfl rfl (F := funOf Tryz.f20) (normBy_ok sameI_cfg) (pat := sameI_pat) (L := sameI_L) (normJ_ok sameI_cfg) (on := sameI_on) (patj := sameI_patj) (J := sameI_J) (fun c hc ls R k => ?_) (fun c hc p hp m ls R k r h => ?_) (fun c hc p hp m ls R k r h => ?_) (fun ps x h => ?_)
  · rw [show (funOf Tryz.f20).code = bodyOf Tryz.f20 from rfl, sameI_loops] at hc
    simp only [List.mem_cons, List.not_mem_nil, or_false] at hc
    rcases hc with rfl
    · show sameI_L4 0 ls R k = none
      unfold sameI_L4
      split
      · rfl
      · rfl
  · rw [show (funOf Tryz.f20).code = bodyOf Tryz.f20 from rfl, sameI_loops] at hc
    simp only [List.mem_cons, List.not_mem_nil, or_false] at hc
    rcases hc with rfl
    · have hp' : p = ⟨sparse .undef [(0, (.val .fs)), (1, (.val .fs)), (5, (.val (.int .i64)))] 0 26, [], []⟩ := (Option.some.inj (hp : some _ = some p)).symm
      subst hp'
      change sameI_L4 (m + 1) ls R k = some r at h
      have h' := h
      unfold sameI_L4 at h'
      split at h'
      · exact (sameI_step4 m _ _ _ R k).trans h
      · cases h'
  · cases (List.mem_filter.1 hc).2
  · obtain ⟨y, hy, hx⟩ := bind_inv h
    cases hx
    obtain ⟨a1, b2, rfl⟩ := sameI_inv hy
    obtain ⟨n, hn⟩ := hok a1 b2 y hy
    exact ⟨n, (sameI_eq n a1 b2).trans (hn _ _)⟩

end
end Go.Proofs.YtkeklbicmfhemabGreatDoorV
