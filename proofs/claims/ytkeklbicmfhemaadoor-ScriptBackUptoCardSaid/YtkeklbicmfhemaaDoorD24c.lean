/- What the functions of the program come to, as the reading machine has it: printed by dec.py. -/
import Derived.Test.YtkeklbicmfhemaaDoorVTab
import Derived.Test.YtkeklbicmfhemaaDoorD24p
namespace Go.Proofs.YtkeklbicmfhemaaDoorV
open Go
set_option maxRecDepth 100000
set_option linter.unusedVariables false
set_option linter.unusedSimpArgs false
noncomputable section
/-! ## drayman/draymanlaw24.ScriptBack -/
def scriptBack_q7 {R : Type} (t40 : ByteArray) (e41 : Int) (u42 : ByteArray) (b43 : Bool) (es44 : List (List PV)) (es45 : List (List PV)) (k0 : Bool → Option R) (k1 : ByteArray → ByteArray → List (List PV) → List (List PV) → Option R) : Option R :=
  cond b43 (
    cond (ByteArray.toList t40 == ByteArray.toList (ByteArray.mk #[])) (
      cond (e41 != (0 : Int)) (
        Option.bind (wakes24_d) fun y46 =>
        k0 y46) (
        k0 false)) (
      k0 false)) (
    k1 t40 u42 es44 es45)
def scriptBack_q8 {R : Type} (t31 : ByteArray) (u32 : ByteArray) (es33 : List (List PV)) (es34 : List (List PV)) (k0 : Bool → Option R) : Option R :=
  Option.bind (sScParse t31) fun y35 =>
  if (t31).size + (u32).size ≤ 140737488355328 then
    Option.bind (sScParse (t31 ++ u32)) fun y36 =>
    cond (y35.2 == (0 : Int)) (
      Option.bind (sSameA y35.1 es33) fun y37 =>
      cond y37 (
        cond (y36.2 == (0 : Int)) (
          if (es33.length) * 32 ≤ maxBytes then
            if (es33.length + es34.length) * 32 ≤ maxBytes then
              Option.bind (sSameA y36.1 (es33 ++ es34)) fun y38 =>
              cond y38 (
                Option.bind (wakes24_d) fun y39 =>
                k0 y39) (
                k0 false)
            else none
          else none) (
          k0 false)) (
        k0 false)) (
      k0 false)
  else none
def scriptBack_q4 {R : Type} (es15 : List (List PV)) (es16 : List (List PV)) (k0 : Bool → Option R) : Option R :=
  Option.bind (sScPrint es15) fun y17 =>
  Option.bind (sScPrint es16) fun y18 =>
  cond (y17.2 != (0 : Int)) (
    scriptBack_q7 y17.1 y17.2 y18.1 true es15 es16 k0
      (fun (t20 : ByteArray) (u21 : ByteArray) (es22 : List (List PV)) (es23 : List (List PV)) =>
        scriptBack_q8 t20 u21 es22 es23 k0)) (
    scriptBack_q7 y17.1 y17.2 y18.1 (y18.2 != (0 : Int)) es15 es16 k0
      (fun (t26 : ByteArray) (u27 : ByteArray) (es28 : List (List PV)) (es29 : List (List PV)) =>
        scriptBack_q8 t26 u27 es28 es29 k0))
def scriptBack_b {R : Type} (l1 : List (List PV)) (a2 : List (List PV)) (b3 : List (List PV)) (s4 : ByteArray) (k : Bool → Option R) : Option R :=
  Option.bind (sPInst l1) fun y5 =>
  meet (
    meet (
      Option.bind (sActs24 y5.1 y5.2.1 y5.2.2.1 y5.2.2.2 a2 s4) fun y6 =>
      Option.bind (sActs24 y5.1 y5.2.1 y5.2.2.1 y5.2.2.2 b3 (ByteArray.mk #[116])) fun y7 =>
      scriptBack_q4 y6 y7 k) (
      Option.bind (sActs24 y5.1 y5.2.1 y5.2.2.1 y5.2.2.2 a2 s4) fun y9 =>
      Option.bind (sActs24 y5.1 y5.2.1 y5.2.2.1 y5.2.2.2 b3 (ByteArray.mk #[116])) fun y10 =>
      scriptBack_q4 y9 y10 k)) (
    Option.bind (sActs24 y5.1 y5.2.1 y5.2.2.1 y5.2.2.2 a2 s4) fun y12 =>
    Option.bind (sActs24 y5.1 y5.2.1 y5.2.2.1 y5.2.2.2 b3 (ByteArray.mk #[116])) fun y13 =>
    scriptBack_q4 y12 y13 k)
def scriptBack_E (y : Bool) : PV × List PV := ((PV.bool y), [])
def scriptBack_D : List PV → Option (Bool)
  | [(PV.fs l1), (PV.fs a2), (PV.fs b3), (PV.str s4)] => sScriptBack l1 a2 b3 s4
  | _ => none
def scriptBack_Γ : List (Nat × Cal) := [(22, .ctr pInst_C), (23, .ctr acts24_C), (19, .ctr scPrint_C), (18, .ctr scParse_C), (20, .ctr sameA_C), (21, .ctr wakes24_C)]
def scriptBack_C : Ctr := ⟨[none, none, none, none], Bool, scriptBack_D, scriptBack_E, true, .d⟩
def scriptBack_cfg : List (Nat × LC) := [(4000007, ⟨[10, 11, 12, 13, 14, 44], [], [], []⟩),
  (4000004, ⟨[10, 11], [], [], []⟩),
  (6000007, ⟨[8], [], [], []⟩),
  (5000007, ⟨[10, 11, 12, 14], [], [], []⟩),
  (6000004, ⟨[8], [], [], []⟩),
  (4000008, ⟨[10, 11, 12, 14], [], [], []⟩),
  (6000008, ⟨[8], [], [], []⟩)]
def scriptBack_pat : Nat → Option SP
  | _ => none
def scriptBack_patj : Nat → Option SP
  | 7 => some ⟨sparse .undef [(10, (.ow 0)), (11, (.ow 1)), (12, (.val .str)), (13, (.val (.int .i64))), (14, (.val .str)), (44, (.val .bool))] 0 88, [(.row 3), (.row 3)], []⟩
  | 8 => some ⟨sparse .undef [(10, (.ow 0)), (11, (.ow 1)), (12, (.val .str)), (14, (.val .str))] 0 88, [(.row 3), (.row 3)], []⟩
  | 4 => some ⟨sparse .undef [(10, (.ow 0)), (11, (.ow 1))] 0 88, [(.row 3), (.row 3)], []⟩
  | _ => none
def scriptBack_J7 (n : Nat) (ls : List Leaf) (R : Type) (k : Ex → St → Option R) : Option R :=
  match ls with
  | [.str t40, .int e41, .str u42, .bool b43, .rows es44, .rows es45] => scriptBack_q7 t40 e41 u42 b43 es44 es45 (fun y1047 => k .ret ⟨sparse .undef [(8, (TV.val (PV.bool y1047)))] 0 88, [], []⟩)
      (fun y1048 y1049 y1050 y1051 => k .normal ⟨sparse .undef [(10, (TV.ow 0)), (11, (TV.ow 1)), (12, (TV.val (PV.str y1048))), (14, (TV.val (PV.str y1049)))] 0 88, [(Ob.row y1050 3), (Ob.row y1051 3)], []⟩)
  | _ => none
def scriptBack_J8 (n : Nat) (ls : List Leaf) (R : Type) (k : Ex → St → Option R) : Option R :=
  match ls with
  | [.str t31, .str u32, .rows es33, .rows es34] => scriptBack_q8 t31 u32 es33 es34 (fun y2052 => k .ret ⟨sparse .undef [(8, (TV.val (PV.bool y2052)))] 0 88, [], []⟩)
  | _ => none
def scriptBack_J4 (n : Nat) (ls : List Leaf) (R : Type) (k : Ex → St → Option R) : Option R :=
  match ls with
  | [.rows es15, .rows es16] => scriptBack_q4 es15 es16 (fun y3053 => k .ret ⟨sparse .undef [(8, (TV.val (PV.bool y3053)))] 0 88, [], []⟩)
  | _ => none
def scriptBack_L (n key : Nat) (ls : List Leaf) (R : Type) (k : Ex → St → Option R) : Option R :=
  match key with
  | _ => none
def scriptBack_J (n key : Nat) (ls : List Leaf) (R : Type) (k : Ex → St → Option R) : Option R :=
  match key with
  | 7 => scriptBack_J7 n ls R k
  | 8 => scriptBack_J8 n ls R k
  | 4 => scriptBack_J4 n ls R k
  | _ => none
def scriptBack_on : Code → Bool := onKeys [4, 8, 7]
def scriptBack_Λ : Nat → Loops := patL (normBy scriptBack_cfg) scriptBack_pat scriptBack_L (normJ scriptBack_cfg) scriptBack_on scriptBack_patj scriptBack_J
theorem scriptBack_stepq4 (n : Nat) (es15 : List (List PV)) (es16 : List (List PV))  (R : Type) (k : Ex → St → Option R) :
    joinK T G0 (ctrOf scriptBack_Γ) (normJ scriptBack_cfg) (scriptBack_Λ n) (codeAt [1, 1, 1] (bodyOf Tryd.f5)) (buildSt ⟨sparse .undef [(10, (.ow 0)), (11, (.ow 1))] 0 88, [(.row 3), (.row 3)], []⟩ [.rows es15, .rows es16]) R k = scriptBack_J4 n [.rows es15, .rows es16] R k := by kernel_rfl
theorem scriptBack_stepq8 (n : Nat) (t31 : ByteArray) (u32 : ByteArray) (es33 : List (List PV)) (es34 : List (List PV))  (R : Type) (k : Ex → St → Option R) :
    joinK T G0 (ctrOf scriptBack_Γ) (normJ scriptBack_cfg) (scriptBack_Λ n) (codeAt [1, 1, 1, 1, 1, 1] (bodyOf Tryd.f5)) (buildSt ⟨sparse .undef [(10, (.ow 0)), (11, (.ow 1)), (12, (.val .str)), (14, (.val .str))] 0 88, [(.row 3), (.row 3)], []⟩ [.str t31, .str u32, .rows es33, .rows es34]) R k = scriptBack_J8 n [.str t31, .str u32, .rows es33, .rows es34] R k := by kernel_rfl
theorem scriptBack_stepq7 (n : Nat) (t40 : ByteArray) (e41 : Int) (u42 : ByteArray) (b43 : Bool) (es44 : List (List PV)) (es45 : List (List PV))  (R : Type) (k : Ex → St → Option R) :
    joinK T G0 (ctrOf scriptBack_Γ) (normJ scriptBack_cfg) (scriptBack_Λ n) (codeAt [1, 1, 1, 1, 1, 0, 1] (bodyOf Tryd.f5)) (buildSt ⟨sparse .undef [(10, (.ow 0)), (11, (.ow 1)), (12, (.val .str)), (13, (.val (.int .i64))), (14, (.val .str)), (44, (.val .bool))] 0 88, [(.row 3), (.row 3)], []⟩ [.str t40, .int e41, .str u42, .bool b43, .rows es44, .rows es45]) R k = scriptBack_J7 n [.str t40, .int e41, .str u42, .bool b43, .rows es44, .rows es45] R k := by kernel_rfl
theorem scriptBack_eq (l1 : List (List PV)) (a2 : List (List PV)) (b3 : List (List PV)) (s4 : ByteArray) :
    funK T G0 (ctrOf scriptBack_Γ) (scriptBack_Λ 0) .d true [none, none, none, none] (funOf Tryd.f5) [(PV.fs l1), (PV.fs a2), (PV.fs b3), (PV.str s4)] = scriptBack_b  l1 a2 b3 s4 (fun a0 => some (scriptBack_E a0)) := by kernel_rfl
theorem scriptBack_inv {ps : List PV} {y : Bool} (h : scriptBack_D ps = some y) : ∃ (l1 : List (List PV)) (a2 : List (List PV)) (b3 : List (List PV)) (s4 : ByteArray), ps = [(PV.fs l1), (PV.fs a2), (PV.fs b3), (PV.str s4)] := by
  unfold scriptBack_D at h
  split at h
  · exact ⟨_, _, _, _, rfl⟩
  · cases h
theorem scriptBack_loops : loopsOf (bodyOf Tryd.f5) = [] := by kernel_rfl
theorem scriptBack_joins : (joinsOf (bodyOf Tryd.f5)).filter scriptBack_on = [codeAt [1, 1, 1] (bodyOf Tryd.f5), codeAt [1, 1, 1, 1, 1, 1] (bodyOf Tryd.f5), codeAt [1, 1, 1, 1, 1, 0, 1] (bodyOf Tryd.f5)] := by kernel_rfl
theorem scriptBack_holds (hΓ : HoldsAll Tryd.prog G0 scriptBack_Γ) (hok : ∀ (l1 : List (List PV)) (a2 : List (List PV)) (b3 : List (List PV)) (s4 : ByteArray) (y : Bool), sScriptBack l1 a2 b3 s4 = some y → ∀ (R : Type) (k : Bool → Option R), scriptBack_b  l1 a2 b3 s4 k = k y) : Holds Tryd.prog G0 5 scriptBack_C := by
  refine fun_pat mixed tOk (ctrOf_ok hΓ) Tryd.func5 rfl rfl rfl rfl (F := funOf Tryd.f5) (normBy_ok scriptBack_cfg) (pat := scriptBack_pat) (L := scriptBack_L) (normJ_ok scriptBack_cfg) (on := scriptBack_on) (patj := scriptBack_patj) (J := scriptBack_J) (fun c hc ls R k => ?_) (fun c hc p hp m ls R k r h => ?_) (fun c hc p hp m ls R k r h => ?_) (fun ps x h => ?_)
  · rw [show (funOf Tryd.f5).code = bodyOf Tryd.f5 from rfl, scriptBack_loops] at hc
    cases hc
  · rw [show (funOf Tryd.f5).code = bodyOf Tryd.f5 from rfl, scriptBack_loops] at hc
    cases hc
  · rw [show (funOf Tryd.f5).code = bodyOf Tryd.f5 from rfl, scriptBack_joins] at hc
    simp only [List.mem_cons, List.not_mem_nil, or_false] at hc
    rcases hc with rfl | rfl | rfl
    · have hp' : p = ⟨sparse .undef [(10, (.ow 0)), (11, (.ow 1))] 0 88, [(.row 3), (.row 3)], []⟩ := (Option.some.inj (hp : some _ = some p)).symm
      subst hp'
      change scriptBack_J4 m ls R k = some r at h
      have h' := h
      unfold scriptBack_J4 at h'
      split at h'
      · exact (scriptBack_stepq4 m _ _ R k).trans h
      · cases h'
    · have hp' : p = ⟨sparse .undef [(10, (.ow 0)), (11, (.ow 1)), (12, (.val .str)), (14, (.val .str))] 0 88, [(.row 3), (.row 3)], []⟩ := (Option.some.inj (hp : some _ = some p)).symm
      subst hp'
      change scriptBack_J8 m ls R k = some r at h
      have h' := h
      unfold scriptBack_J8 at h'
      split at h'
      · exact (scriptBack_stepq8 m _ _ _ _ R k).trans h
      · cases h'
    · have hp' : p = ⟨sparse .undef [(10, (.ow 0)), (11, (.ow 1)), (12, (.val .str)), (13, (.val (.int .i64))), (14, (.val .str)), (44, (.val .bool))] 0 88, [(.row 3), (.row 3)], []⟩ := (Option.some.inj (hp : some _ = some p)).symm
      subst hp'
      change scriptBack_J7 m ls R k = some r at h
      have h' := h
      unfold scriptBack_J7 at h'
      split at h'
      · exact (scriptBack_stepq7 m _ _ _ _ _ _ R k).trans h
      · cases h'
  · obtain ⟨y, hy, hx⟩ := bind_inv h
    cases hx
    obtain ⟨l1, a2, b3, s4, rfl⟩ := scriptBack_inv hy
    exact ⟨0, (scriptBack_eq l1 a2 b3 s4).trans (hok l1 a2 b3 s4 y hy _ _)⟩

end
end Go.Proofs.YtkeklbicmfhemaaDoorV
