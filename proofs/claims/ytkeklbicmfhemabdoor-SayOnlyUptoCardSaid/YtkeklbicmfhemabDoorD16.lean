/- What the functions of the program come to, as the reading machine has it: printed by dec.py. -/
import Derived.Test.YtkeklbicmfhemabDoorVTab
import Derived.Test.YtkeklbicmfhemabDoorS16
import Derived.Test.YtkeklbicmfhemabDoorD02
namespace Go.Proofs.YtkeklbicmfhemabDoorV
open Go
set_option maxRecDepth 100000
set_option linter.unusedVariables false
set_option linter.unusedSimpArgs false
noncomputable section
/-! ## slices.Index[[]string,string] -/
def slIndexS_l2 {R : Type} : Nat → List (List PV) → ByteArray → Int → Int → (Int → Option R) → (Unit → Option R) → Option R
  | 0, _, _, _, _, _, _ => none
  | n + 1, s4, s5, i6, i7, k0, k1 =>
    cond (decide (i7 < i6)) (
      Option.bind (idx s4 i7) fun e8 =>
      if e8.length = 1 then
        Option.bind (e8[0]?) fun c9 =>
        Option.bind (PV.asS c9) fun s10 =>
        cond (ByteArray.toList s5 == ByteArray.toList s10) (
          k0 i7) (
          slIndexS_l2 n s4 s5 i6 (IntKind.i64.wrap (i7 + (1 : Int))) k0 k1)
      else none) (
      k1 ())
def slIndexS_b {R : Type} (n : Nat) (s1 : List (List PV)) (v2 : ByteArray) (k : Int → Option R) : Option R :=
  slIndexS_l2 n s1 v2 (s1.length : Int) 0 k
    (fun (_ : Unit) =>
      k (-1))
def slIndexS_E (y : Int) : PV × List PV := ((PV.int .i64 y), [])
def slIndexS_D : List PV → Option (Int)
  | [(PV.fs s1), (PV.str v2)] => sSlIndexS s1 v2
  | _ => none
def slIndexS_Γ : List (Nat × Cal) := []
def slIndexS_C : Ctr := ⟨[none, none], Int, slIndexS_D, slIndexS_E, true, .d⟩
def slIndexS_cfg : List (Nat × LC) := [(2, ⟨[0, 1, 7, 8], [], [], []⟩),
  (2000002, ⟨[4], [], [], []⟩),
  (1002000, ⟨[], [], [], []⟩)]
def slIndexS_pat : Nat → Option SP
  | 2 => some ⟨sparse .undef [(0, (.val .fs)), (1, (.val .str)), (7, (.val (.int .i64))), (8, (.val (.int .i64)))] 0 19, [], []⟩
  | _ => none
def slIndexS_patj : Nat → Option SP
  | _ => none
def slIndexS_L2 (n : Nat) (ls : List Leaf) (R : Type) (k : Ex → St → Option R) : Option R :=
  match ls with
  | [.rows s4, .str s5, .int i6, .int i7] => slIndexS_l2 n s4 s5 i6 i7 (fun y1011 => k .ret ⟨sparse .undef [(4, (TV.val (PV.int .i64 y1011)))] 0 19, [], []⟩)
      (fun _ => k (.exit 0) ⟨sparse .undef [] 0 19, [], []⟩)
  | _ => none
def slIndexS_L (n key : Nat) (ls : List Leaf) (R : Type) (k : Ex → St → Option R) : Option R :=
  match key with
  | 2 => slIndexS_L2 n ls R k
  | _ => none
def slIndexS_J (n key : Nat) (ls : List Leaf) (R : Type) (k : Ex → St → Option R) : Option R :=
  match key with
  | _ => none
def slIndexS_on : Code → Bool := fun _ => false
def slIndexS_Λ : Nat → Loops := patL (normBy slIndexS_cfg) slIndexS_pat slIndexS_L (normJ slIndexS_cfg) slIndexS_on slIndexS_patj slIndexS_J
theorem slIndexS_step2 (n : Nat) (s4 : List (List PV)) (s5 : ByteArray) (i6 : Int) (i7 : Int)  (R : Type) (k : Ex → St → Option R) :
    roundK T G0 (ctrOf slIndexS_Γ) (normBy slIndexS_cfg) (slIndexS_Λ n) (codeAt [1, 0, 1, 0, 0] (bodyOf Tryd.f46)) (buildSt ⟨sparse .undef [(0, (.val .fs)), (1, (.val .str)), (7, (.val (.int .i64))), (8, (.val (.int .i64)))] 0 19, [], []⟩ [.rows s4, .str s5, .int i6, .int i7]) R k = slIndexS_L2 (n + 1) [.rows s4, .str s5, .int i6, .int i7] R k := by kernel_rfl
theorem slIndexS_eq (n : Nat) (s1 : List (List PV)) (v2 : ByteArray) :
    funK T G0 (ctrOf slIndexS_Γ) (slIndexS_Λ n) .d true [none, none] (funOf Tryd.f46) [(PV.fs s1), (PV.str v2)] = slIndexS_b n  s1 v2 (fun a0 => some (slIndexS_E a0)) := by kernel_rfl
theorem slIndexS_inv {ps : List PV} {y : Int} (h : slIndexS_D ps = some y) : ∃ (s1 : List (List PV)) (v2 : ByteArray), ps = [(PV.fs s1), (PV.str v2)] := by
  unfold slIndexS_D at h
  split at h
  · exact ⟨_, _, rfl⟩
  · cases h
theorem slIndexS_loops : loopsOf (bodyOf Tryd.f46) = [codeAt [1, 0, 1, 0, 0] (bodyOf Tryd.f46)] := by kernel_rfl
theorem slIndexS_holds (hΓ : HoldsAll Tryd.prog G0 slIndexS_Γ) (hok : ∀ (s1 : List (List PV)) (v2 : ByteArray) (y : Int), sSlIndexS s1 v2 = some y → ∃ n, ∀ (R : Type) (k : Int → Option R), slIndexS_b n  s1 v2 k = k y) : Holds Tryd.prog G0 46 slIndexS_C := by
  refine fun_pat mixed tOk (ctrOf_ok hΓ) Tryd.func46 rfl rfl rfl rfl (F := funOf Tryd.f46) (normBy_ok slIndexS_cfg) (pat := slIndexS_pat) (L := slIndexS_L) (normJ_ok slIndexS_cfg) (on := slIndexS_on) (patj := slIndexS_patj) (J := slIndexS_J) (fun c hc ls R k => ?_) (fun c hc p hp m ls R k r h => ?_) (fun c hc p hp m ls R k r h => ?_) (fun ps x h => ?_)
  · rw [show (funOf Tryd.f46).code = bodyOf Tryd.f46 from rfl, slIndexS_loops] at hc
    simp only [List.mem_cons, List.not_mem_nil, or_false] at hc
    rcases hc with rfl
    · show slIndexS_L2 0 ls R k = none
      unfold slIndexS_L2
      split
      · rfl
      · rfl
  · rw [show (funOf Tryd.f46).code = bodyOf Tryd.f46 from rfl, slIndexS_loops] at hc
    simp only [List.mem_cons, List.not_mem_nil, or_false] at hc
    rcases hc with rfl
    · have hp' : p = ⟨sparse .undef [(0, (.val .fs)), (1, (.val .str)), (7, (.val (.int .i64))), (8, (.val (.int .i64)))] 0 19, [], []⟩ := (Option.some.inj (hp : some _ = some p)).symm
      subst hp'
      change slIndexS_L2 (m + 1) ls R k = some r at h
      have h' := h
      unfold slIndexS_L2 at h'
      split at h'
      · exact (slIndexS_step2 m _ _ _ _ R k).trans h
      · cases h'
  · cases (List.mem_filter.1 hc).2
  · obtain ⟨y, hy, hx⟩ := bind_inv h
    cases hx
    obtain ⟨s1, v2, rfl⟩ := slIndexS_inv hy
    obtain ⟨n, hn⟩ := hok s1 v2 y hy
    exact ⟨n, (slIndexS_eq n s1 v2).trans (hn _ _)⟩

/-! ## slices.Contains[[]string,string] -/
def slContainsS_b {R : Type} (s1 : List (List PV)) (v2 : ByteArray) (k : Bool → Option R) : Option R :=
  Option.bind (sSlIndexS s1 v2) fun y3 =>
  k (decide (y3 ≥ (0 : Int)))
def slContainsS_E (y : Bool) : PV × List PV := ((PV.bool y), [])
def slContainsS_d (s1 : List (List PV)) (v2 : ByteArray) : Option (Bool) := slContainsS_b s1 v2 fun a0 => some a0
def slContainsS_D : List PV → Option (Bool)
  | [(PV.fs s1), (PV.str v2)] => slContainsS_d s1 v2
  | _ => none
def slContainsS_Γ : List (Nat × Cal) := [(46, .ctr slIndexS_C)]
def slContainsS_C : Ctr := ⟨[none, none], Bool, slContainsS_D, slContainsS_E, true, .d⟩
theorem slContainsS_eq (s1 : List (List PV)) (v2 : ByteArray) :
    funK T G0 (ctrOf slContainsS_Γ) noL .d true [none, none] (funOf Tryd.f29) [(PV.fs s1), (PV.str v2)] = slContainsS_b  s1 v2 (fun a0 => some (slContainsS_E a0)) := by kernel_rfl
theorem slContainsS_inv {ps : List PV} {y : Bool} (h : slContainsS_D ps = some y) : ∃ (s1 : List (List PV)) (v2 : ByteArray), ps = [(PV.fs s1), (PV.str v2)] := by
  unfold slContainsS_D at h
  split at h
  · exact ⟨_, _, rfl⟩
  · cases h
theorem slContainsS_nat {R : Type} (s1 : List (List PV)) (v2 : ByteArray) (k : Bool → Option R) : slContainsS_b s1 v2 k = Option.bind (slContainsS_b s1 v2 fun a0 => some a0) fun y => k y := by
  unfold slContainsS_b
  first | rfl | simp only [Option.bind_assoc, bind_cond, bind_ite, Option.bind_some, Option.bind_none]
theorem slContainsS_holds (hΓ : HoldsAll Tryd.prog G0 slContainsS_Γ) : Holds Tryd.prog G0 29 slContainsS_C := by
  refine fun_ok mixed tOk (ctrOf_ok hΓ) Tryd.func29 rfl rfl rfl rfl (F := funOf Tryd.f29) (fun ps x h => ?_)
  obtain ⟨y, hy, hx⟩ := bind_inv h
  cases hx
  obtain ⟨s1, v2, rfl⟩ := slContainsS_inv hy
  have hy' : slContainsS_d s1 v2 = some y := hy
  refine ⟨noL, noL_ok _, (slContainsS_eq s1 v2).trans ?_⟩
  unfold slContainsS_d at hy'
  rw [slContainsS_nat, hy']
  rfl

/-! ## drayman/say.words -/
def sayWords_b {R : Type} (k : List (List PV) → Option R) : Option R :=
  k [[(PV.str (ByteArray.mk #[97, 114, 103]))], [(PV.str (ByteArray.mk #[102, 111, 114, 109]))], [(PV.str (ByteArray.mk #[108, 111, 110, 103]))], [(PV.str (ByteArray.mk #[115, 116, 111, 112]))], [(PV.str (ByteArray.mk #[99, 97, 114]))], [(PV.str (ByteArray.mk #[112, 108, 97, 99, 101]))], [(PV.str (ByteArray.mk #[112, 97, 105, 114]))], [(PV.str (ByteArray.mk #[116, 104, 101, 114, 101]))], [(PV.str (ByteArray.mk #[103, 111, 110, 101]))], [(PV.str (ByteArray.mk #[115, 97, 109, 101]))], [(PV.str (ByteArray.mk #[105, 99, 101, 100]))], [(PV.str (ByteArray.mk #[104, 101, 108, 100]))], [(PV.str (ByteArray.mk #[102, 105, 116]))], [(PV.str (ByteArray.mk #[110, 111, 110, 101]))], [(PV.str (ByteArray.mk #[99, 111, 110, 102, 108, 105, 99, 116]))], [(PV.str (ByteArray.mk #[98, 117, 115, 121]))]]
def sayWords_E (y : (List (List PV))) : PV × List PV := ((PV.os y 1), [])
def sayWords_d : Option ((List (List PV))) := sayWords_b fun a0 => if (noMem (sayWords_E a0).1 && noMemL (sayWords_E a0).2) = true then some a0 else none
def sayWords_D : List PV → Option ((List (List PV)))
  | [] => sayWords_d
  | _ => none
def sayWords_Γ : List (Nat × Cal) := []
def sayWords_C : Ctr := ⟨[], (List (List PV)), sayWords_D, sayWords_E, true, .s⟩
theorem sayWords_eq :
    funK T G0 (ctrOf sayWords_Γ) noL .s true [] (funOf Tryd.f25) [] = sayWords_b  (fun a0 => if (noMem (sayWords_E a0).1 && noMemL (sayWords_E a0).2) = true then some (sayWords_E a0) else none) := by kernel_rfl
theorem sayWords_inv {ps : List PV} {y : (List (List PV))} (h : sayWords_D ps = some y) : ps = [] := by
  unfold sayWords_D at h
  split at h
  · rfl
  · cases h
theorem sayWords_nat {R : Type} (k : List (List PV) → Option R) : sayWords_b k = Option.bind (sayWords_b fun a0 => some a0) fun y => k y := by
  unfold sayWords_b
  first | rfl | simp only [Option.bind_assoc, bind_cond, bind_ite, Option.bind_some, Option.bind_none]
theorem sayWords_holds (hΓ : HoldsAll Tryd.prog G0 sayWords_Γ) : Holds Tryd.prog G0 25 sayWords_C := by
  refine fun_ok mixed tOk (ctrOf_ok hΓ) Tryd.func25 rfl rfl rfl rfl (F := funOf Tryd.f25) (fun ps x h => ?_)
  obtain ⟨y, hy, hx⟩ := bind_inv h
  cases hx
  obtain rfl := sayWords_inv hy
  have hy' : sayWords_d = some y := hy
  refine ⟨noL, noL_ok _, (sayWords_eq).trans ?_⟩
  unfold sayWords_d at hy'
  rw [sayWords_nat] at hy' ⊢
  obtain ⟨z, hz, hz'⟩ := bind_inv hy'
  rw [hz]
  try simp only at hz'
  split at hz'
  · rename_i hno
    cases hz'
    exact if_pos hno
  · cases hz'

/-! ## drayman/say.No -/
def sayNo_b {R : Type} (e1 : Int) (k : ByteArray → Option R) : Option R :=
  Option.bind (sayWords_d) fun y2 =>
  cond (decide (e1 < (1 : Int))) (
    k (ByteArray.mk #[110, 111, 32, 119, 104, 97, 116])) (
    cond (decide (e1 > (y2.length : Int))) (
      k (ByteArray.mk #[110, 111, 32, 119, 104, 97, 116])) (
      if 0 ≤ (IntKind.i64.wrap (e1 - (1 : Int))) ∧ (IntKind.i64.wrap (e1 - (1 : Int))) < (y2.length : Int) then
        Option.bind (y2[(Int.toNat (IntKind.i64.wrap (e1 - (1 : Int))))]?) fun e3 =>
        Option.bind (e3[0]?) fun c4 =>
        Option.bind (PV.asS c4) fun s5 =>
        if ((ByteArray.mk #[110, 111, 32])).size + (s5).size ≤ 140737488355328 then
          k ((ByteArray.mk #[110, 111, 32]) ++ s5)
        else none
      else none))
def sayNo_E (y : ByteArray) : PV × List PV := ((PV.str y), [])
def sayNo_d (e1 : Int) : Option (ByteArray) := sayNo_b e1 fun a0 => some a0
def sayNo_D : List PV → Option (ByteArray)
  | [(PV.int .i64 e1)] => sayNo_d e1
  | _ => none
def sayNo_Γ : List (Nat × Cal) := [(25, .ctr sayWords_C)]
def sayNo_C : Ctr := ⟨[none], ByteArray, sayNo_D, sayNo_E, true, .d⟩
theorem sayNo_eq (e1 : Int) :
    funK T G0 (ctrOf sayNo_Γ) noL .d true [none] (funOf Tryd.f7) [(PV.int .i64 e1)] = sayNo_b  e1 (fun a0 => some (sayNo_E a0)) := by kernel_rfl
theorem sayNo_inv {ps : List PV} {y : ByteArray} (h : sayNo_D ps = some y) : ∃ (e1 : Int), ps = [(PV.int .i64 e1)] := by
  unfold sayNo_D at h
  split at h
  · exact ⟨_, rfl⟩
  · cases h
theorem sayNo_nat {R : Type} (e1 : Int) (k : ByteArray → Option R) : sayNo_b e1 k = Option.bind (sayNo_b e1 fun a0 => some a0) fun y => k y := by
  unfold sayNo_b
  first | rfl | simp only [Option.bind_assoc, bind_cond, bind_ite, Option.bind_some, Option.bind_none]
theorem sayNo_holds (hΓ : HoldsAll Tryd.prog G0 sayNo_Γ) : Holds Tryd.prog G0 7 sayNo_C := by
  refine fun_ok mixed tOk (ctrOf_ok hΓ) Tryd.func7 rfl rfl rfl rfl (F := funOf Tryd.f7) (fun ps x h => ?_)
  obtain ⟨y, hy, hx⟩ := bind_inv h
  cases hx
  obtain ⟨e1, rfl⟩ := sayNo_inv hy
  have hy' : sayNo_d e1 = some y := hy
  refine ⟨noL, noL_ok _, (sayNo_eq e1).trans ?_⟩
  unfold sayNo_d at hy'
  rw [sayNo_nat, hy']
  rfl

/-! ## drayman/say.List -/
def sayList_l2 {R : Type} : Nat → ByteArray → List (List PV) → Int → Int → (ByteArray → Option R) → Option R
  | 0, _, _, _, _, _ => none
  | n + 1, word4, es5, i6, i7, k0 =>
    cond (decide (i7 < i6)) (
      Option.bind (idx es5 i7) fun e8 =>
      if e8.length = 1 then
        Option.bind (e8[0]?) fun c9 =>
        Option.bind (PV.asI .i64 c9) fun n10 =>
        if (word4).size + ((ByteArray.mk #[32])).size ≤ 140737488355328 then
          Option.bind (digits_d n10) fun y11 =>
          if ((word4 ++ (ByteArray.mk #[32]))).size + (y11).size ≤ 140737488355328 then
            sayList_l2 n ((word4 ++ (ByteArray.mk #[32])) ++ y11) es5 i6 (IntKind.i64.wrap (i7 + (1 : Int))) k0
          else none
        else none
      else none) (
      k0 word4)
def sayList_b {R : Type} (n : Nat) (word1 : ByteArray) (n2 : List (List PV)) (k : ByteArray → Option R) : Option R :=
  sayList_l2 n word1 n2 (n2.length : Int) 0 k
def sayList_E (y : ByteArray) : PV × List PV := ((PV.str y), [])
def sayList_D : List PV → Option (ByteArray)
  | [(PV.str word1), (PV.fs n2)] => sSayList word1 n2
  | _ => none
def sayList_Γ : List (Nat × Cal) := [(26, .ctr digits_C)]
def sayList_C : Ctr := ⟨[none, none], ByteArray, sayList_D, sayList_E, true, .d⟩
def sayList_cfg : List (Nat × LC) := [(2, ⟨[0, 7, 8, 9], [], [], []⟩),
  (1002000, ⟨[0], [], [], []⟩)]
def sayList_pat : Nat → Option SP
  | 2 => some ⟨sparse .undef [(0, (.val .str)), (7, (.val .fs)), (8, (.val (.int .i64))), (9, (.val (.int .i64)))] 0 20, [], []⟩
  | _ => none
def sayList_patj : Nat → Option SP
  | _ => none
def sayList_L2 (n : Nat) (ls : List Leaf) (R : Type) (k : Ex → St → Option R) : Option R :=
  match ls with
  | [.str word4, .rows es5, .int i6, .int i7] => sayList_l2 n word4 es5 i6 i7 (fun y1012 => k (.exit 0) ⟨sparse .undef [(0, (TV.val (PV.str y1012)))] 0 20, [], []⟩)
  | _ => none
def sayList_L (n key : Nat) (ls : List Leaf) (R : Type) (k : Ex → St → Option R) : Option R :=
  match key with
  | 2 => sayList_L2 n ls R k
  | _ => none
def sayList_J (n key : Nat) (ls : List Leaf) (R : Type) (k : Ex → St → Option R) : Option R :=
  match key with
  | _ => none
def sayList_on : Code → Bool := fun _ => false
def sayList_Λ : Nat → Loops := patL (normBy sayList_cfg) sayList_pat sayList_L (normJ sayList_cfg) sayList_on sayList_patj sayList_J
theorem sayList_step2 (n : Nat) (word4 : ByteArray) (es5 : List (List PV)) (i6 : Int) (i7 : Int)  (R : Type) (k : Ex → St → Option R) :
    roundK T G0 (ctrOf sayList_Γ) (normBy sayList_cfg) (sayList_Λ n) (codeAt [1, 0, 1, 0, 0] (bodyOf Tryd.f9)) (buildSt ⟨sparse .undef [(0, (.val .str)), (7, (.val .fs)), (8, (.val (.int .i64))), (9, (.val (.int .i64)))] 0 20, [], []⟩ [.str word4, .rows es5, .int i6, .int i7]) R k = sayList_L2 (n + 1) [.str word4, .rows es5, .int i6, .int i7] R k := by kernel_rfl
theorem sayList_eq (n : Nat) (word1 : ByteArray) (n2 : List (List PV)) :
    funK T G0 (ctrOf sayList_Γ) (sayList_Λ n) .d true [none, none] (funOf Tryd.f9) [(PV.str word1), (PV.fs n2)] = sayList_b n  word1 n2 (fun a0 => some (sayList_E a0)) := by kernel_rfl
theorem sayList_inv {ps : List PV} {y : ByteArray} (h : sayList_D ps = some y) : ∃ (word1 : ByteArray) (n2 : List (List PV)), ps = [(PV.str word1), (PV.fs n2)] := by
  unfold sayList_D at h
  split at h
  · exact ⟨_, _, rfl⟩
  · cases h
theorem sayList_loops : loopsOf (bodyOf Tryd.f9) = [codeAt [1, 0, 1, 0, 0] (bodyOf Tryd.f9)] := by kernel_rfl
theorem sayList_holds (hΓ : HoldsAll Tryd.prog G0 sayList_Γ) (hok : ∀ (word1 : ByteArray) (n2 : List (List PV)) (y : ByteArray), sSayList word1 n2 = some y → ∃ n, ∀ (R : Type) (k : ByteArray → Option R), sayList_b n  word1 n2 k = k y) : Holds Tryd.prog G0 9 sayList_C := by
  refine fun_pat mixed tOk (ctrOf_ok hΓ) Tryd.func9 rfl rfl rfl rfl (F := funOf Tryd.f9) (normBy_ok sayList_cfg) (pat := sayList_pat) (L := sayList_L) (normJ_ok sayList_cfg) (on := sayList_on) (patj := sayList_patj) (J := sayList_J) (fun c hc ls R k => ?_) (fun c hc p hp m ls R k r h => ?_) (fun c hc p hp m ls R k r h => ?_) (fun ps x h => ?_)
  · rw [show (funOf Tryd.f9).code = bodyOf Tryd.f9 from rfl, sayList_loops] at hc
    simp only [List.mem_cons, List.not_mem_nil, or_false] at hc
    rcases hc with rfl
    · show sayList_L2 0 ls R k = none
      unfold sayList_L2
      split
      · rfl
      · rfl
  · rw [show (funOf Tryd.f9).code = bodyOf Tryd.f9 from rfl, sayList_loops] at hc
    simp only [List.mem_cons, List.not_mem_nil, or_false] at hc
    rcases hc with rfl
    · have hp' : p = ⟨sparse .undef [(0, (.val .str)), (7, (.val .fs)), (8, (.val (.int .i64))), (9, (.val (.int .i64)))] 0 20, [], []⟩ := (Option.some.inj (hp : some _ = some p)).symm
      subst hp'
      change sayList_L2 (m + 1) ls R k = some r at h
      have h' := h
      unfold sayList_L2 at h'
      split at h'
      · exact (sayList_step2 m _ _ _ _ R k).trans h
      · cases h'
  · cases (List.mem_filter.1 hc).2
  · obtain ⟨y, hy, hx⟩ := bind_inv h
    cases hx
    obtain ⟨word1, n2, rfl⟩ := sayList_inv hy
    obtain ⟨n, hn⟩ := hok word1 n2 y hy
    exact ⟨n, (sayList_eq n word1 n2).trans (hn _ _)⟩

/-! ## drayman/say.Ok -/
def sayOk_b {R : Type} (n1 : List (List PV)) (k : ByteArray → Option R) : Option R :=
  Option.bind (sSayList (ByteArray.mk #[111, 107]) n1) fun y2 =>
  k y2
def sayOk_E (y : ByteArray) : PV × List PV := ((PV.str y), [])
def sayOk_d (n1 : List (List PV)) : Option (ByteArray) := sayOk_b n1 fun a0 => some a0
def sayOk_D : List PV → Option (ByteArray)
  | [(PV.fs n1)] => sayOk_d n1
  | _ => none
def sayOk_Γ : List (Nat × Cal) := [(9, .ctr sayList_C)]
def sayOk_C : Ctr := ⟨[none], ByteArray, sayOk_D, sayOk_E, true, .d⟩
theorem sayOk_eq (n1 : List (List PV)) :
    funK T G0 (ctrOf sayOk_Γ) noL .d true [none] (funOf Tryd.f8) [(PV.fs n1)] = sayOk_b  n1 (fun a0 => some (sayOk_E a0)) := by kernel_rfl
theorem sayOk_inv {ps : List PV} {y : ByteArray} (h : sayOk_D ps = some y) : ∃ (n1 : List (List PV)), ps = [(PV.fs n1)] := by
  unfold sayOk_D at h
  split at h
  · exact ⟨_, rfl⟩
  · cases h
theorem sayOk_nat {R : Type} (n1 : List (List PV)) (k : ByteArray → Option R) : sayOk_b n1 k = Option.bind (sayOk_b n1 fun a0 => some a0) fun y => k y := by
  unfold sayOk_b
  first | rfl | simp only [Option.bind_assoc, bind_cond, bind_ite, Option.bind_some, Option.bind_none]
theorem sayOk_holds (hΓ : HoldsAll Tryd.prog G0 sayOk_Γ) : Holds Tryd.prog G0 8 sayOk_C := by
  refine fun_ok mixed tOk (ctrOf_ok hΓ) Tryd.func8 rfl rfl rfl rfl (F := funOf Tryd.f8) (fun ps x h => ?_)
  obtain ⟨y, hy, hx⟩ := bind_inv h
  cases hx
  obtain ⟨n1, rfl⟩ := sayOk_inv hy
  have hy' : sayOk_d n1 = some y := hy
  refine ⟨noL, noL_ok _, (sayOk_eq n1).trans ?_⟩
  unfold sayOk_d at hy'
  rw [sayOk_nat, hy']
  rfl

/-! ## drayman/say.Read -/
def sayRead_l9 {R : Type} : Nat → Nat → Nat → Int → Int → List (List PV) → List (List PV) → (ByteArray → Int → Option R) → (List (List PV) → List (List PV) → Option R) → Option R
  | 0, _, _, _, _, _, _, _, _ => none
  | n + 1, j22, j23, i24, i25, es26, es27, k0, k1 =>
    cond (decide (i25 < i24)) (
      if 0 ≤ i25 ∧ i25 < (j23 : Int) then
        Option.bind (es27[(j22 + (Int.toNat i25))]?) fun e28 =>
        Option.bind (e28[0]?) fun c29 =>
        Option.bind (PV.asS c29) fun s30 =>
        Option.bind (sInt_d s30) fun y31 =>
        cond (!y31.2) (
          k0 (ByteArray.mk #[]) 2) (
          if (es26.length + ([[(PV.int .i64 y31.1)]] : List (List PV)).length) * 8 ≤ maxBytes then
            sayRead_l9 n j22 j23 i24 (IntKind.i64.wrap (i25 + (1 : Int))) (es26 ++ [[(PV.int .i64 y31.1)]]) es27 k0 k1
          else none)
      else none) (
      k1 es26 es27)
def sayRead_q7 {R : Type} (n : Nat) (s129 : ByteArray) (b130 : Bool) (k0 : ByteArray → Int → Option R) (k1 : ByteArray → Option R) : Option R :=
  cond b130 (
    k0 (ByteArray.mk #[]) 2) (
    k1 s129)
def sayRead_q4 {R : Type} (n : Nat) (s126 : ByteArray) (b127 : Bool) (es128 : List (List PV)) (k0 : ByteArray → Int → Option R) (k1 : ByteArray → List (List PV) → Option R) : Option R :=
  cond b127 (
    k0 (ByteArray.mk #[]) 2) (
    k1 s126 es128)
def sayRead_q5 {R : Type} (n : Nat) (s32 : ByteArray) (es33 : List (List PV)) (k0 : ByteArray → Int → Option R) (k1 : ByteArray → Int → List (List PV) → Option R) : Option R :=
  if 0 ≤ (0 : Int) ∧ (0 : Int) < (es33.length : Int) then
    Option.bind (es33[0]?) fun e34 =>
    Option.bind (e34[0]?) fun c35 =>
    Option.bind (PV.asS c35) fun s36 =>
    cond (ByteArray.toList s36 == ByteArray.toList (ByteArray.mk #[110, 111])) (
      cond ((es33.length : Int) != (2 : Int)) (
        meet (
          meet (
            meet (
              sayRead_q7 n s32 true k0
                (fun (s39 : ByteArray) =>
                  k0 s39 0)) (
              sayRead_q7 n s32 true k0
                (fun (s42 : ByteArray) =>
                  k0 s42 0))) (
            sayRead_q7 n s32 true k0
              (fun (s45 : ByteArray) =>
                k0 s45 0))) (
          meet (
          meet (
            meet (
              sayRead_q7 n s32 true k0
                (fun (s48 : ByteArray) =>
                  k0 s48 0)) (
              sayRead_q7 n s32 true k0
                (fun (s51 : ByteArray) =>
                  k0 s51 0))) (
            sayRead_q7 n s32 true k0
              (fun (s54 : ByteArray) =>
                k0 s54 0))) (
          meet (
            sayRead_q7 n s32 true k0
              (fun (s57 : ByteArray) =>
                k0 s57 0)) (
            sayRead_q7 n s32 true k0
              (fun (s60 : ByteArray) =>
                k0 s60 0))))) (
        if 0 ≤ (1 : Int) ∧ (1 : Int) < (es33.length : Int) then
          meet (
            Option.bind (sayWords_d) fun y61 =>
            meet (
              meet (
                if (y61.length + ([[(PV.str (ByteArray.mk #[119, 104, 97, 116]))]] : List (List PV)).length) * 16 ≤ maxBytes then
                  Option.bind (es33[1]?) fun e62 =>
                  Option.bind (e62[0]?) fun c63 =>
                  Option.bind (PV.asS c63) fun s64 =>
                  Option.bind (slContainsS_d (y61 ++ [[(PV.str (ByteArray.mk #[119, 104, 97, 116]))]]) s64) fun y65 =>
                  sayRead_q7 n s32 (!y65) k0
                    (fun (s68 : ByteArray) =>
                      k0 s68 0)
                else none) (
                Option.bind (es33[1]?) fun e69 =>
                Option.bind (e69[0]?) fun c70 =>
                Option.bind (PV.asS c70) fun s71 =>
                if (y61.length + ([[(PV.str (ByteArray.mk #[119, 104, 97, 116]))]] : List (List PV)).length) * 16 ≤ maxBytes then
                  Option.bind (slContainsS_d (y61 ++ [[(PV.str (ByteArray.mk #[119, 104, 97, 116]))]]) s71) fun y72 =>
                  sayRead_q7 n s32 (!y72) k0
                    (fun (s75 : ByteArray) =>
                      k0 s75 0)
                else none)) (
              Option.bind (es33[1]?) fun e76 =>
              Option.bind (e76[0]?) fun c77 =>
              Option.bind (PV.asS c77) fun s78 =>
              if (y61.length + ([[(PV.str (ByteArray.mk #[119, 104, 97, 116]))]] : List (List PV)).length) * 16 ≤ maxBytes then
                Option.bind (slContainsS_d (y61 ++ [[(PV.str (ByteArray.mk #[119, 104, 97, 116]))]]) s78) fun y79 =>
                sayRead_q7 n s32 (!y79) k0
                  (fun (s82 : ByteArray) =>
                    k0 s82 0)
              else none)) (
            meet (
            meet (
              Option.bind (sayWords_d) fun y83 =>
              meet (
                if (y83.length + ([[(PV.str (ByteArray.mk #[119, 104, 97, 116]))]] : List (List PV)).length) * 16 ≤ maxBytes then
                  Option.bind (es33[1]?) fun e84 =>
                  Option.bind (e84[0]?) fun c85 =>
                  Option.bind (PV.asS c85) fun s86 =>
                  Option.bind (slContainsS_d (y83 ++ [[(PV.str (ByteArray.mk #[119, 104, 97, 116]))]]) s86) fun y87 =>
                  sayRead_q7 n s32 (!y87) k0
                    (fun (s90 : ByteArray) =>
                      k0 s90 0)
                else none) (
                Option.bind (es33[1]?) fun e91 =>
                Option.bind (e91[0]?) fun c92 =>
                Option.bind (PV.asS c92) fun s93 =>
                if (y83.length + ([[(PV.str (ByteArray.mk #[119, 104, 97, 116]))]] : List (List PV)).length) * 16 ≤ maxBytes then
                  Option.bind (slContainsS_d (y83 ++ [[(PV.str (ByteArray.mk #[119, 104, 97, 116]))]]) s93) fun y94 =>
                  sayRead_q7 n s32 (!y94) k0
                    (fun (s97 : ByteArray) =>
                      k0 s97 0)
                else none)) (
              Option.bind (es33[1]?) fun e98 =>
              Option.bind (e98[0]?) fun c99 =>
              Option.bind (PV.asS c99) fun s100 =>
              Option.bind (sayWords_d) fun y101 =>
              if (y101.length + ([[(PV.str (ByteArray.mk #[119, 104, 97, 116]))]] : List (List PV)).length) * 16 ≤ maxBytes then
                Option.bind (slContainsS_d (y101 ++ [[(PV.str (ByteArray.mk #[119, 104, 97, 116]))]]) s100) fun y102 =>
                sayRead_q7 n s32 (!y102) k0
                  (fun (s105 : ByteArray) =>
                    k0 s105 0)
              else none)) (
            Option.bind (es33[1]?) fun e106 =>
            Option.bind (e106[0]?) fun c107 =>
            Option.bind (PV.asS c107) fun s108 =>
            meet (
              Option.bind (sayWords_d) fun y109 =>
              if (y109.length + ([[(PV.str (ByteArray.mk #[119, 104, 97, 116]))]] : List (List PV)).length) * 16 ≤ maxBytes then
                Option.bind (slContainsS_d (y109 ++ [[(PV.str (ByteArray.mk #[119, 104, 97, 116]))]]) s108) fun y110 =>
                sayRead_q7 n s32 (!y110) k0
                  (fun (s113 : ByteArray) =>
                    k0 s113 0)
              else none) (
              Option.bind (sayWords_d) fun y114 =>
              if (y114.length + ([[(PV.str (ByteArray.mk #[119, 104, 97, 116]))]] : List (List PV)).length) * 16 ≤ maxBytes then
                Option.bind (slContainsS_d (y114 ++ [[(PV.str (ByteArray.mk #[119, 104, 97, 116]))]]) s108) fun y115 =>
                sayRead_q7 n s32 (!y115) k0
                  (fun (s118 : ByteArray) =>
                    k0 s118 0)
              else none)))
        else none)) (
      if (0 : Int) ≤ (1 : Int) ∧ (1 : Int) ≤ (es33.length : Int) ∧ (es33.length : Int) = (es33.length : Int) ∧ (es33.length : Int) ≤ (es33.length : Int) ∧ 1 = 1 then
        sayRead_l9 n 1 (Int.toNat ((es33.length : Int) - (1 : Int))) ((Int.toNat ((es33.length : Int) - (1 : Int))) : Int) 0 [] es33 k0
          (fun (es121 : List (List PV)) (es122 : List (List PV)) =>
            if 0 ≤ (0 : Int) ∧ (0 : Int) < (es122.length : Int) then
              Option.bind (es122[0]?) fun e123 =>
              Option.bind (e123[0]?) fun c124 =>
              Option.bind (PV.asS c124) fun s125 =>
              k1 s125 0 es121
            else none)
      else none)
  else none
def sayRead_b {R : Type} (n : Nat) (s1 : ByteArray) (k : ByteArray → List (List PV) → Int → Option R) : Option R :=
  Option.bind (sWords s1) fun y2 =>
  cond ((y2.length : Int) == (0 : Int)) (
    sayRead_q4 n s1 true y2
      (fun (word3 : ByteArray) (e4 : Int) =>
        k word3 [] e4)
      (fun (s5 : ByteArray) (es6 : List (List PV)) =>
        sayRead_q5 n s5 es6
          (fun (word7 : ByteArray) (e8 : Int) =>
            k word7 [] e8)
          (fun (word9 : ByteArray) (e10 : Int) (es11 : List (List PV)) =>
            k word9 es11 e10))) (
    Option.bind (sJoin y2 (ByteArray.mk #[32])) fun y12 =>
    sayRead_q4 n s1 (!(ByteArray.toList y12 == ByteArray.toList s1)) y2
      (fun (word13 : ByteArray) (e14 : Int) =>
        k word13 [] e14)
      (fun (s15 : ByteArray) (es16 : List (List PV)) =>
        sayRead_q5 n s15 es16
          (fun (word17 : ByteArray) (e18 : Int) =>
            k word17 [] e18)
          (fun (word19 : ByteArray) (e20 : Int) (es21 : List (List PV)) =>
            k word19 es21 e20)))
def sayRead_E (y : ByteArray × (List (List PV)) × Int) : PV × List PV := ((PV.tuple [(PV.str y.1), (PV.os y.2.1 1), (PV.int .i64 y.2.2)]), [])
def sayRead_D : List PV → Option (ByteArray × (List (List PV)) × Int)
  | [(PV.str s1)] => sSayRead s1
  | _ => none
def sayRead_Γ : List (Nat × Cal) := [(27, .ctr wordsS_C), (28, .ctr joinS_C), (30, .ctr sInt_C), (25, .ctr sayWords_C), (29, .ctr slContainsS_C)]
def sayRead_C : Ctr := ⟨[none], ByteArray × (List (List PV)) × Int, sayRead_D, sayRead_E, true, (.t [.d, .s, .d])⟩
def sayRead_cfg : List (Nat × LC) := [(4000004, ⟨[0, 3, 5, 20], [], [], []⟩),
  (6000004, ⟨[2, 3, 4], [], [], []⟩),
  (5000004, ⟨[0, 3, 5], [], [], []⟩),
  (4000007, ⟨[0, 37], [], [], []⟩),
  (9, ⟨[3, 5, 40, 41, 42], [3], [], []⟩),
  (4000005, ⟨[0, 3, 5], [], [], []⟩),
  (6000007, ⟨[2, 3, 4], [], [], []⟩),
  (5000007, ⟨[0], [], [], []⟩),
  (2000009, ⟨[2, 3, 4], [], [], []⟩),
  (1009000, ⟨[3, 5], [], [], []⟩),
  (6000005, ⟨[2, 3, 4], [], [], []⟩)]
def sayRead_pat : Nat → Option SP
  | 9 => some ⟨sparse .undef [(3, (.ow 0)), (5, (.ow 1)), (40, (.sl 1 false)), (41, (.val (.int .i64))), (42, (.val (.int .i64)))] 0 62, [(.row 1), (.row 1)], []⟩
  | _ => none
def sayRead_patj : Nat → Option SP
  | 7 => some ⟨sparse .undef [(0, (.val .str)), (37, (.val .bool))] 0 62, [], []⟩
  | 4 => some ⟨sparse .undef [(0, (.val .str)), (3, (.nil 1)), (5, (.ow 0)), (20, (.val .bool))] 0 62, [(.row 1)], []⟩
  | 5 => some ⟨sparse .undef [(0, (.val .str)), (3, (.nil 1)), (5, (.ow 0))] 0 62, [(.row 1)], []⟩
  | _ => none
def sayRead_L9 (n : Nat) (ls : List Leaf) (R : Type) (k : Ex → St → Option R) : Option R :=
  match ls with
  | [.nat j22, .nat j23, .int i24, .int i25, .rows es26, .rows es27] => sayRead_l9 n j22 j23 i24 i25 es26 es27 (fun y1131 y1132 => k .ret ⟨sparse .undef [(2, (TV.val (PV.str y1131))), (3, (TV.nil 1)), (4, (TV.val (PV.int .i64 y1132)))] 0 62, [], []⟩)
      (fun y1133 y1134 => k (.exit 0) ⟨sparse .undef [(3, (TV.ow 0)), (5, (TV.ow 1))] 0 62, [(Ob.row y1133 1), (Ob.row y1134 1)], []⟩)
  | _ => none
def sayRead_J7 (n : Nat) (ls : List Leaf) (R : Type) (k : Ex → St → Option R) : Option R :=
  match ls with
  | [.str s129, .bool b130] => sayRead_q7 n s129 b130 (fun y2135 y2136 => k .ret ⟨sparse .undef [(2, (TV.val (PV.str y2135))), (3, (TV.nil 1)), (4, (TV.val (PV.int .i64 y2136)))] 0 62, [], []⟩)
      (fun y2137 => k .normal ⟨sparse .undef [(0, (TV.val (PV.str y2137)))] 0 62, [], []⟩)
  | _ => none
def sayRead_J4 (n : Nat) (ls : List Leaf) (R : Type) (k : Ex → St → Option R) : Option R :=
  match ls with
  | [.str s126, .bool b127, .rows es128] => sayRead_q4 n s126 b127 es128 (fun y3138 y3139 => k .ret ⟨sparse .undef [(2, (TV.val (PV.str y3138))), (3, (TV.nil 1)), (4, (TV.val (PV.int .i64 y3139)))] 0 62, [], []⟩)
      (fun y3140 y3141 => k .normal ⟨sparse .undef [(0, (TV.val (PV.str y3140))), (3, (TV.nil 1)), (5, (TV.ow 0))] 0 62, [(Ob.row y3141 1)], []⟩)
  | _ => none
def sayRead_J5 (n : Nat) (ls : List Leaf) (R : Type) (k : Ex → St → Option R) : Option R :=
  match ls with
  | [.str s32, .rows es33] => sayRead_q5 n s32 es33 (fun y4142 y4143 => k .ret ⟨sparse .undef [(2, (TV.val (PV.str y4142))), (3, (TV.nil 1)), (4, (TV.val (PV.int .i64 y4143)))] 0 62, [], []⟩)
      (fun y4144 y4145 y4146 => k .ret ⟨sparse .undef [(2, (TV.val (PV.str y4144))), (3, (TV.ow 0)), (4, (TV.val (PV.int .i64 y4145)))] 0 62, [(Ob.row y4146 1)], []⟩)
  | _ => none
def sayRead_L (n key : Nat) (ls : List Leaf) (R : Type) (k : Ex → St → Option R) : Option R :=
  match key with
  | 9 => sayRead_L9 n ls R k
  | _ => none
def sayRead_J (n key : Nat) (ls : List Leaf) (R : Type) (k : Ex → St → Option R) : Option R :=
  match key with
  | 7 => sayRead_J7 n ls R k
  | 4 => sayRead_J4 n ls R k
  | 5 => sayRead_J5 n ls R k
  | _ => none
def sayRead_on : Code → Bool := onKeys [5, 4, 7]
def sayRead_Λ : Nat → Loops := patL (normBy sayRead_cfg) sayRead_pat sayRead_L (normJ sayRead_cfg) sayRead_on sayRead_patj sayRead_J
theorem sayRead_step9 (n : Nat) (j22 : Nat) (j23 : Nat) (i24 : Int) (i25 : Int) (es26 : List (List PV)) (es27 : List (List PV))  (R : Type) (k : Ex → St → Option R) :
    roundK T G0 (ctrOf sayRead_Γ) (normBy sayRead_cfg) (sayRead_Λ n) (codeAt [1, 1, 1, 1, 0, 1, 0, 0] (bodyOf Tryd.f10)) (buildSt ⟨sparse .undef [(3, (.ow 0)), (5, (.ow 1)), (40, (.sl 1 false)), (41, (.val (.int .i64))), (42, (.val (.int .i64)))] 0 62, [(.row 1), (.row 1)], []⟩ [.nat j22, .nat j23, .int i24, .int i25, .rows es26, .rows es27]) R k = sayRead_L9 (n + 1) [.nat j22, .nat j23, .int i24, .int i25, .rows es26, .rows es27] R k := by kernel_rfl
theorem sayRead_stepq5 (n : Nat) (s32 : ByteArray) (es33 : List (List PV))  (R : Type) (k : Ex → St → Option R) :
    joinK T G0 (ctrOf sayRead_Γ) (normJ sayRead_cfg) (sayRead_Λ n) (codeAt [1, 1, 1] (bodyOf Tryd.f10)) (buildSt ⟨sparse .undef [(0, (.val .str)), (3, (.nil 1)), (5, (.ow 0))] 0 62, [(.row 1)], []⟩ [.str s32, .rows es33]) R k = sayRead_J5 n [.str s32, .rows es33] R k := by kernel_rfl
theorem sayRead_stepq4 (n : Nat) (s126 : ByteArray) (b127 : Bool) (es128 : List (List PV))  (R : Type) (k : Ex → St → Option R) :
    joinK T G0 (ctrOf sayRead_Γ) (normJ sayRead_cfg) (sayRead_Λ n) (codeAt [1, 1, 0, 1] (bodyOf Tryd.f10)) (buildSt ⟨sparse .undef [(0, (.val .str)), (3, (.nil 1)), (5, (.ow 0)), (20, (.val .bool))] 0 62, [(.row 1)], []⟩ [.str s126, .bool b127, .rows es128]) R k = sayRead_J4 n [.str s126, .bool b127, .rows es128] R k := by kernel_rfl
theorem sayRead_stepq7 (n : Nat) (s129 : ByteArray) (b130 : Bool)  (R : Type) (k : Ex → St → Option R) :
    joinK T G0 (ctrOf sayRead_Γ) (normJ sayRead_cfg) (sayRead_Λ n) (codeAt [1, 1, 1, 0, 1, 0, 0, 1] (bodyOf Tryd.f10)) (buildSt ⟨sparse .undef [(0, (.val .str)), (37, (.val .bool))] 0 62, [], []⟩ [.str s129, .bool b130]) R k = sayRead_J7 n [.str s129, .bool b130] R k := by kernel_rfl
theorem sayRead_eq (n : Nat) (s1 : ByteArray) :
    funK T G0 (ctrOf sayRead_Γ) (sayRead_Λ n) (.t [.d, .s, .d]) true [none] (funOf Tryd.f10) [(PV.str s1)] = sayRead_b n  s1 (fun a0 a1 a2 => if (noMem (sayRead_E (a0, a1, a2)).1 && noMemL (sayRead_E (a0, a1, a2)).2) = true then some (sayRead_E (a0, a1, a2)) else none) := by kernel_rfl
theorem sayRead_inv {ps : List PV} {y : ByteArray × (List (List PV)) × Int} (h : sayRead_D ps = some y) : ∃ (s1 : ByteArray), ps = [(PV.str s1)] := by
  unfold sayRead_D at h
  split at h
  · exact ⟨_, rfl⟩
  · cases h
theorem sayRead_loops : loopsOf (bodyOf Tryd.f10) = [codeAt [1, 1, 1, 1, 0, 1, 0, 0] (bodyOf Tryd.f10)] := by kernel_rfl
theorem sayRead_joins : (joinsOf (bodyOf Tryd.f10)).filter sayRead_on = [codeAt [1, 1, 1] (bodyOf Tryd.f10), codeAt [1, 1, 0, 1] (bodyOf Tryd.f10), codeAt [1, 1, 1, 0, 1, 0, 0, 1] (bodyOf Tryd.f10)] := by kernel_rfl
theorem sayRead_holds (hΓ : HoldsAll Tryd.prog G0 sayRead_Γ) (hok : ∀ (s1 : ByteArray) (y : ByteArray × (List (List PV)) × Int), sSayRead s1 = some y → ∃ n, ∀ (R : Type) (k : ByteArray → List (List PV) → Int → Option R), sayRead_b n  s1 k = k y.1 y.2.1 y.2.2) (hno : ∀ (s1 : ByteArray) (y : ByteArray × (List (List PV)) × Int), sSayRead s1 = some y → (noMem (sayRead_E y).1 && noMemL (sayRead_E y).2) = true) : Holds Tryd.prog G0 10 sayRead_C := by
  refine fun_pat mixed tOk (ctrOf_ok hΓ) Tryd.func10 rfl rfl rfl rfl (F := funOf Tryd.f10) (normBy_ok sayRead_cfg) (pat := sayRead_pat) (L := sayRead_L) (normJ_ok sayRead_cfg) (on := sayRead_on) (patj := sayRead_patj) (J := sayRead_J) (fun c hc ls R k => ?_) (fun c hc p hp m ls R k r h => ?_) (fun c hc p hp m ls R k r h => ?_) (fun ps x h => ?_)
  · rw [show (funOf Tryd.f10).code = bodyOf Tryd.f10 from rfl, sayRead_loops] at hc
    simp only [List.mem_cons, List.not_mem_nil, or_false] at hc
    rcases hc with rfl
    · show sayRead_L9 0 ls R k = none
      unfold sayRead_L9
      split
      · rfl
      · rfl
  · rw [show (funOf Tryd.f10).code = bodyOf Tryd.f10 from rfl, sayRead_loops] at hc
    simp only [List.mem_cons, List.not_mem_nil, or_false] at hc
    rcases hc with rfl
    · have hp' : p = ⟨sparse .undef [(3, (.ow 0)), (5, (.ow 1)), (40, (.sl 1 false)), (41, (.val (.int .i64))), (42, (.val (.int .i64)))] 0 62, [(.row 1), (.row 1)], []⟩ := (Option.some.inj (hp : some _ = some p)).symm
      subst hp'
      change sayRead_L9 (m + 1) ls R k = some r at h
      have h' := h
      unfold sayRead_L9 at h'
      split at h'
      · exact (sayRead_step9 m _ _ _ _ _ _ R k).trans h
      · cases h'
  · rw [show (funOf Tryd.f10).code = bodyOf Tryd.f10 from rfl, sayRead_joins] at hc
    simp only [List.mem_cons, List.not_mem_nil, or_false] at hc
    rcases hc with rfl | rfl | rfl
    · have hp' : p = ⟨sparse .undef [(0, (.val .str)), (3, (.nil 1)), (5, (.ow 0))] 0 62, [(.row 1)], []⟩ := (Option.some.inj (hp : some _ = some p)).symm
      subst hp'
      change sayRead_J5 m ls R k = some r at h
      have h' := h
      unfold sayRead_J5 at h'
      split at h'
      · exact (sayRead_stepq5 m _ _ R k).trans h
      · cases h'
    · have hp' : p = ⟨sparse .undef [(0, (.val .str)), (3, (.nil 1)), (5, (.ow 0)), (20, (.val .bool))] 0 62, [(.row 1)], []⟩ := (Option.some.inj (hp : some _ = some p)).symm
      subst hp'
      change sayRead_J4 m ls R k = some r at h
      have h' := h
      unfold sayRead_J4 at h'
      split at h'
      · exact (sayRead_stepq4 m _ _ _ R k).trans h
      · cases h'
    · have hp' : p = ⟨sparse .undef [(0, (.val .str)), (37, (.val .bool))] 0 62, [], []⟩ := (Option.some.inj (hp : some _ = some p)).symm
      subst hp'
      change sayRead_J7 m ls R k = some r at h
      have h' := h
      unfold sayRead_J7 at h'
      split at h'
      · exact (sayRead_stepq7 m _ _ R k).trans h
      · cases h'
  · obtain ⟨y, hy, hx⟩ := bind_inv h
    cases hx
    obtain ⟨s1, rfl⟩ := sayRead_inv hy
    obtain ⟨n, hn⟩ := hok s1 y hy
    exact ⟨n, (sayRead_eq n s1).trans ((hn _ _).trans (if_pos (hno s1 y hy)))⟩

/-! ## drayman/draymankeep.Same[int] -/
def sameI_l4 {R : Type} : Nat → List (List PV) → List (List PV) → Int → (Bool → Option R) → (Unit → Option R) → Option R
  | 0, _, _, _, _, _ => none
  | n + 1, a4, b5, i6, k0, k1 =>
    cond (decide (i6 < (a4.length : Int))) (
      Option.bind (idx a4 i6) fun e7 =>
      if e7.length = 1 then
        Option.bind (e7[0]?) fun c8 =>
        Option.bind (PV.asI .i64 c8) fun n9 =>
        Option.bind (idx b5 i6) fun e10 =>
        if e10.length = 1 then
          Option.bind (e10[0]?) fun c11 =>
          Option.bind (PV.asI .i64 c11) fun n12 =>
          cond (n9 != n12) (
            k0 false) (
            sameI_l4 n a4 b5 (IntKind.i64.wrap (i6 + (1 : Int))) k0 k1)
        else none
      else none) (
      k1 ())
def sameI_b {R : Type} (n : Nat) (a1 : List (List PV)) (b2 : List (List PV)) (k : Bool → Option R) : Option R :=
  cond ((a1.length : Int) != (b2.length : Int)) (
    k false) (
    sameI_l4 n a1 b2 0 k
      (fun (_ : Unit) =>
        k true))
def sameI_E (y : Bool) : PV × List PV := ((PV.bool y), [])
def sameI_D : List PV → Option (Bool)
  | [(PV.fs a1), (PV.fs b2)] => sSameI a1 b2
  | _ => none
def sameI_Γ : List (Nat × Cal) := []
def sameI_C : Ctr := ⟨[none, none], Bool, sameI_D, sameI_E, true, .d⟩
def sameI_cfg : List (Nat × LC) := [(4, ⟨[0, 1, 5], [], [], []⟩),
  (2000004, ⟨[4], [], [], []⟩),
  (1004000, ⟨[], [], [], []⟩)]
def sameI_pat : Nat → Option SP
  | 4 => some ⟨sparse .undef [(0, (.val .fs)), (1, (.val .fs)), (5, (.val (.int .i64)))] 0 26, [], []⟩
  | _ => none
def sameI_patj : Nat → Option SP
  | _ => none
def sameI_L4 (n : Nat) (ls : List Leaf) (R : Type) (k : Ex → St → Option R) : Option R :=
  match ls with
  | [.rows a4, .rows b5, .int i6] => sameI_l4 n a4 b5 i6 (fun y1013 => k .ret ⟨sparse .undef [(4, (TV.val (PV.bool y1013)))] 0 26, [], []⟩)
      (fun _ => k (.exit 0) ⟨sparse .undef [] 0 26, [], []⟩)
  | _ => none
def sameI_L (n key : Nat) (ls : List Leaf) (R : Type) (k : Ex → St → Option R) : Option R :=
  match key with
  | 4 => sameI_L4 n ls R k
  | _ => none
def sameI_J (n key : Nat) (ls : List Leaf) (R : Type) (k : Ex → St → Option R) : Option R :=
  match key with
  | _ => none
def sameI_on : Code → Bool := fun _ => false
def sameI_Λ : Nat → Loops := patL (normBy sameI_cfg) sameI_pat sameI_L (normJ sameI_cfg) sameI_on sameI_patj sameI_J
theorem sameI_step4 (n : Nat) (a4 : List (List PV)) (b5 : List (List PV)) (i6 : Int)  (R : Type) (k : Ex → St → Option R) :
    roundK T G0 (ctrOf sameI_Γ) (normBy sameI_cfg) (sameI_Λ n) (codeAt [1, 1, 0, 1, 0, 0] (bodyOf Tryd.f11)) (buildSt ⟨sparse .undef [(0, (.val .fs)), (1, (.val .fs)), (5, (.val (.int .i64)))] 0 26, [], []⟩ [.rows a4, .rows b5, .int i6]) R k = sameI_L4 (n + 1) [.rows a4, .rows b5, .int i6] R k := by kernel_rfl
theorem sameI_eq (n : Nat) (a1 : List (List PV)) (b2 : List (List PV)) :
    funK T G0 (ctrOf sameI_Γ) (sameI_Λ n) .d true [none, none] (funOf Tryd.f11) [(PV.fs a1), (PV.fs b2)] = sameI_b n  a1 b2 (fun a0 => some (sameI_E a0)) := by kernel_rfl
theorem sameI_inv {ps : List PV} {y : Bool} (h : sameI_D ps = some y) : ∃ (a1 : List (List PV)) (b2 : List (List PV)), ps = [(PV.fs a1), (PV.fs b2)] := by
  unfold sameI_D at h
  split at h
  · exact ⟨_, _, rfl⟩
  · cases h
theorem sameI_loops : loopsOf (bodyOf Tryd.f11) = [codeAt [1, 1, 0, 1, 0, 0] (bodyOf Tryd.f11)] := by kernel_rfl
theorem sameI_holds (hΓ : HoldsAll Tryd.prog G0 sameI_Γ) (hok : ∀ (a1 : List (List PV)) (b2 : List (List PV)) (y : Bool), sSameI a1 b2 = some y → ∃ n, ∀ (R : Type) (k : Bool → Option R), sameI_b n  a1 b2 k = k y) : Holds Tryd.prog G0 11 sameI_C := by
  refine fun_pat mixed tOk (ctrOf_ok hΓ) Tryd.func11 rfl rfl rfl rfl (F := funOf Tryd.f11) (normBy_ok sameI_cfg) (pat := sameI_pat) (L := sameI_L) (normJ_ok sameI_cfg) (on := sameI_on) (patj := sameI_patj) (J := sameI_J) (fun c hc ls R k => ?_) (fun c hc p hp m ls R k r h => ?_) (fun c hc p hp m ls R k r h => ?_) (fun ps x h => ?_)
  · rw [show (funOf Tryd.f11).code = bodyOf Tryd.f11 from rfl, sameI_loops] at hc
    simp only [List.mem_cons, List.not_mem_nil, or_false] at hc
    rcases hc with rfl
    · show sameI_L4 0 ls R k = none
      unfold sameI_L4
      split
      · rfl
      · rfl
  · rw [show (funOf Tryd.f11).code = bodyOf Tryd.f11 from rfl, sameI_loops] at hc
    simp only [List.mem_cons, List.not_mem_nil, or_false] at hc
    rcases hc with rfl
    · have hp' : p = ⟨sparse .undef [(0, (.val .fs)), (1, (.val .fs)), (5, (.val (.int .i64)))] 0 26, [], []⟩ := (Option.some.inj (hp : some _ = some p)).symm
      subst hp'
      change sameI_L4 (m + 1) ls R k = some r at h
      have h' := h
      unfold sameI_L4 at h'
      split at h'
      · exact (sameI_step4 m _ _ _ R k).trans h
      · cases h'
  · cases (List.mem_filter.1 hc).2
  · obtain ⟨y, hy, hx⟩ := bind_inv h
    cases hx
    obtain ⟨a1, b2, rfl⟩ := sameI_inv hy
    obtain ⟨n, hn⟩ := hok a1 b2 y hy
    exact ⟨n, (sameI_eq n a1 b2).trans (hn _ _)⟩

/-! ## drayman/draymanlaw16.wakes -/
def wakes16_b {R : Type} (k : Bool → Option R) : Option R :=
  Option.bind (sayOk_d []) fun y1 =>
  cond (ByteArray.toList y1 == ByteArray.toList (ByteArray.mk #[111, 107])) (
    Option.bind (sayNo_d 16) fun y2 =>
    k (ByteArray.toList y2 == ByteArray.toList (ByteArray.mk #[110, 111, 32, 98, 117, 115, 121]))) (
    k false)
def wakes16_E (y : Bool) : PV × List PV := ((PV.bool y), [])
def wakes16_d : Option (Bool) := wakes16_b fun a0 => some a0
def wakes16_D : List PV → Option (Bool)
  | [] => wakes16_d
  | _ => none
def wakes16_Γ : List (Nat × Cal) := [(8, .ctr sayOk_C), (7, .ctr sayNo_C)]
def wakes16_C : Ctr := ⟨[], Bool, wakes16_D, wakes16_E, true, .d⟩
theorem wakes16_eq :
    funK T G0 (ctrOf wakes16_Γ) noL .d true [] (funOf Tryd.f13) [] = wakes16_b  (fun a0 => some (wakes16_E a0)) := by kernel_rfl
theorem wakes16_inv {ps : List PV} {y : Bool} (h : wakes16_D ps = some y) : ps = [] := by
  unfold wakes16_D at h
  split at h
  · rfl
  · cases h
theorem wakes16_nat {R : Type} (k : Bool → Option R) : wakes16_b k = Option.bind (wakes16_b fun a0 => some a0) fun y => k y := by
  unfold wakes16_b
  first | rfl | simp only [Option.bind_assoc, bind_cond, bind_ite, Option.bind_some, Option.bind_none]
theorem wakes16_holds (hΓ : HoldsAll Tryd.prog G0 wakes16_Γ) : Holds Tryd.prog G0 13 wakes16_C := by
  refine fun_ok mixed tOk (ctrOf_ok hΓ) Tryd.func13 rfl rfl rfl rfl (F := funOf Tryd.f13) (fun ps x h => ?_)
  obtain ⟨y, hy, hx⟩ := bind_inv h
  cases hx
  obtain rfl := wakes16_inv hy
  have hy' : wakes16_d = some y := hy
  refine ⟨noL, noL_ok _, (wakes16_eq).trans ?_⟩
  unfold wakes16_d at hy'
  rw [wakes16_nat, hy']
  rfl

end
end Go.Proofs.YtkeklbicmfhemabDoorV
