/- Plans, mates: what the document's functions come to. -/
import Derived.Test.YtkeklbicmfhemaaDoorQI2
namespace Go.Proofs.YtkeklbicmfhemaaDoorV
open Go
set_option maxRecDepth 20000
set_option linter.unusedSimpArgs false

theorem filled_rounds {R : Type} {x : Int} {N : Nat} (hN : N ≤ 1000) (k0 : List (List PV) → Option R) : ∀ (f j n : Nat), j + f = N → f < n →
    rFilled_l3 n x (N : Int) (j : Int) (iRow (List.replicate j x ++ List.replicate f 0)) k0 = k0 (iRow (List.replicate N x))
  | f, j, n, hj, hn => by
    obtain ⟨m, rfl⟩ : ∃ m, n = m + 1 := ⟨n - 1, by omega⟩
    unfold rFilled_l3
    cases f with
    | zero =>
      rw [decide_eq_false (by omega), cond_false]
      rw [show N = j by omega]
      simp
    | succ f =>
      have ih := filled_rounds (x := x) hN k0 f (j + 1) m (by omega) (by omega)
      have hlen : (iRow (List.replicate j x ++ List.replicate (f + 1) (0 : Int))).length = N := by rw [iRow_length]; simp; omega
      have hget : (iRow (List.replicate j x ++ List.replicate (f + 1) (0 : Int)))[Int.toNat (j : Int)]? = some [PV.int .i64 0] := by
        rw [Int.toNat_natCast, iRow, List.getElem?_map, List.getElem?_append_right (by simp)]
        simp
      have hset : List.set (iRow (List.replicate j x ++ List.replicate (f + 1) (0 : Int))) (Int.toNat (j : Int)) (List.set [PV.int .i64 0] 0 (PV.int .i64 x)) = iRow (List.replicate (j + 1) x ++ List.replicate f 0) := by
        rw [Int.toNat_natCast]
        have e1 : List.replicate (j + 1) x = List.replicate j x ++ [x] := List.replicate_succ'
        rw [e1, List.replicate_succ, List.append_assoc, iRow_append, iRow_append, List.set_append_right _ _ (by rw [iRow_length]; simp)]
        rw [iRow_length, List.length_replicate, Nat.sub_self]
        rfl
      have e0 : ([PV.int .i64 0] : List PV)[0]? = some (PV.int .i64 0) := rfl
      rw [decide_eq_true (by omega), cond_true, hlen, if_pos (by omega), hget, Option.bind_some, e0, Option.bind_some, hset, wrapN (by omega) (by omega), show ((j : Int) + 1) = ((j + 1 : Nat) : Int) by omega, ih]
theorem rFilled_ok : ∀ (n1 x2 : Int) (y : List (List PV)), sFilled n1 x2 = some y → ∃ n, ∀ (R : Type) (k : List (List PV) → Option R), rFilled_b n n1 x2 k = k y := by
  intro n1 x y h
  unfold sFilled at h
  split at h
  case isFalse => cases h
  rename_i hh
  cases h
  obtain ⟨h1, h2, _⟩ := hh
  obtain ⟨N, rfl⟩ : ∃ N : Nat, n1 = (N : Int) := ⟨n1.toNat, by omega⟩
  refine ⟨N + 1, fun R k => ?_⟩
  unfold rFilled_b
  rw [if_pos ⟨rfl, by omega, by unfold maxBytes; omega, rfl⟩, Int.toNat_natCast, List.length_replicate]
  have := filled_rounds (R := R) (x := x) (N := N) (by omega) k N 0 (N + 1) (by omega) (by omega)
  rw [show List.replicate N [PV.int .i64 0] = iRow (List.replicate 0 x ++ List.replicate N 0) by simp [iRow]]
  exact this
theorem noMem_iRow : ∀ l : List Int, noMemEs (iRow l) = true
  | [] => rfl
  | a :: l => by
    have := noMem_iRow l
    simp [iRow, noMemEs, noMemL, noMem] at this ⊢
    exact this
theorem rFilled_no : ∀ (n1 x2 : Int) (y : List (List PV)), sFilled n1 x2 = some y → (noMem (rFilled_E y).1 && noMemL (rFilled_E y).2) = true := by
  intro n x y h
  unfold sFilled at h
  split at h
  case isFalse => cases h
  cases h
  simp [rFilled_E, noMem, noMemL, noMem_iRow]
theorem sFilled_of {n : Nat} {x : Int} (h : n ≤ 1000) (hx : inI x = true) : sFilled (n : Int) x = some (iRow (List.replicate n x)) := by
  unfold sFilled
  rw [if_pos ⟨by omega, by omega, hx⟩, Int.toNat_natCast]
theorem checkI_small {i : Inst} (h : checkI i = true) : i.cars.length ≤ 3 ∧ i.stops.length ≤ 10 := by
  simp only [checkI, Bool.and_eq_true, decide_eq_true_eq, inR] at h
  omega
theorem rNewPlan_ok : ∀ (i1 i2 i3 i4 : List (List PV)) (y : List (List PV) × List (List PV) × List (List PV) × List (List PV) × List (List PV) × List (List PV) × Int), sNewPlan i1 i2 i3 i4 = some y → ∀ (R : Type) (k : List (List PV) → List (List PV) → List (List PV) → List (List PV) → List (List PV) → List (List PV) → Int → Option R), rNewPlan_b i1 i2 i3 i4 k = k y.1 y.2.1 y.2.2.1 y.2.2.2.1 y.2.2.2.2.1 y.2.2.2.2.2.1 y.2.2.2.2.2.2 := by
  intro i1 i2 i3 i4 y h R k
  simp only [sNewPlan, Option.bind_eq_some_iff] at h
  obtain ⟨i, h1, h2⟩ := h
  split at h2
  case isFalse => cases h2
  rename_i hs
  cases h2
  have hc : sCheckInst i1 i2 i3 i4 = some (checkI i) := by
    unfold sCheckInst
    rw [h1, Option.bind_some, if_pos hs]
  obtain ⟨rfl, rfl, rfl, rfl, -, -, -, -⟩ := unInst_inv h1
  unfold rNewPlan_b newPlan
  rw [hc, Option.bind_some]
  cases ck : checkI i with
  | false => rfl
  | true =>
    obtain ⟨c1, c2⟩ := checkI_small ck
    have w1 : IntKind.i64.wrap ((i.stops.length : Int) + 1) = ((i.stops.length + 1 : Nat) : Int) := (wrapN (by omega) (by omega)).trans (by omega)
    have f1 : sFilled ((i.stops.length + 1 : Nat) : Int) (-1) = some (iRow (List.replicate (i.stops.length + 1) (-1))) := sFilled_of (by omega) (by decide)
    have f2 : sFilled (i.cars.length : Int) (-1) = some (iRow (List.replicate i.cars.length (-1))) := sFilled_of (by omega) (by decide)
    have f3 : sFilled (i.cars.length : Int) 0 = some (iRow (List.replicate i.cars.length 0)) := sFilled_of (by omega) (by decide)
    have f4 : sFilled ((i.stops.length + 1 : Nat) : Int) 0 = some (iRow (List.replicate (i.stops.length + 1) 0)) := sFilled_of (by omega) (by decide)
    have hmk : (i.cars.length : Int) = (i.cars.length : Int) ∧ 0 ≤ (i.cars.length : Int) ∧ (i.cars.length : Int) * 24 ≤ maxBytes ∧ 1 = 1 := ⟨rfl, by omega, by unfold maxBytes; omega, rfl⟩
    have hr : List.replicate (Int.toNat (i.cars.length : Int)) [PV.fs []] = trRow (List.replicate i.cars.length []) := by rw [Int.toNat_natCast, trRow, List.map_replicate]; rfl
    have q : ∀ k1, rNewPlan_q5 (R := R) (i.cars.length : Int) ((i.stops.length + 1 : Nat) : Int) 0 k1 = k1 0 (trRow (List.replicate i.cars.length [])) (iRow (List.replicate (i.stops.length + 1) (-1))) (iRow (List.replicate i.cars.length (-1))) (iRow (List.replicate i.cars.length 0)) (iRow (List.replicate (i.stops.length + 1) 0)) (iRow (List.replicate i.cars.length 0)) := by
      intro k1
      unfold rNewPlan_q5
      simp only [f1, f2, f3, f4, Option.bind_some, hr, hmk.2.1, hmk.2.2.1, and_self, if_true, meet_self]
    rw [Bool.not_true, cond_false, carRow_length, stpRow_length, w1, q, meet_self]
    rfl

/-! Mates. -/
theorem mate_rounds {R : Type} {pairs : List (Int × Int)} (hl : pairs.length ≤ big) (s : Int) (k0 : Int → Option R) (k1 : Unit → Option R) (hk : k1 () = k0 0) : ∀ (rest pre : List (Int × Int)) (n : Nat), pairs = pre ++ rest → rest.length < n →
    rMate_l2 n s (prRow pairs) (pairs.length : Int) (pre.length : Int) k0 k1 = k0 (mateOf rest s)
  | [], pre, n, hw, hn => by
    obtain ⟨m, rfl⟩ : ∃ m, n = m + 1 := ⟨n - 1, by omega⟩
    simp only [List.append_nil] at hw
    subst hw
    unfold rMate_l2
    rw [decide_eq_false (by omega), cond_false, hk]
    rfl
  | x :: rest, pre, n, hw, hn => by
    obtain ⟨m, rfl⟩ : ∃ m, n = m + 1 := ⟨n - 1, by omega⟩
    have hlen : pairs.length = pre.length + (rest.length + 1) := by rw [hw]; simp
    have ih := mate_rounds hl s k0 k1 hk rest (pre ++ [x]) m (by rw [hw]; simp) (by simp at hn; omega)
    unfold big at hl
    have hidx : idx (prRow pairs) (pre.length : Int) = some [.int .i64 x.1, .int .i64 x.2] := by rw [hw]; exact idx_pr pre x rest
    have hl2 : ([.int .i64 x.1, .int .i64 x.2] : List PV).length = 2 := rfl
    have hsub : subAgg [.int .i64 x.1, .int .i64 x.2] 0 2 = some (.agg [.int .i64 x.1, .int .i64 x.2]) := rfl
    have hagg : PV.isAgg (.agg [.int .i64 x.1, .int .i64 x.2]) 2 = true := rfl
    have c0 : (PV.cells (.agg [.int .i64 x.1, .int .i64 x.2]))[0]? = some (.int .i64 x.1) := rfl
    have c1 : (PV.cells (.agg [.int .i64 x.1, .int .i64 x.2]))[1]? = some (.int .i64 x.2) := rfl
    have hk1 : IntKind.i64.wrap ((pre.length : Int) + 1) = ((pre ++ [x]).length : Int) := (wrapN (by omega) (by omega)).trans (by simp)
    unfold rMate_l2 mateOf
    rw [decide_eq_true (by omega), cond_true, hidx]
    simp only [Option.bind_some, hl2, if_true, hsub, hagg, c0, c1, asI_int, hk1, ih]
    by_cases h1 : x.1 = s
    · rw [if_pos h1, h1, beq_self_eq_true, cond_true]
    · rw [if_neg h1, show (x.1 == s) = false by simpa using h1, cond_false]
      by_cases h2 : x.2 = s
      · rw [if_pos h2, h2, beq_self_eq_true, cond_true]
      · rw [if_neg h2, show (x.2 == s) = false by simpa using h2, cond_false]
theorem rMate_ok : ∀ (i1 i2 i3 i4 : List (List PV)) (s : Int) (y : Int), sMate i1 i2 i3 i4 s = some y → ∃ n, ∀ (R : Type) (k : Int → Option R), rMate_b n i1 i2 i3 i4 s k = k y := by
  intro i1 i2 i3 i4 s y h
  simp only [sMate, Option.bind_eq_some_iff] at h
  obtain ⟨i, h1, h2⟩ := h
  split at h2
  case isFalse => cases h2
  rename_i hs
  cases h2
  obtain ⟨rfl, rfl, rfl, rfl, -, -, -, -⟩ := unInst_inv h1
  simp only [smallI, Bool.and_eq_true, decide_eq_true_eq] at hs
  refine ⟨i.pairs.length + 1, fun R k => ?_⟩
  unfold rMate_b
  rw [prRow_length]
  exact mate_rounds hs.2.2.1 s k (fun _ => k 0) rfl i.pairs [] (i.pairs.length + 1) rfl (by omega)
theorem first_rounds {R : Type} {pairs : List (Int × Int)} (hl : pairs.length ≤ big) (s : Int) (k0 : Bool → Option R) (k1 : Unit → Option R) (hk : k1 () = k0 false) : ∀ (rest pre : List (Int × Int)) (n : Nat), pairs = pre ++ rest → rest.length < n →
    rFirst_l2 n s (prRow pairs) (pairs.length : Int) (pre.length : Int) k0 k1 = k0 (firstOf rest s)
  | [], pre, n, hw, hn => by
    obtain ⟨m, rfl⟩ : ∃ m, n = m + 1 := ⟨n - 1, by omega⟩
    simp only [List.append_nil] at hw
    subst hw
    unfold rFirst_l2
    rw [decide_eq_false (by omega), cond_false, hk]
    rfl
  | x :: rest, pre, n, hw, hn => by
    obtain ⟨m, rfl⟩ : ∃ m, n = m + 1 := ⟨n - 1, by omega⟩
    have hlen : pairs.length = pre.length + (rest.length + 1) := by rw [hw]; simp
    have ih := first_rounds hl s k0 k1 hk rest (pre ++ [x]) m (by rw [hw]; simp) (by simp at hn; omega)
    unfold big at hl
    have hidx : idx (prRow pairs) (pre.length : Int) = some [.int .i64 x.1, .int .i64 x.2] := by rw [hw]; exact idx_pr pre x rest
    have hl2 : ([.int .i64 x.1, .int .i64 x.2] : List PV).length = 2 := rfl
    have hsub : subAgg [.int .i64 x.1, .int .i64 x.2] 0 2 = some (.agg [.int .i64 x.1, .int .i64 x.2]) := rfl
    have hagg : PV.isAgg (.agg [.int .i64 x.1, .int .i64 x.2]) 2 = true := rfl
    have c0 : (PV.cells (.agg [.int .i64 x.1, .int .i64 x.2]))[0]? = some (.int .i64 x.1) := rfl
    have hk1 : IntKind.i64.wrap ((pre.length : Int) + 1) = ((pre ++ [x]).length : Int) := (wrapN (by omega) (by omega)).trans (by simp)
    unfold rFirst_l2 firstOf
    rw [decide_eq_true (by omega), cond_true, hidx]
    simp only [Option.bind_some, hl2, if_true, hsub, hagg, c0, asI_int, hk1, ih, List.any_cons]
    by_cases h1 : x.1 = s
    · rw [h1, beq_self_eq_true, cond_true, Bool.true_or]
    · rw [show (x.1 == s) = false by simpa using h1, cond_false, Bool.false_or]
      rfl
theorem rFirst_ok : ∀ (i1 i2 i3 i4 : List (List PV)) (s : Int) (y : Bool), sFirst i1 i2 i3 i4 s = some y → ∃ n, ∀ (R : Type) (k : Bool → Option R), rFirst_b n i1 i2 i3 i4 s k = k y := by
  intro i1 i2 i3 i4 s y h
  simp only [sFirst, Option.bind_eq_some_iff] at h
  obtain ⟨i, h1, h2⟩ := h
  split at h2
  case isFalse => cases h2
  rename_i hs
  cases h2
  obtain ⟨rfl, rfl, rfl, rfl, -, -, -, -⟩ := unInst_inv h1
  simp only [smallI, Bool.and_eq_true, decide_eq_true_eq] at hs
  refine ⟨i.pairs.length + 1, fun R k => ?_⟩
  unfold rFirst_b
  rw [prRow_length]
  exact first_rounds hs.2.2.1 s k (fun _ => k false) rfl i.pairs [] (i.pairs.length + 1) rfl (by omega)
end Go.Proofs.YtkeklbicmfhemaaDoorV
