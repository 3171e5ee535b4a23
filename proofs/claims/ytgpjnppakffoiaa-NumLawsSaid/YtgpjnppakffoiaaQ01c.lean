/- Sums, products, picks: the laws of all of them. -/
import Derived.Test.YtgpjnppakffoiaaQ01b
import Derived.Test.YtgpjnppakffoiaaD01c
namespace Go.Proofs.YtgpjnppakffoiaaV
open Go

/-! NumTells. -/
theorem sum_may {a b : Int} (ha : inI a = true) (hb : inI b = true) : ((decide (b ≥ 0)) == (decide (IntKind.i64.wrap (a + b) ≥ a))) = inI (a + b) := by
  have h1 := (inI_iff a).1 ha
  have h2 := (inI_iff b).1 hb
  rw [wrap_i64_eq, Bool.eq_iff_iff, inI_iff, beq_iff_eq, decide_eq_decide]
  split <;> omega
theorem prod_may {a b : Int} (ha : inI a = true) (hb : inI b = true) (h0 : b ≠ 0) :
    inI (a * b) = ((IntKind.i64.wrap (Int.tdiv (IntKind.i64.wrap (a * b)) b) == a) && !(a == -1 && b == -9223372036854775808) && !(b == -1 && a == -9223372036854775808)) := by
  have h1 := (inI_iff a).1 ha
  have h2 := (inI_iff b).1 hb
  cases hp : inI (a * b) with
  | true =>
    have e1 : (a == -1 && b == -9223372036854775808) = false := by
      cases h : (a == -1 && b == -9223372036854775808) with
      | false => rfl
      | true =>
        simp only [Bool.and_eq_true, beq_iff_eq] at h
        rw [h.1, h.2] at hp
        cases hp
    have e2 : (b == -1 && a == -9223372036854775808) = false := by
      cases h : (b == -1 && a == -9223372036854775808) with
      | false => rfl
      | true =>
        simp only [Bool.and_eq_true, beq_iff_eq] at h
        rw [h.1, h.2] at hp
        cases hp
    rw [e1, e2, inI_wrap hp, Int.mul_tdiv_cancel _ h0, inI_wrap ha]
    simp
  | false =>
    symm
    rw [Bool.eq_false_iff]
    intro h
    simp only [Bool.and_eq_true, beq_iff_eq, Bool.not_eq_true', Bool.and_eq_false_iff, beq_eq_false_iff_ne] at h
    obtain ⟨⟨h3, h4⟩, h5⟩ := h
    have hn : ¬ (-9223372036854775808 ≤ a * b ∧ a * b < 9223372036854775808) := by
      rw [← inI_iff, hp]; simp
    -- q is what is left of the product
    have hq := wrap_i64_range (a * b)
    have hqe : ∃ m : Int, a * b = IntKind.i64.wrap (a * b) + 18446744073709551616 * m ∧ m ≠ 0 := by
      refine ⟨(a * b - IntKind.i64.wrap (a * b)) / 18446744073709551616, ?_, ?_⟩
      · rw [wrap_i64_eq]; split <;> omega
      · rw [wrap_i64_eq] at hq ⊢; split at hq <;> split <;> omega
    generalize hQ : IntKind.i64.wrap (a * b) = q at *
    obtain ⟨m, hm, hm0⟩ := hqe
    have ht := Int.tmod_add_mul_tdiv q b
    have hd : (Int.tdiv q b).natAbs = q.natAbs / b.natAbs := Int.natAbs_tdiv q b
    have hr : (Int.tmod q b).natAbs = q.natAbs % b.natAbs := Int.natAbs_tmod q b
    have hd2 : (Int.tdiv q b).natAbs ≤ q.natAbs := by rw [hd]; exact Nat.div_le_self _ _
    have hr2 : (Int.tmod q b).natAbs < b.natAbs := by rw [hr]; exact Nat.mod_lt _ (by omega)
    generalize Int.tdiv q b = t at *
    generalize Int.tmod q b = r at *
    by_cases hin : t < 9223372036854775808
    · rw [wrap_i64 (by omega) hin] at h3
      rw [h3, Int.mul_comm b a] at ht
      omega
    · have ht9 : t = 9223372036854775808 := by omega
      subst ht9
      have hb1 : b = -1 := by omega
      have ha1 : a = -9223372036854775808 := by rw [← h3]; rfl
      rcases h5 with h5 | h5
      · exact h5 hb1
      · exact h5 ha1
theorem numTells_ok : ∀ (a b x n : Int) (y : Bool), sNumTells a b x n = some y → ∀ (R : Type) (k : Bool → Option R), numTells_b a b x n k = k y := by
  intro a b x n y h R k
  unfold sNumTells at h
  split at h
  case isFalse => cases h
  rename_i hh
  cases h
  obtain ⟨ha, hb, hx, hn⟩ := hh
  have j1 : numTells_q12 x n k = k true := by
    unfold numTells_q12
    simp only [sPick_in hx hn, beq_self_eq_true, cond_true, Option.bind_some, wakes01_ok]
  have j3 : ∀ may, inI (a * b) = may → numTells_q10 x n (mulV a b).2 may (mulV a b).1 (IntKind.i64.wrap (a * b)) k = k true := by
    intro may hmay
    subst hmay
    unfold numTells_q10
    cases hp : inI (a * b) with
    | true => simp [mulV_t hp, inI_wrap hp, j1]
    | false => simp [mulV_f hp, j1]
  have j7 : numTells_q7 a b x n k = k true := by
    unfold numTells_q7
    rw [sMul_in ha hb, Option.bind_some]
    cases ha0 : (a == 0) with
    | true =>
      have : a = 0 := by simpa using ha0
      rw [cond_true]
      exact j3 _ (by rw [this]; simp [inI])
    | false =>
      rw [cond_false]
      cases hb0 : (b == 0) with
      | true =>
        have : b = 0 := by simpa using hb0
        rw [cond_true]
        exact j3 _ (by rw [this]; simp [inI])
      | false =>
        have hne : b ≠ 0 := by simpa using hb0
        have hm := prod_may ha hb hne
        rw [cond_false, if_neg hne]
        cases hq : (IntKind.i64.wrap (Int.tdiv (IntKind.i64.wrap (a * b)) b) == a) with
        | false => rw [cond_false]; exact j3 _ (by rw [hm, hq]; rfl)
        | true =>
          rw [cond_true]
          rw [hq] at hm
          cases ha1 : (a == -1) with
          | false =>
            rw [cond_false]
            cases hb1 : (b == -1) with
            | false => rw [cond_false]; exact j3 _ (by rw [hm, ha1, hb1]; rfl)
            | true => rw [cond_true]; exact j3 _ (by rw [hm, ha1, hb1]; simp)
          | true =>
            rw [cond_true]
            rw [ha1] at hm
            cases hbm : (b == -9223372036854775808) with
            | true => exact j3 _ (by rw [hm, hbm]; rfl)
            | false =>
              cases hb1 : (b == -1) with
              | false => exact j3 _ (by rw [hm, hbm, hb1]; rfl)
              | true => exact j3 _ (by rw [hm, hbm, hb1]; simp)
  unfold numTells_b
  rw [sAdd_in ha hb, Option.bind_some, sum_may ha hb]
  cases hp : inI (a + b) with
  | true => simp [addV_t hp, inI_wrap hp, j7]
  | false => simp [addV_f hp, j7]

/-! NumLaws. -/
theorem addV_comm (a b : Int) : addV a b = addV b a := by unfold addV; rw [Int.add_comm]
theorem mulV_comm (a b : Int) : mulV a b = mulV b a := by unfold mulV; rw [Int.mul_comm]
theorem drawOf_ne {x : Int} (h : inU x = true) : drawOf x ≠ 0 := by
  simp only [inU, decide_eq_true_eq] at h
  obtain ⟨m, rfl⟩ := Int.eq_ofNat_of_zero_le h.1
  have hm : m < 2 ^ 32 := by omega
  rw [drawOf_dr hm]
  have := dr_ne hm
  omega
theorem drawOf_inj {x y : Int} (hx : inU x = true) (hy : inU y = true) (h1 : x ≠ 0) (h2 : y ≠ 0) : (drawOf x == drawOf y) = (x == y) := by
  simp only [inU, decide_eq_true_eq] at hx hy
  obtain ⟨m, rfl⟩ := Int.eq_ofNat_of_zero_le hx.1
  obtain ⟨n, rfl⟩ := Int.eq_ofNat_of_zero_le hy.1
  have hm : m < 2 ^ 32 := by omega
  have hn : n < 2 ^ 32 := by omega
  rw [drawOf_nat hm (by omega), drawOf_nat hn (by omega), Bool.eq_iff_iff, beq_iff_eq, beq_iff_eq]
  constructor
  · intro h
    have := xs_inj hm hn (by omega)
    omega
  · intro h
    have : m = n := by omega
    rw [this]
theorem numLaws_ok : ∀ (a b x y n : Int) (z : Bool), sNumLaws a b x y n = some z → ∀ (R : Type) (k : Bool → Option R), numLaws_b a b x y n k = k z := by
  intro a b x y n z h R k
  unfold sNumLaws at h
  split at h
  case isFalse => cases h
  rename_i hh
  cases h
  obtain ⟨ha, hb, hx, hy, hn⟩ := hh
  have hai := (inI_iff a).1 ha
  have hbi := (inI_iff b).1 hb
  have hd : (drawOf x != 0) = true := by simpa using drawOf_ne hx
  have last : ∀ (z : Option R), (cond (decide (n < 1)) (cond (pickV x n == 0) z (cond (decide (n ≥ 1)) (cond (decide (pickV x n ≥ 0)) (cond (decide (pickV x n < n)) z (k false)) (k false)) (k false))) (cond (decide (n ≥ 1)) (cond (decide (pickV x n ≥ 0)) (cond (decide (pickV x n < n)) z (k false)) (k false)) (k false))) = z := by
    intro z
    by_cases h : n < 1
    · rw [decide_eq_true h]
      unfold pickV
      rw [if_pos h]
      rfl
    · unfold pickV
      have h1 := Int.emod_nonneg x (show n ≠ 0 by omega)
      have h2 := Int.emod_lt_of_pos x (show 0 < n by omega)
      rw [decide_eq_false h, if_neg h, cond_false, decide_eq_true (show n ≥ 1 by omega), cond_true, decide_eq_true h1, cond_true, decide_eq_true h2, cond_true]
  have j3 : numLaws_q12 a x y n k = k true := by
    unfold numLaws_q12
    rw [sAdd_in ha rfl, sMul_in ha rfl, sPick_in hx hn, addV_t (by rw [Int.add_zero]; exact ha), mulV_t (by rw [Int.mul_one]; exact ha)]
    simp only [Option.bind_some, Int.add_zero, Int.mul_one, beq_self_eq_true, cond_true, wakes01_ok, hd, last]
    cases h1 : (x == 0) with
    | true => rfl
    | false =>
      cases h2 : (y == 0) with
      | true => rfl
      | false =>
        rw [drawOf_inj hx hy (by simpa using h1) (by simpa using h2)]
        simp
  unfold numLaws_b
  rw [sAdd_in ha hb, sAdd_in hb ha, sMul_in ha hb, sMul_in hb ha, addV_comm b a, mulV_comm b a]
  simp only [Option.bind_some, bne_self_eq_false, cond_false, j3]
  unfold numLaws_q9
  cases hp : inI (a + b) with
  | false => simp [addV_f hp, j3]
  | true =>
    cases hm : (b != -9223372036854775808) with
    | false => simp [addV_t hp, j3]
    | true =>
      have hne : b ≠ -9223372036854775808 := by simpa using hm
      have hpi := (inI_iff (a + b)).1 hp
      rw [addV_t hp, wrap_i64 (by omega) (by omega), sAdd_in hp (by rw [inI_iff]; omega), addV_t (by rw [inI_iff]; omega)]
      have e : a + b + (0 - b) = a := by omega
      rw [e]
      simp [j3]
end Go.Proofs.YtgpjnppakffoiaaV
