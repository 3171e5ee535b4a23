/- Sums, products, picks: what their functions come to. -/
import Derived.Test.YtgpjnppakffoiaaQ01
import Derived.Test.YtgpjnppakffoiaaD01b
import Derived.Lib.Mul64
namespace Go.Proofs.YtgpjnppakffoiaaV
open Go

theorem inI_iff (n : Int) : inI n = true ↔ (-9223372036854775808 ≤ n ∧ n < 9223372036854775808) := by simp [inI]
theorem inI_wrap {n : Int} (h : inI n = true) : IntKind.i64.wrap n = n := by
  have := (inI_iff n).1 h
  exact wrap_i64 this.1 this.2

theorem nAdd_ok : ∀ (a b : Int) (y : Int × Bool), sAdd a b = some y → ∀ (R : Type) (k : Int → Bool → Option R), nAdd_b a b k = k y.1 y.2 := by
  intro a b y h R k
  unfold sAdd at h
  split at h
  case isFalse => cases h
  rename_i hh
  cases h
  have ha := (inI_iff a).1 hh.1
  have hb := (inI_iff b).1 hh.2
  unfold nAdd_b addV
  by_cases h1 : b > 0
  · rw [show decide (b > 0) = true by simpa using h1, cond_true, wrap_i64 (a := 9223372036854775807 - b) (by omega) (by omega)]
    by_cases h2 : a > 9223372036854775807 - b
    · rw [show decide (a > 9223372036854775807 - b) = true by simpa using h2, cond_true, if_neg (by rw [inI_iff]; omega)]
    · rw [show decide (a > 9223372036854775807 - b) = false by simpa using h2, cond_false, show decide (b < 0) = false by simp; omega, cond_false, if_pos (by rw [inI_iff]; omega), wrap_i64 (by omega) (by omega)]
  · rw [show decide (b > 0) = false by simpa using h1, cond_false]
    by_cases h3 : b < 0
    · rw [show decide (b < 0) = true by simpa using h3, cond_true, wrap_i64 (a := -9223372036854775808 - b) (by omega) (by omega)]
      by_cases h2 : a < -9223372036854775808 - b
      · rw [show decide (a < -9223372036854775808 - b) = true by simpa using h2, cond_true, if_neg (by rw [inI_iff]; omega)]
      · rw [show decide (a < -9223372036854775808 - b) = false by simpa using h2, cond_false, if_pos (by rw [inI_iff]; omega), wrap_i64 (by omega) (by omega)]
    · rw [show decide (b < 0) = false by simpa using h3, cond_false, if_pos (by rw [inI_iff]; omega), wrap_i64 (by omega) (by omega)]

theorem nPick_gen {x n : Int} (hx : inU x = true) (hn : inI n = true) {R : Type} (k : Int → Option R) :
    (cond (decide (n < (1 : Int))) (k 0) (if (IntKind.u64.wrap n) = 0 then none else k (IntKind.i64.wrap (Int.tmod (IntKind.u64.wrap x) (IntKind.u64.wrap n))))) = k (pickV x n) := by
  have h1 := (inI_iff n).1 hn
  simp only [inU, decide_eq_true_eq] at hx
  unfold pickV
  by_cases h : n < 1
  · rw [decide_eq_true h, cond_true, if_pos h]
  · rw [decide_eq_false h, cond_false, if_neg h, wrap_u64, wrap_u64, Int.emod_eq_of_lt (a := n) (by omega) (by omega), Int.emod_eq_of_lt (a := x) (by omega) (by omega), if_neg (by omega), Int.tmod_eq_emod_of_nonneg (by omega)]
    have h2 := Int.emod_nonneg x (show n ≠ 0 by omega)
    have h3 := Int.emod_lt_of_pos x (show 0 < n by omega)
    rw [wrap_i64 (by omega) (by omega)]
theorem nPick_ok : ∀ (x n y : Int), sPick x n = some y → ∀ (R : Type) (k : Int → Option R), nPick_b x n k = k y := by
  intro x n y h R k
  unfold sPick at h
  split at h
  case isFalse => cases h
  rename_i hh
  cases h
  exact nPick_gen hh.1 hh.2 k
theorem rPick_ok : ∀ (x n y : Int), sPick x n = some y → ∀ (R : Type) (k : Int → Option R), rPick_b x n k = k y := nPick_ok
theorem rDraw_ok : ∀ (x1 : Int) (R : Type) (k : Int → Option R), rDraw_b x1 k = k (drawOf x1) := draw_ok

theorem and_low (z : Nat) : IntKind.u64.wrap (((BitVec.ofInt IntKind.u64.bits (z : Int)) &&& (BitVec.ofInt IntKind.u64.bits (4294967295 : Int))).toNat : Nat) = ((z % 18446744073709551616 % 4294967296 : Nat) : Int) := by
  show IntKind.u64.wrap (((BitVec.ofInt 64 (z : Int)) &&& (BitVec.ofInt 64 (4294967295 : Int))).toNat : Nat) = _
  have e : BitVec.ofInt 64 (4294967295 : Int) = BitVec.ofNat 64 4294967295 := by decide
  rw [BitVec.ofInt_natCast, e, BitVec.toNat_and, BitVec.toNat_ofNat, BitVec.toNat_ofNat, wrap_u64]
  have h : z % 2 ^ 64 &&& 4294967295 % 2 ^ 64 = z % 18446744073709551616 % 4294967296 := by
    have := Nat.and_two_pow_sub_one_eq_mod (z % 2 ^ 64) 32
    simpa using this
  rw [h]
  omega

theorem mul64_ok : ∀ (x y : Int) (z : Int × Int), sMul64 x y = some z → ∀ (R : Type) (k : Int → Int → Option R), mul64_b x y k = k z.1 z.2 := by
  intro x y z h R k
  unfold sMul64 at h
  split at h
  case isFalse => cases h
  rename_i hh
  cases h
  obtain ⟨⟨hx0, hx1⟩, hy0, hy1⟩ := hh
  obtain ⟨x, rfl⟩ := Int.eq_ofNat_of_zero_le hx0
  obtain ⟨y, rfl⟩ := Int.eq_ofNat_of_zero_le hy0
  have hx : x < 18446744073709551616 := by omega
  have hy : y < 18446744073709551616 := by omega
  obtain ⟨h1, h2, h3, h4⟩ := Go.Lib.mul64_hi x y hx hy
  have ha := Go.Lib.half_mul_le (a := x / 4294967296) (b := y / 4294967296) (by omega) (by omega)
  have hb := Go.Lib.half_mul_le (a := x / 4294967296) (b := y % 4294967296) (by omega) (by omega)
  have hc := Go.Lib.half_mul_le (a := x % 4294967296) (b := y / 4294967296) (by omega) (by omega)
  have hd := Go.Lib.half_mul_le (a := x % 4294967296) (b := y % 4294967296) (by omega) (by omega)
  have fd : ∀ n : Nat, Int.fdiv (n : Int) (2 ^ 32) = ((n / 4294967296 : Nat) : Int) := fun n => by
    rw [Int.fdiv_eq_ediv_of_nonneg _ (by decide)]
    omega
  have w : ∀ n : Nat, n < 18446744073709551616 → IntKind.u64.wrap (n : Int) = (n : Int) := fun n h => by rw [wrap_u64]; omega
  have hlt : x * y / 18446744073709551616 < 18446744073709551616 := by
    have := Nat.mul_lt_mul'' hx hy
    omega
  rw [← h4] at hlt
  have e3 : IntKind.u64.wrap ((x : Int) * (y : Int)) = (x : Int) * (y : Int) % 18446744073709551616 := wrap_u64 _
  have e4 : (x : Int) * (y : Int) / 18446744073709551616 = ((x * y / 18446744073709551616 : Nat) : Int) := by rw [← Int.natCast_mul]; omega
  show mul64_b (x : Int) (y : Int) k = k ((x : Int) * (y : Int) / 18446744073709551616) ((x : Int) * (y : Int) % 18446744073709551616)
  unfold mul64_b
  rw [e3, e4, ← h4]
  simp only [fd, and_low, Nat.mod_eq_of_lt hx, Nat.mod_eq_of_lt hy, ← Int.natCast_mul]
  generalize (x / 4294967296) * (y / 4294967296) = a at *
  generalize (x / 4294967296) * (y % 4294967296) = b at *
  generalize (x % 4294967296) * (y / 4294967296) = c at *
  generalize (x % 4294967296) * (y % 4294967296) = d at *
  rw [w d (by omega), w b (by omega), w a (by omega), w c (by omega)]
  simp only [fd, ← Int.natCast_add]
  rw [w (b + d / 4294967296) (by omega)]
  simp only [fd, and_low, ← Int.natCast_add]
  rw [Nat.mod_eq_of_lt h2, w _ h3]
  simp only [fd, ← Int.natCast_add]
  rw [w (a + (b + d / 4294967296) / 4294967296) (by omega), ← Int.natCast_add, w _ hlt]

theorem nSize_val {a : Int} (h : inI a = true) : nSize_d a = some ((a.natAbs : Int), decide (a < 0)) := by
  have ha := (inI_iff a).1 h
  unfold nSize_d nSize_b
  by_cases h1 : a < 0
  · rw [decide_eq_true h1, cond_true, wrap_u64, wrap_u64]
    have : (0 - a % 18446744073709551616) % 18446744073709551616 = (a.natAbs : Int) := by omega
    rw [this]
  · rw [decide_eq_false h1, cond_false, wrap_u64]
    have : a % 18446744073709551616 = (a.natAbs : Int) := by omega
    rw [this]

theorem nMul_ok : ∀ (a b : Int) (y : Int × Bool), sMul a b = some y → ∀ (R : Type) (k : Int → Bool → Option R), nMul_b a b k = k y.1 y.2 := by
  intro a b y h R k
  unfold sMul at h
  split at h
  case isFalse => cases h
  rename_i hh
  cases h
  have ha := (inI_iff a).1 hh.1
  have hb := (inI_iff b).1 hh.2
  have hp : (a * b).natAbs = a.natAbs * b.natAbs := Int.natAbs_mul a b
  have hm : sMul64 (a.natAbs : Int) (b.natAbs : Int) = some ((((a * b).natAbs / 18446744073709551616 : Nat) : Int), (((a * b).natAbs % 18446744073709551616 : Nat) : Int)) := by
    unfold sMul64
    rw [if_pos ⟨⟨by omega, by omega⟩, by omega, by omega⟩, hp, ← Int.natCast_mul]
    generalize a.natAbs * b.natAbs = m
    simp only [Option.some.injEq, Prod.mk.injEq]
    constructor <;> omega
  have hlt : (a * b).natAbs ≤ 9223372036854775808 * 9223372036854775808 := by rw [hp]; exact Nat.mul_le_mul (by omega) (by omega)
  have hs : (decide (a < 0) != decide (b < 0)) = true ↔ (a < 0 ↔ ¬ b < 0) := by
    by_cases h1 : a < 0 <;> by_cases h2 : b < 0 <;> simp [h1, h2]
  have hneg : (decide (a < 0) != decide (b < 0)) = true → a * b ≤ 0 := by
    intro h
    have h' := hs.1 h
    by_cases h1 : a < 0
    · exact Int.mul_nonpos_of_nonpos_of_nonneg (by omega) (by have := h'.1 h1; omega)
    · exact Int.mul_nonpos_of_nonneg_of_nonpos (by omega) (by omega)
  have hpos : ¬ (decide (a < 0) != decide (b < 0)) = true → 0 ≤ a * b := by
    intro h
    by_cases h1 : a < 0
    · have h2 : b < 0 := by
        by_cases h2 : b < 0
        · exact h2
        · exact absurd (hs.2 ⟨fun _ => h2, fun _ => h1⟩) h
      exact Int.mul_nonneg_of_nonpos_of_nonpos (by omega) (by omega)
    · have h2 : ¬ b < 0 := fun h2 => h (hs.2 ⟨fun h => absurd h h1, fun h => absurd h2 h⟩)
      exact Int.mul_nonneg (by omega) (by omega)
  unfold nMul_b mulV
  rw [nSize_val hh.1, Option.bind_some, nSize_val hh.2, Option.bind_some, hm, Option.bind_some]
  dsimp only
  generalize hP : a * b = p at *
  cases hc : (decide (a < 0) != decide (b < 0)) with
  | true =>
    have h0 := hneg hc
    simp only [cond_true]
    by_cases h1 : (((p.natAbs / 18446744073709551616 : Nat) : Int) > 0)
    · rw [decide_eq_true h1, cond_true, if_neg (by rw [inI_iff]; omega)]
    · rw [decide_eq_false h1, cond_false]
      by_cases h2 : (((p.natAbs % 18446744073709551616 : Nat) : Int) > 9223372036854775808)
      · rw [decide_eq_true h2, cond_true, if_neg (by rw [inI_iff]; omega)]
      · rw [decide_eq_false h2, cond_false, if_pos (by rw [inI_iff]; omega), wrap_u64, wrap_i64_eq]
        refine congrArg (fun z => k z true) ?_
        split <;> omega
  | false =>
    have h0 := hpos (by rw [hc]; simp)
    simp only [cond_false]
    by_cases h1 : (((p.natAbs / 18446744073709551616 : Nat) : Int) > 0)
    · rw [decide_eq_true h1, cond_true, if_neg (by rw [inI_iff]; omega)]
    · rw [decide_eq_false h1, cond_false]
      by_cases h2 : (((p.natAbs % 18446744073709551616 : Nat) : Int) > 9223372036854775807)
      · rw [decide_eq_true h2, cond_true, if_neg (by rw [inI_iff]; omega)]
      · rw [decide_eq_false h2, cond_false, if_pos (by rw [inI_iff]; omega), wrap_i64 (by omega) (by omega)]
        refine congrArg (fun z => k z true) ?_
        omega

theorem sAdd_in {a b : Int} (h1 : inI a = true) (h2 : inI b = true) : sAdd a b = some (addV a b) := if_pos ⟨h1, h2⟩
theorem sMul_in {a b : Int} (h1 : inI a = true) (h2 : inI b = true) : sMul a b = some (mulV a b) := if_pos ⟨h1, h2⟩
theorem sPick_in {x n : Int} (h1 : inU x = true) (h2 : inI n = true) : sPick x n = some (pickV x n) := if_pos ⟨h1, h2⟩
theorem addV_in (a b : Int) : inI (addV a b).1 = true := by
  unfold addV
  split
  · assumption
  · rfl
theorem mulV_in (a b : Int) : inI (mulV a b).1 = true := by
  unfold mulV
  split
  · assumption
  · rfl
theorem addV_t {a b : Int} (h : inI (a + b) = true) : addV a b = (a + b, true) := if_pos h
theorem addV_f {a b : Int} (h : inI (a + b) = false) : addV a b = (0, false) := if_neg (by rw [h]; simp)
theorem mulV_t {a b : Int} (h : inI (a * b) = true) : mulV a b = (a * b, true) := if_pos h
theorem mulV_f {a b : Int} (h : inI (a * b) = false) : mulV a b = (0, false) := if_neg (by rw [h]; simp)
theorem wakes01_ok : wakes01_d = some true := by kernel_rfl

/-! NumSums. -/
theorem numSums_ok : ∀ (a b c : Int) (y : Bool), sNumSums a b c = some y → ∀ (R : Type) (k : Bool → Option R), numSums_b a b c k = k y := by
  intro a b c y h R k
  unfold sNumSums at h
  split at h
  case isFalse => cases h
  rename_i hh
  cases h
  obtain ⟨ha, hb, hc⟩ := hh
  unfold numSums_b
  simp only [sAdd_in ha hb, sAdd_in (addV_in a b) hc, sAdd_in hb hc, sAdd_in ha (addV_in b c), sMul_in ha hc, sMul_in hb hc, sAdd_in (mulV_in a c) (mulV_in b c), sMul_in (addV_in a b) hc, Option.bind_some, wakes01_ok]
  cases o1 : inI (a + b) with
  | false => simp [addV_f o1]
  | true =>
    simp only [addV_t o1]
    have prod : cond (!(mulV a c).2) (k true) (cond (!(mulV b c).2) (k true) (cond (!(addV (mulV a c).1 (mulV b c).1).2) (k true) (cond (mulV (a + b) c).2 (cond ((addV (mulV a c).1 (mulV b c).1).1 == (mulV (a + b) c).1) (k true) (k false)) (k false)))) = k true := by
      cases q1 : inI (a * c) with
      | false => simp [mulV_f q1]
      | true =>
        cases q2 : inI (b * c) with
        | false => simp [mulV_f q2]
        | true =>
          cases q3 : inI (a * c + b * c) with
          | false => simp [mulV_t q1, mulV_t q2, addV_f q3]
          | true =>
            have q4 : inI ((a + b) * c) = true := by rw [Int.add_mul]; exact q3
            simp [mulV_t q1, mulV_t q2, addV_t q3, mulV_t q4, Int.add_mul]
    cases o2 : inI (a + b + c) with
    | false =>
      simp only [addV_f o2, cond_true, cond_false, Bool.not_true]
      exact prod
    | true =>
      cases o3 : inI (b + c) with
      | false =>
        simp only [addV_t o2, addV_f o3, cond_true, cond_false, Bool.not_true]
        exact prod
      | true =>
        have o4 : inI (a + (b + c)) = true := by rw [← Int.add_assoc]; exact o2
        simp only [addV_t o2, addV_t o3, addV_t o4, cond_true, cond_false, Bool.not_true, Int.add_assoc, bne_self_eq_false]
        rw [← Int.add_assoc] at *
        exact prod

/-! NumForms. -/
theorem numForms_ok : ∀ (n : Int) (y : Bool), sNumForms n = some y → ∃ m, ∀ (R : Type) (k : Bool → Option R), numForms_b m n k = k y := by
  intro n y h
  unfold sNumForms at h
  split at h
  case isFalse => cases h
  cases h
  refine ⟨20, fun R k => ?_⟩
  have e : numForms_b 20 n k = Option.bind (within_d n 40) fun y4 => Option.bind (sPick 7 (IntKind.i64.wrap (0 - y4))) fun y7 => cond (y7 == 0) (k true) (k false) := by kernel_rfl
  have h1 := Int.emod_nonneg n (show (40 : Int) ≠ 0 by decide)
  have h2 := Int.emod_lt_of_pos n (show (0 : Int) < 40 by decide)
  rw [e, within_val _ (by decide) (by decide), Option.bind_some, wrap_i64 (by omega) (by omega), sPick_in rfl (by rw [inI_iff]; omega), Option.bind_some]
  unfold pickV
  rw [if_pos (by omega)]
  rfl

end Go.Proofs.YtgpjnppakffoiaaV
