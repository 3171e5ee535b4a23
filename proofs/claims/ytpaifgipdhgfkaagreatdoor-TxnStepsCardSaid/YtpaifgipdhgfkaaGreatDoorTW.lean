/- TxnSteps comes to true, of whatever numbers. -/
import Derived.Test.YtpaifgipdhgfkaaGreatDoorTX5
import Derived.Test.YtpaifgipdhgfkaaGreatDoorTQ
import Derived.Test.YtpaifgipdhgfkaaGreatDoorInt
namespace Go.Proofs.YtpaifgipdhgfkaaGreatDoorV
open Go
set_option maxRecDepth 1000000
theorem aWithin_val (n : Int) {m : Int} (hm : 0 < m) (hm' : m < 9223372036854775808) : aDraymankeepWithin_d n m = some (n % m) := by
  unfold aDraymankeepWithin_d aDraymankeepWithin_b
  have h1 : ¬ (m < 1) := by omega
  rw [decide_eq_false h1, cond_false]
  have h0 : ¬ (m = 0) := by omega
  simp only [h0, if_false]
  have e := Int.tmod_add_mul_tdiv n m
  have hs := Int.tmod_lt_of_pos n hm
  have hs' := Int.lt_tmod_of_pos n hm
  by_cases hneg : Int.tmod n m < 0
  · rw [decide_eq_true hneg, cond_true]
    rw [wrap_i64 (by omega) (by omega)]
    congr 1
    have : n = Int.tmod n m + m + m * (Int.tdiv n m - 1) := by rw [Int.mul_sub, Int.mul_one]; omega
    calc Int.tmod n m + m = (Int.tmod n m + m) % m := (Int.emod_eq_of_lt (by omega) (by omega)).symm
      _ = n % m := by conv => rhs; rw [this, Int.add_mul_emod_self_left]
  · rw [decide_eq_false hneg, cond_false]
    congr 1
    calc Int.tmod n m = Int.tmod n m % m := (Int.emod_eq_of_lt (by omega) (by omega)).symm
      _ = n % m := by conv => rhs; rw [← e, Int.add_mul_emod_self_left]
theorem wakes18 : aW18Wakes_t = some true := by kernel_rfl
theorem steps_q (want op a b c d bu e f : Int) (h : aTxnSteps_d op a b c d bu e f = some want) : aW18TxnSteps_tq9 want op a b c d bu e f = some true := by
  unfold aW18TxnSteps_tq9
  rw [h, Option.bind_some, wakes18, beq_self_eq_true]
  rfl
theorem steps_true (b op : Int) : aW18TxnSteps_t b op = some true := by
  unfold aW18TxnSteps_t
  rw [aWithin_val b (by omega) (by omega), Option.bind_some, aWithin_val op (by omega) (by omega), Option.bind_some]
  have h1 := Int.emod_nonneg b (b := 20) (by omega)
  have h2 := Int.emod_lt_of_pos b (b := 20) (by omega)
  have h3 := Int.emod_nonneg op (b := 13) (by omega)
  have h4 := Int.emod_lt_of_pos op (b := 13) (by omega)
  generalize b % 20 = x at h1 h2
  generalize op % 13 = y at h3 h4
  rw [wrap_i64 (a := 1 + y) (by omega) (by omega), wrap_i64 (a := 1 + x) (by omega) (by omega), wrap_i64 (a := 1 + x + 2) (by omega) (by omega)]
  by_cases h : 1 + y = 8
  · rw [h]
    rw [steps_q]
    · rfl
    · unfold aTxnSteps_d aTxnSteps_b
      rw [wrap_i64 (a := 1 + x + 2) (by omega) (by omega)]
      rfl
  · have hb : ((1 + y) == (8 : Int)) = false := by simpa using h
    rw [hb, cond_false, steps_q]
    · rfl
    · unfold aTxnSteps_d aTxnSteps_b
      rw [hb]
      rfl
end Go.Proofs.YtpaifgipdhgfkaaGreatDoorV
