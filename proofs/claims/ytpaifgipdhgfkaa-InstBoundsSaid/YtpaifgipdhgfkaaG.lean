/- Small tools for the laws: numbers of 64 bits, places of rows, texts held against one another. -/
import Derived.Test.YtpaifgipdhgfkaaSL
import Derived.Test.YtpaifgipdhgfkaaD00
namespace Go.Proofs.YtpaifgipdhgfkaaV
open Go

theorem inI_iff (n : Int) : inI n = true ↔ (-9223372036854775808 ≤ n ∧ n < 9223372036854775808) := by simp [inI]
theorem inI_wrap {n : Int} (h : inI n = true) : IntKind.i64.wrap n = n := by
  have := (inI_iff n).1 h
  exact wrap_i64 this.1 this.2
theorem wrapN {n : Int} (h1 : -9223372036854775808 ≤ n) (h2 : n < 9223372036854775808) : IntKind.i64.wrap n = n := wrap_i64 h1 h2
theorem within_val (n : Int) {m : Int} (hm : 0 < m) (hm' : m < 9223372036854775808) : within_d n m = some (n % m) := by
  unfold within_d within_b
  have h1 : ¬ (m < 1) := by omega
  rw [decide_eq_false h1, cond_false]
  have h0 : ¬ (m = 0) := by omega
  simp only [h0, if_false]
  have e := Int.tmod_add_mul_tdiv n m
  have hs := Int.tmod_lt_of_pos n hm
  have hs' := Int.lt_tmod_of_pos n hm
  by_cases hneg : Int.tmod n m < 0
  · rw [decide_eq_true hneg, cond_true]
    rw [wrap_i64 (by omega) (by omega)]
    congr 1
    have : n = Int.tmod n m + m + m * (Int.tdiv n m - 1) := by rw [Int.mul_sub, Int.mul_one]; omega
    calc Int.tmod n m + m = (Int.tmod n m + m) % m := (Int.emod_eq_of_lt (by omega) (by omega)).symm
      _ = n % m := by conv => rhs; rw [this, Int.add_mul_emod_self_left]
  · rw [decide_eq_false hneg, cond_false]
    congr 1
    calc Int.tmod n m = Int.tmod n m % m := (Int.emod_eq_of_lt (by omega) (by omega)).symm
      _ = n % m := by conv => rhs; rw [← e, Int.add_mul_emod_self_left]
theorem within_ok (n : Int) {m : Nat} (hm : 0 < m) (hm' : m < 9223372036854775808) : ∃ k : Nat, k < m ∧ within_d n m = some (k : Int) := by
  have h1 := Int.emod_nonneg n (b := (m : Int)) (by omega)
  have h2 := Int.emod_lt_of_pos n (b := (m : Int)) (by omega)
  exact ⟨(n % m).toNat, by omega, by rw [within_val n (by omega) (by omega)]; congr 1; omega⟩
theorem idx_sRow (pre : List ByteArray) (s : ByteArray) (rest : List ByteArray) : idx (sRow (pre ++ s :: rest)) (pre.length : Int) = some [PV.str s] := by
  rw [idx_nat, sRow, List.map_append, List.map_cons, List.getElem?_append_right (by simp)]
  simp
theorem idx_iRow (pre : List Int) (v : Int) (rest : List Int) : idx (iRow (pre ++ v :: rest)) (pre.length : Int) = some [PV.int .i64 v] := by
  rw [idx_nat, iRow, List.map_append, List.map_cons, List.getElem?_append_right (by simp)]
  simp
theorem idx_bytes (pre : List UInt8) (c : UInt8) (rest : List UInt8) : idx (pre ++ c :: rest) (pre.length : Int) = some c := idx_at pre c rest
theorem u8_cast (c d : UInt8) : (((c.toNat : Int) == (d.toNat : Int)) : Bool) = (c == d) := by
  rw [Bool.eq_iff_iff, beq_iff_eq, beq_iff_eq]
  constructor
  · intro h; exact UInt8.toNat_inj.1 (by omega)
  · rintro rfl; rfl
theorem beq_list (a b : List UInt8) : (a == b) = decide (a = b) := by rw [Bool.eq_iff_iff]; simp
theorem noMem_sRow : ∀ l : List ByteArray, noMemEs (sRow l) = true
  | [] => rfl
  | b :: l => by simp [sRow, noMemEs, noMemL, noMem] at noMem_sRow ⊢; exact noMem_sRow l
theorem take_toNat (l : List UInt8) : l.take (Int.toNat (l.length : Int)) = l := by simp
theorem lim_eq : lim = 4294967280 := rfl
theorem mega_eq : (1048576 : Nat) = 1048576 := rfl
end Go.Proofs.YtpaifgipdhgfkaaV
