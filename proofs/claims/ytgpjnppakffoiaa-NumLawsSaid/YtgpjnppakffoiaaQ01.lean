/- Draws: the law's rounds all go on, so it comes to true. -/
import Derived.Test.YtgpjnppakffoiaaP01
import Derived.Test.YtgpjnppakffoiaaD01
import Derived.Test.YtgpjnppakffoiaaInt
namespace Go.Proofs.YtgpjnppakffoiaaV
open Go

theorem bxor_nat {a b : Nat} (ha : a < 2 ^ 32) (hb : b < 2 ^ 32) : bxor .u32 (a : Int) (b : Int) = ((a ^^^ b : Nat) : Int) := by
  have h : a ^^^ b < 2 ^ 32 := Nat.xor_lt_two_pow ha hb
  show IntKind.u32.wrap (((BitVec.ofInt 32 (a : Int) ^^^ BitVec.ofInt 32 (b : Int)).toNat : Nat) : Int) = _
  rw [BitVec.ofInt_natCast, BitVec.ofInt_natCast, BitVec.toNat_xor, BitVec.toNat_ofNat, BitVec.toNat_ofNat, Nat.mod_eq_of_lt ha, Nat.mod_eq_of_lt hb, wrap_u32]
  generalize a ^^^ b = c at h ⊢
  omega
theorem drawOf_nat {x : Nat} (h : x < 2 ^ 32) (h0 : x ≠ 0) : drawOf (x : Int) = (xs x : Int) := by
  have e : ((x : Int) == 0) = false := by simpa using h0
  have h1 : IntKind.u32.wrap ((x : Int) * 2 ^ 13) = (((x * 2 ^ 13) % 2 ^ 32 : Nat) : Int) := by rw [wrap_u32]; omega
  have h2 : Int.fdiv ((xa x : Nat) : Int) (2 ^ 17) = ((xa x / 2 ^ 17 : Nat) : Int) := by
    rw [Int.fdiv_eq_ediv_of_nonneg _ (by decide)]; omega
  have h3 : IntKind.u32.wrap (((xb (xa x) : Nat) : Int) * 2 ^ 5) = (((xb (xa x) * 2 ^ 5) % 2 ^ 32 : Nat) : Int) := by rw [wrap_u32]; omega
  have k1 : bxor .u32 (x : Int) (((x * 2 ^ 13) % 2 ^ 32 : Nat) : Int) = ((xa x : Nat) : Int) := bxor_nat h (Nat.mod_lt _ (by decide))
  have k2 : bxor .u32 ((xa x : Nat) : Int) ((xa x / 2 ^ 17 : Nat) : Int) = ((xb (xa x) : Nat) : Int) := bxor_nat (xa_lt h) (Nat.lt_of_le_of_lt (Nat.div_le_self _ _) (xa_lt h))
  have k3 : bxor .u32 ((xb (xa x) : Nat) : Int) (((xb (xa x) * 2 ^ 5) % 2 ^ 32 : Nat) : Int) = ((xs x : Nat) : Int) := bxor_nat (xb_lt (xa_lt h)) (Nat.mod_lt _ (by decide))
  unfold drawOf
  rw [e]
  simp only [cond_false]
  rw [h1, k1, h2, k2, h3, k3]

theorem draw_ok : ∀ (x1 : Int) (R : Type) (k : Int → Option R), draw_b x1 k = k (drawOf x1) := by
  intro n R k
  unfold draw_b
  rcases Bool.eq_false_or_eq_true (n == 0) with e | e
  · simp only [e, drawOf, cond_true]
  · rw [e]; simp only [drawOf, e, cond_false]; rfl

/-- The numbers that were drawn, as the map has them. -/
def had (l : List Nat) : List (PV × PV) := l.map fun (y : Nat) => (.int .u32 (y : Int), .bool true)
theorem mget_had {t : TypeId} {a b : Nat} {z : List TV} (ht : T t = some ⟨a, b, .int .u32, z⟩) {y : Nat} : ∀ {l : List Nat}, y ∉ l → mget T t (.int .u32 (y : Int)) (had l) = some none
  | [], _ => rfl
  | x :: l, h => by
    simp only [List.mem_cons, not_or] at h
    have e : ((y : Int) == (x : Int)) = false := by
      have := h.1
      simp only [beq_eq_false_iff_ne, ne_eq]
      omega
    have ih := mget_had (t := t) ht h.2
    simp only [had, List.map_cons, mget] at ih ⊢
    unfold eqvT
    rw [ht]
    simp only [PV.asI, if_true, Option.bind_some, e]
    exact ih
theorem mset_had {t : TypeId} {a b : Nat} {z : List TV} (ht : T t = some ⟨a, b, .int .u32, z⟩) {y : Nat} : ∀ {l : List Nat}, y ∉ l → mset T t (.int .u32 (y : Int)) (.bool true) (had l) = some (had (l ++ [y]))
  | [], _ => rfl
  | x :: l, h => by
    simp only [List.mem_cons, not_or] at h
    have e : ((y : Int) == (x : Int)) = false := by
      have := h.1
      simp only [beq_eq_false_iff_ne, ne_eq]
      omega
    have ih := mset_had (t := t) ht h.2
    simp only [had, List.map_cons, List.cons_append, mset] at ih ⊢
    unfold eqvT
    rw [ht]
    simp only [PV.asI, if_true, Option.bind_some, e, Bool.false_eq_true, if_false]
    rw [ih]
    rfl

theorem within_val (n : Int) {m : Int} (hm : 0 < m) (hm' : m < 9223372036854775808) : within_d n m = some (n % m) := by
  unfold within_d within_b
  rw [show decide (m < 1) = false by simp; omega]
  simp only [cond_false]
  rw [if_neg (by omega)]
  have h1 := Int.tmod_lt_of_pos n hm
  have h2 := Int.lt_tmod_of_pos n hm
  have h3 := Int.tmod_add_mul_tdiv n m
  rcases Bool.eq_false_or_eq_true (decide (Int.tmod n m < 0)) with e | e
  · rw [e]
    simp only [cond_true]
    simp only [decide_eq_true_eq] at e
    rw [wrap_i64 (by omega) (by omega)]
    have : n = (Int.tmod n m + m) + m * (Int.tdiv n m - 1) := by rw [Int.mul_sub]; omega
    conv => rhs; rw [this]
    rw [Int.add_mul_emod_self_left, Int.emod_eq_of_lt (by omega) (by omega)]
  · rw [e]
    simp only [cond_false]
    simp only [decide_eq_false_iff_not] at e
    conv => rhs; rw [← h3]
    rw [Int.add_mul_emod_self_left, Int.emod_eq_of_lt (by omega) (by omega)]
theorem within_ok (n : Int) {m : Nat} (hm : 0 < m) (hm' : m < 9223372036854775808) : ∃ k : Nat, k < m ∧ within_d n m = some (k : Int) := by
  have h := within_val n (m := m) (by omega) (by omega)
  have h1 := Int.emod_nonneg n (show (m : Int) ≠ 0 by omega)
  have h2 := Int.emod_lt_of_pos n (show (0 : Int) < m by omega)
  exact ⟨(n % m).toNat, by omega, by rw [h, Int.toNat_of_nonneg h1]⟩

def dr (x : Nat) : Nat := if x = 0 then 2463534242 else xs x
theorem drawOf_dr {x : Nat} (h : x < 2 ^ 32) : drawOf (x : Int) = (dr x : Int) := by
  unfold dr
  split
  · rename_i e; subst e; rfl
  · rename_i e; exact drawOf_nat h e
theorem dr_lt {x : Nat} (h : x < 2 ^ 32) : dr x < 2 ^ 32 := by
  unfold dr
  split
  · decide
  · exact xs_lt h
theorem dr_ne {x : Nat} (h : x < 2 ^ 32) : dr x ≠ 0 := by
  unfold dr
  split
  · decide
  · rename_i e; exact xs_ne h e
theorem iter_ne : ∀ (n : Nat) {x : Nat}, x < 2 ^ 32 → x ≠ 0 → iter xs n x ≠ 0
  | 0, _, _, h => h
  | n + 1, _, hx, h => iter_ne n (xs_lt hx) (xs_ne hx h)
theorem dr_iter {x : Nat} (hx : x < 2 ^ 32) (h : x ≠ 0) (n : Nat) : dr (iter xs n x) = iter xs (n + 1) x := by
  unfold dr
  rw [if_neg (iter_ne n hx h), iter_add]
  rfl
theorem fresh_draw {y : Nat} (hy : y < 2 ^ 32) (h0 : y ≠ 0) {k : Nat} (hk : k < 256) : iter xs k y ∉ (List.range k).map fun i => iter xs i y := by
  intro h
  simp only [List.mem_map, List.mem_range] at h
  obtain ⟨i, hi, he⟩ := h
  have e : k = (k - i) + i := by omega
  rw [e, iter_add] at he
  exact no_return hy h0 (by omega) (by omega) (iter_inj i hy (iter_lt _ hy) he).symm

/-- The rounds of the law: so many draws are behind, none of them comes again. -/
theorem numDraws_rounds {R : Type} {n : Int} {w : Nat} (hw : w < 200) (hwi : within_d n 200 = some (w : Int)) (k0 : Bool → Option R) (k1 : Unit → Option R) {y : Nat} (hy : y < 2 ^ 32) (h0 : y ≠ 0) :
    ∀ (j x k : Nat), x < 2 ^ 32 → dr x = iter xs k y → k + j = 50 + w → numDraws_l3 (j + 1) x n k (had ((List.range k).map fun i => iter xs i y)) k0 k1 = k1 ()
  | 0, x, k, hx, hd, hj => by
    unfold numDraws_l3
    rw [hwi]
    simp only [Option.bind_some]
    rw [wrap_i64 (by omega) (by omega), show (decide ((k : Int) < 50 + (w : Int))) = false by simp; omega]
    rfl
  | j + 1, x, k, hx, hd, hj => by
    have hlt : dr x < 2 ^ 32 := dr_lt hx
    have hne : ((dr x : Int) == 0) = false := by
      have := dr_ne hx
      simp only [beq_eq_false_iff_ne, ne_eq]
      omega
    have hnew : dr x ∉ (List.range k).map fun i => iter xs i y := by rw [hd]; exact fresh_draw hy h0 (by omega)
    unfold numDraws_l3
    rw [hwi]
    simp only [Option.bind_some]
    rw [wrap_i64 (by omega) (by omega), show (decide ((k : Int) < 50 + (w : Int))) = true by simp; omega]
    simp only [cond_true]
    rw [drawOf_dr hx, hne, mget_had rfl hnew]
    simp only [cond_false, Option.bind_some, Option.getD_none, PV.asB, bne_self_eq_false]
    rw [mset_had rfl hnew]
    simp only [Option.bind_some]
    rw [wrap_i64 (by omega) (by omega)]
    have hl : (List.range k).map (fun i => iter xs i y) ++ [dr x] = (List.range (k + 1)).map fun i => iter xs i y := by
      rw [List.range_succ, List.map_append, hd]; rfl
    rw [hl]
    exact numDraws_rounds hw hwi k0 k1 hy h0 j (dr x) (k + 1) hlt (by rw [hd]; exact dr_iter hy h0 k) (by omega)

theorem numDraws_ok : ∀ (x1 n2 : Int) (y : Bool), sNumDraws x1 n2 = some y → ∃ n, ∀ (R : Type) (k : Bool → Option R), numDraws_b n x1 n2 k = k y := by
  intro x n y h
  unfold sNumDraws at h
  split at h
  · rename_i hc
    cases h
    obtain ⟨h1, h2, h3, h4⟩ := hc
    obtain ⟨a, rfl⟩ := Int.eq_ofNat_of_zero_le h1
    have ha : a < 2 ^ 32 := by omega
    obtain ⟨w, hw, hwi⟩ := within_ok n (m := 200) (by decide) (by decide)
    refine ⟨50 + w + 1, fun R k => ?_⟩
    have hr := numDraws_rounds (R := R) hw hwi (fun b => k b) (fun _ => Option.bind wakes01_d fun y => k y) (dr_lt ha) (dr_ne ha) (50 + w) a 0 ha rfl (by omega)
    exact hr.trans (by kernel_rfl)
  · cases h
end Go.Proofs.YtgpjnppakffoiaaV
