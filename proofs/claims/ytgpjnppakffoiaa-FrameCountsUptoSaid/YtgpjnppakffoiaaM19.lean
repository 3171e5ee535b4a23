/- Frames: a line of just as many bytes as may be. -/
import Derived.Test.YtgpjnppakffoiaaL19
namespace Go.Proofs.YtgpjnppakffoiaaV
open Go

theorem lines_plain : ∀ (b cur : List UInt8), (10 : UInt8) ∉ b → lines cur b = ([], cur ++ b)
  | [], cur, _ => by simp [lines]
  | c :: b, cur, h => by
    simp only [List.mem_cons, not_or] at h
    unfold lines
    rw [if_neg (fun e => h.1 e.symm), lines_plain b (cur ++ [c]) h.2]
    simp
theorem feed_plain {b : List UInt8} (h : (10 : UInt8) ∉ b) : feed [] b = ([], b.take 49) := by
  have := feed_lines b []
  simp only [List.take_nil] at this
  rw [this, lines_plain b [] h]
  rfl
theorem feed_plain2 {b : List UInt8} (h : (10 : UInt8) ∉ b) (m : Nat) : feed [] (b.take m) = ([], (b.take m).take 49) ∧ feed ((b.take m).take 49) (b.drop m) = ([], b.take 49) := by
  have h1 : feed [] (b.take m) = ([], (b.take m).take 49) := feed_plain fun hm => h (List.mem_of_mem_take hm)
  have h2 := feed_append (b.take m) (b.drop m) []
  rw [List.take_append_drop, feed_plain h, h1] at h2
  simp only [List.nil_append, Prod.mk.injEq] at h2
  exact ⟨h1, Prod.ext h2.1.symm h2.2.symm⟩
theorem feed_msg (f : List UInt8) : feed f [10, 110, 101, 120, 116, 10, 109, 111, 114, 101] = ([lineOf f, (text [110, 101, 120, 116], false)], [109, 111, 114, 101]) := by
  have h : feed [] [110, 101, 120, 116, 10, 109, 111, 114, 101] = ([(text [110, 101, 120, 116], false)], [109, 111, 114, 101]) := by kernel_rfl
  rw [feed, if_pos rfl, h]

theorem set_mid {α : Type} (a : List α) (x y : α) (b : List α) {j : Nat} (h : j = a.length) : List.set (a ++ x :: b) j y = a ++ y :: b := by
  subst h
  simp
theorem long_rounds {R : Type} {n cut c : Int} {C : UInt8} (hC : c = (C.toNat : Int)) {m : Nat} (hm : m ≤ 144) (k0 : Int → Int → List (List PV) → Option R) : ∀ (d j : Nat), j + d = m →
    frameLong_l6 (d + 1) n c cut (m : Int) (j : Int) (bRow (List.replicate j C ++ List.replicate d 0)) k0 = k0 n cut (bRow (List.replicate m C))
  | 0, j, h => by
    have : j = m := by omega
    subst this
    unfold frameLong_l6
    rw [show decide ((j : Int) < (j : Int)) = false by simp]
    simp
  | d + 1, j, h => by
    have hw : IntKind.i64.wrap ((j : Int) + 1) = ((j + 1 : Nat) : Int) := by
      rw [wrap_i64 (by omega) (by omega)]
      omega
    have hx : (bRow (List.replicate j C ++ List.replicate (d + 1) 0))[Int.toNat (j : Int)]? = some [PV.int .u8 0] := by
      rw [Int.toNat_natCast]
      simp [bRow]
    have hs : List.set (bRow (List.replicate j C ++ List.replicate (d + 1) 0)) (Int.toNat (j : Int)) [PV.int .u8 c] = bRow (List.replicate (j + 1) C ++ List.replicate d 0) := by
      rw [Int.toNat_natCast, bRow_append, List.replicate_succ (n := d)]
      have : bRow (0 :: List.replicate d 0) = [PV.int .u8 0] :: bRow (List.replicate d 0) := rfl
      rw [this, set_mid _ _ _ _ (by rw [bRow_length]; simp), hC, List.replicate_succ', bRow_append, bRow_append]
      simp [bRow]
    unfold frameLong_l6
    rw [show decide ((j : Int) < (m : Int)) = true by simp; omega, cond_true, bRow_length, if_pos ⟨by omega, by simp; omega⟩, hx]
    simp only [Option.bind_some, List.getElem?_cons_zero, List.set_cons_zero]
    rw [hs, hw]
    exact long_rounds hC hm k0 d (j + 1) (by omega)

theorem frameLong_ok : ∀ (n1 c2 cut3 : Int) (y : Bool), sFrameLong n1 c2 cut3 = some y → ∃ n, ∀ (R : Type) (k : Bool → Option R), frameLong_b n n1 c2 cut3 k = k y := by
  intro n1 c2 cut3 y h
  unfold sFrameLong at h
  split at h
  case isFalse => cases h
  rename_i hh
  cases h
  obtain ⟨hn1, ⟨hc0, hc1⟩, hcut⟩ := hh
  have h1 := Int.emod_nonneg n1 (show (144 : Int) ≠ 0 by decide)
  have h2 := Int.emod_lt_of_pos n1 (show (0 : Int) < 144 by decide)
  obtain ⟨m, hm⟩ := Int.eq_ofNat_of_zero_le h1
  have hm144 : m ≤ 144 := by omega
  have hpos : (0 : Int) < ((m : Int) + 1) := by omega
  have h3 := Int.emod_nonneg cut3 (show ((m : Int) + 1) ≠ 0 by omega)
  have h4 := Int.emod_lt_of_pos cut3 hpos
  obtain ⟨q, hq⟩ := Int.eq_ofNat_of_zero_le h3
  have hqm : q ≤ m := by omega
  refine ⟨m + 1, fun R k => ?_⟩
  unfold frameLong_b
  rw [within_val _ (by decide) (by decide), Option.bind_some, Option.bind_some, hm]
  have hcond : ((m : Int) = (m : Int) ∧ 0 ≤ (m : Int) ∧ (m : Int) * 1 ≤ (maxBytes : Int) ∧ 1 = 1) := ⟨rfl, by omega, by simp only [maxBytes]; omega, rfl⟩
  rw [if_pos hcond, if_pos hcond, Int.toNat_natCast]
  have hrep : List.replicate m [PV.int .u8 0] = bRow (List.replicate 0 0 ++ List.replicate m 0) := by simp [bRow]
  have hlen : ((List.replicate m [PV.int .u8 0]).length : Int) = (m : Int) := by simp
  rw [hlen]
  have both : ∀ (c : Int) (C : UInt8), c = (C.toNat : Int) → C ≠ 10 → ∃ b : List UInt8, b = List.replicate m C ∧ (10 : UInt8) ∉ b ∧ b.length = m ∧ ∀ (k0 : Int → Int → List (List PV) → Option R), frameLong_l6 (m + 1) (m : Int) c cut3 (m : Int) 0 (List.replicate m [PV.int .u8 0]) k0 = k0 (m : Int) cut3 (bRow b) := by
    intro c C hC hne
    refine ⟨_, rfl, ?_, by simp, fun k0 => ?_⟩
    · intro hmem
      exact hne (List.eq_of_mem_replicate hmem).symm
    · rw [hrep]
      exact long_rounds hC hm144 k0 m 0 (by omega)
  cases hc : (c2 == 10)
  case' false =>
    rw [cond_false]
    obtain ⟨b, _, hb, hbl, hr⟩ := both c2 (UInt8.ofNat c2.toNat) (by rw [UInt8.toNat_ofNat']; omega) (by
      intro e
      have := congrArg UInt8.toNat e
      rw [UInt8.toNat_ofNat'] at this
      simp at hc
      have h10 : (10 : UInt8).toNat = 10 := rfl
      omega)
  case' true =>
    rw [cond_true]
    obtain ⟨b, _, hb, hbl, hr⟩ := both 120 120 rfl (by decide)
  all_goals
    rw [hr]
    obtain ⟨f1, f2⟩ := feed_plain2 hb q
    have hs1 : sFeed ([] : List (List PV)) (bRow (b.take q)) = some (lRow [], bRow ((b.take q).take 49)) := by
      have := sFeed_row (f := []) (b := b.take q) (by simp) (by simp only [big, List.length_take]; omega)
      rw [f1] at this
      exact this
    have hs2 : sFeed (bRow ((b.take q).take 49)) (bRow (b.drop q)) = some (lRow [], bRow (b.take 49)) := by
      have := sFeed_row (f := (b.take q).take 49) (b := b.drop q) (by simp; omega) (by simp only [big, List.length_drop]; omega)
      rw [f2] at this
      exact this
    have hs3 : sFeed (bRow (b.take 49)) [[PV.int .u8 10], [PV.int .u8 110], [PV.int .u8 101], [PV.int .u8 120], [PV.int .u8 116], [PV.int .u8 10], [PV.int .u8 109], [PV.int .u8 111], [PV.int .u8 114], [PV.int .u8 101]] = some (lRow [lineOf (b.take 49), (text [110, 101, 120, 116], false)], bRow [109, 111, 114, 101]) := by
      have := sFeed_row (f := b.take 49) (b := [10, 110, 101, 120, 116, 10, 109, 111, 114, 101]) (by simp; omega) (by simp [big])
      rw [feed_msg] at this
      exact this
    have hcut1 : ((bRow b).drop 0).take (Int.toNat ((q : Int) - (0 : Int))) = bRow (b.take q) := by
      rw [show Int.toNat ((q : Int) - (0 : Int)) = q by omega, List.drop_zero, bRow_take]
    have hcut2 : ((bRow b).drop (Int.toNat (q : Int))).take (Int.toNat ((m : Int) - (q : Int))) = bRow (b.drop q) := by
      rw [Int.toNat_natCast, bRow_drop, bRow_take, List.take_of_length_le (by simp; omega)]
    have hll : lineOf (b.take 49) = lineOf b := by
      unfold lineOf
      by_cases h : 48 < b.length
      · rw [if_pos h, if_pos (by simp; omega)]
      · rw [if_neg h, List.take_of_length_le (by omega), if_neg h]
    have hw : IntKind.i64.wrap ((m : Int) + 1) = (m : Int) + 1 := wrap_i64 (by omega) (by omega)
    have hmin : (if (49 : Int) < (m : Int) then (49 : Int) else (m : Int)) = ((min m 49 : Nat) : Int) := by split <;> omega
    have hl49 : (b.take 49).length = min m 49 := by simp [hbl]; omega
    rw [new_ok, Option.bind_some, hw, within_val _ hpos (by omega), Option.bind_some, hq, bRow_length, hbl]
    rw [if_pos ⟨by omega, by omega, rfl, by omega, rfl⟩, hcut1, hs1]
    simp only [Option.bind_some, lRow_length, List.length_nil]
    rw [show (((0 : Nat) : Int) != 0) = false by rfl, cond_false, if_pos ⟨by omega, by omega, trivial, by omega, trivial⟩, hcut2, hs2]
    simp only [Option.bind_some, lRow_length, List.length_nil]
    rw [show (((0 : Nat) : Int) != 0) = false by rfl, cond_false, left_ok, Option.bind_some, hl49, hmin]
    rw [bne_self_eq_false, cond_false, strOf_row, Option.bind_some, hs3]
    simp only [Option.bind_some]
    rw [hll]
    by_cases h48 : 48 < m
    · have hL : lineOf b = (text [], true) := by unfold lineOf; rw [if_pos (by omega)]
      have hset : List.set ([[PV.str (ByteArray.mk b.toArray), PV.bool false], [PV.str (ByteArray.mk #[110, 101, 120, 116]), PV.bool false]] : List (List PV)) 0 [PV.str (ByteArray.mk #[]), PV.bool true] = lRow [(text [], true), (text [110, 101, 120, 116], false)] := rfl
      rw [show decide ((m : Int) > 48) = true by simp; omega, cond_true, hL, hset, sSameL_row (by simp [big])]
      simp only [decide_true, Option.bind_some, cond_true]
      rw [left_ok, wakes19_ok]
      rfl
    · have hL : lineOf b = (text b, false) := by unfold lineOf; rw [if_neg (by omega)]
      have hset : ([[PV.str (ByteArray.mk b.toArray), PV.bool false], [PV.str (ByteArray.mk #[110, 101, 120, 116]), PV.bool false]] : List (List PV)) = lRow [(text b, false), (text [110, 101, 120, 116], false)] := rfl
      rw [show decide ((m : Int) > 48) = false by simp; omega, cond_false, hL, hset, sSameL_row (by simp [big])]
      simp only [decide_true, Option.bind_some, cond_true]
      rw [left_ok, wakes19_ok]
      rfl
end Go.Proofs.YtgpjnppakffoiaaV
