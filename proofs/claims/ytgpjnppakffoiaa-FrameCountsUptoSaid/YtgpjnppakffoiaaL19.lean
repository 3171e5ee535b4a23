/- Frames: the laws that compare what is fed at once, and in parts. -/
import Derived.Test.YtgpjnppakffoiaaR19
import Derived.Test.YtgpjnppakffoiaaD19b
namespace Go.Proofs.YtgpjnppakffoiaaV
open Go

theorem left_ok (l : List UInt8) : frLeft_d (bRow l) = some (l.length : Int) := by
  unfold frLeft_d frLeft_b
  rw [bRow_length]
theorem new_ok : frNew_d = some [] := by kernel_rfl
theorem feed_one (pre : List UInt8) (c : UInt8) : feed [] (pre ++ [c]) = ((feed [] pre).1 ++ (feed (feed [] pre).2 [c]).1, (feed (feed [] pre).2 [c]).2) := feed_append pre [c] []

/-! FrameBytes. -/
theorem frameBytes_rounds {R : Type} {b : List UInt8} (hb : b.length ≤ 600) (A B : List (List PV)) (k0 : List (List PV) → List (List PV) → List (List PV) → List (List PV) → Option R) : ∀ (rest pre : List UInt8), b = pre ++ rest →
    frameBytes_l8 (rest.length + 1) (b.length : Int) (pre.length : Int) (bRow b) A (bRow (feed [] pre).2) B (lRow (feed [] pre).1) k0 = k0 A (bRow (feed [] b).2) B (lRow (feed [] b).1)
  | [], pre, hbp => by
    have hl : b = pre := by rw [hbp]; simp
    subst hl
    unfold frameBytes_l8
    rw [show decide ((b.length : Int) < (b.length : Int)) = false by simp]
    rfl
  | c :: rest, pre, hbp => by
    have hl : b.length = pre.length + rest.length + 1 := by rw [hbp]; simp; omega
    have hw : IntKind.i64.wrap ((pre.length : Int) + 1) = ((pre ++ [c]).length : Int) := by
      rw [wrap_i64 (by omega) (by omega)]
      simp
    have hnext : b = (pre ++ [c]) ++ rest := by rw [hbp]; simp
    have hcut : ((bRow b).drop (Int.toNat (pre.length : Int))).take (Int.toNat (((pre ++ [c]).length : Int) - (pre.length : Int))) = bRow [c] := by
      have h1 : Int.toNat (((pre ++ [c]).length : Int) - (pre.length : Int)) = 1 := by simp
      rw [h1, Int.toNat_natCast, bRow_drop, bRow_take, hbp]
      congr 1
      simp
    have hk := feed_left pre [] (by simp)
    have hn := feed_len pre []
    have hn1 := feed_len [c] (feed [] pre).2
    unfold frameBytes_l8
    rw [show decide ((pre.length : Int) < (b.length : Int)) = true by simp; omega, cond_true, hw, bRow_length]
    rw [if_pos ⟨by omega, by simp; omega, rfl, by simp; omega, rfl⟩, hcut, sFeed_row hk (by simp [big])]
    simp only [Option.bind_some, lRow_length]
    rw [if_pos (by simp only [maxBytes, List.length_singleton] at hn1 ⊢; omega), ← lRow_append]
    have ih := frameBytes_rounds hb A B k0 rest (pre ++ [c]) hnext
    rw [feed_one] at ih
    exact ih

theorem frameBytes_ok : ∀ (l1 raw2 : List (List PV)) (y : Bool), sFrameBytes l1 raw2 = some y → ∃ n, ∀ (R : Type) (k : Bool → Option R), frameBytes_b n l1 raw2 k = k y := by
  intro l1 raw2 y h
  simp only [sFrameBytes, Option.bind_eq_some_iff] at h
  obtain ⟨l, h1, raw, h2, h3⟩ := h
  split at h3
  case isFalse => cases h3
  rename_i hraw
  cases h3
  obtain ⟨rfl, hr⟩ := unI_inv h1
  obtain rfl := unB_inv h2
  have hlen := bytesV_len l raw
  generalize hbv : (bytesV l raw).take 600 = b
  have hb : b.length ≤ 600 := by rw [← hbv]; simp; omega
  refine ⟨b.length + 1, fun R k => ?_⟩
  unfold frameBytes_b
  rw [sBytesL_row hr (by omega), Option.bind_some, cut_ok (by decide) (by simp only [big]; omega), show (600 : Int).toNat = 600 from rfl, hbv, Option.bind_some, new_ok, Option.bind_some, Option.bind_some]
  have hf : sFeed ([] : List (List PV)) (bRow b) = some (lRow (feed [] b).1, bRow (feed [] b).2) := sFeed_row (f := []) (by simp) (by simp only [big]; omega)
  rw [hf, Option.bind_some, bRow_length]
  refine (frameBytes_rounds hb _ _ _ b [] rfl).trans ?_
  have hn := feed_len b []
  rw [sSameL_row (by simp only [big]; omega), left_ok, wakes19_ok]
  simp

/-! FrameTells. -/
theorem take_step {b : List UInt8} {i j : Nat} : b.take (i + j) = b.take i ++ (b.drop i).take j := List.take_add
theorem frameTells_rounds {R : Type} {b : List UInt8} {cuts : List Int} (hb : b.length ≤ 68719476736) (hc : cuts.length ≤ maxLen) (k0 : Bool → Option R) (k1 : Int → List (List PV) → List (List PV) → List (List PV) → Option R) {r : Option R}
    (hk : ∀ i, i ≤ b.length → k1 (i : Int) (bRow b) (bRow (feed [] (b.take i)).2) (lRow (feed [] (b.take i)).1) = r) : ∀ (rest pre : List Int) (i : Nat), cuts = pre ++ rest → i ≤ b.length →
    frameTells_l8 (rest.length + 1) (iRow cuts) (i : Int) (pre.length : Int) (bRow b) (bRow (feed [] (b.take i)).2) (lRow (feed [] (b.take i)).1) k0 k1 = r
  | [], pre, i, hcp, hi => by
    have hl : cuts.length = pre.length := by rw [hcp]; simp
    unfold frameTells_l8
    rw [iRow_length, show decide ((pre.length : Int) < (cuts.length : Int)) = false by simp; omega, cond_false]
    exact hk i hi
  | c :: rest, pre, i, hcp, hi => by
    have hl : cuts.length = pre.length + rest.length + 1 := by rw [hcp]; simp; omega
    unfold frameTells_l8
    rw [iRow_length, show decide ((pre.length : Int) < (cuts.length : Int)) = true by simp; omega, cond_true, bRow_length]
    by_cases hib : i < b.length
    · have hcx : idx (iRow cuts) (pre.length : Int) = some [PV.int .i64 c] := by rw [hcp]; exact idx_iRow _ _ _
      have hw1 : IntKind.i64.wrap ((pre.length : Int) + 1) = ((pre ++ [c]).length : Int) := by
        rw [wrap_i64 (by omega) (by simp only [maxLen] at hc; omega)]
        simp
      have hnext : cuts = (pre ++ [c]) ++ rest := by rw [hcp]; simp
      have hw2 : IntKind.i64.wrap (IntKind.i64.wrap ((b.length : Int) - (i : Int)) + 1) = ((b.length - i + 1 : Nat) : Int) := by
        rw [wrap_i64 (a := (b.length : Int) - (i : Int)) (by omega) (by omega), wrap_i64 (by omega) (by omega)]
        omega
      have hpos : (0 : Int) < ((b.length - i + 1 : Nat) : Int) := by omega
      have h1 := Int.emod_nonneg c (show ((b.length - i + 1 : Nat) : Int) ≠ 0 by omega)
      have h2 := Int.emod_lt_of_pos c hpos
      obtain ⟨m, hm⟩ := Int.eq_ofNat_of_zero_le h1
      have hm2 : m ≤ b.length - i := by omega
      have hw3 : IntKind.i64.wrap ((i : Int) + (m : Int)) = ((i + m : Nat) : Int) := by
        rw [wrap_i64 (by omega) (by omega)]
        omega
      have hcut : ((bRow b).drop (Int.toNat (i : Int))).take (Int.toNat (((i + m : Nat) : Int) - (i : Int))) = bRow ((b.drop i).take m) := by
        rw [show Int.toNat (((i + m : Nat) : Int) - (i : Int)) = m by omega, Int.toNat_natCast, bRow_drop, bRow_take]
      have hcut0 : ((bRow b).drop 0).take (Int.toNat (((i + m : Nat) : Int) - (0 : Int))) = bRow (b.take (i + m)) := by
        rw [show Int.toNat (((i + m : Nat) : Int) - (0 : Int)) = i + m by omega, List.drop_zero, bRow_take]
      have hleft := feed_left (b.take i) [] (by simp)
      have hn1 := feed_len (b.take i) []
      have hn2 := feed_len ((b.drop i).take m) (feed [] (b.take i)).2
      have hboth : feed [] (b.take (i + m)) = ((feed [] (b.take i)).1 ++ (feed (feed [] (b.take i)).2 ((b.drop i).take m)).1, (feed (feed [] (b.take i)).2 ((b.drop i).take m)).2) := by
        rw [take_step, feed_append]
      have hfl : feed [] (b.take (i + m)) = ((lines [] (b.take (i + m))).1, (lines [] (b.take (i + m))).2.take 49) := feed_lines (b.take (i + m)) []
      have hn3 := feed_len (b.take (i + m)) []
      simp only [List.length_take, List.length_drop] at hn1 hn2 hn3
      rw [show decide ((i : Int) < (b.length : Int)) = true by simpa using hib, cond_true, hcx, hw1]
      simp only [Option.bind_some, List.length_singleton, if_true, List.getElem?_cons_zero, PV.asI]
      rw [hw2, within_val _ hpos (by omega), Option.bind_some, hm, hw3]
      rw [if_pos ⟨by omega, by omega, trivial, by omega, trivial⟩, hcut, sFeed_row hleft (by simp only [big, List.length_take, List.length_drop]; omega)]
      simp only [Option.bind_some, lRow_length]
      rw [if_pos (by simp only [maxBytes]; omega), if_pos ⟨by omega, by omega, trivial, by omega, trivial⟩, hcut0, sLines_row (by simp only [big, List.length_take]; omega), ← lRow_append]
      have e1 : (feed [] (b.take i)).1 ++ (feed (feed [] (b.take i)).2 ((b.drop i).take m)).1 = (feed [] (b.take (i + m))).1 := by rw [hboth]
      have e2 : (feed (feed [] (b.take i)).2 ((b.drop i).take m)).2 = (feed [] (b.take (i + m))).2 := by rw [hboth]
      rw [e1, e2]
      simp only [Option.bind_some]
      rw [sSameL_row (by simp only [big]; omega)]
      have e3 : (feed [] (b.take (i + m))).1 = (lines [] (b.take (i + m))).1 := by rw [hfl]
      have e4 : (feed [] (b.take (i + m))).2.length = min (lines [] (b.take (i + m))).2.length 49 := by rw [hfl]; simp; omega
      rw [show decide ((feed [] (b.take (i + m))).1 = (lines [] (b.take (i + m))).1) = true by simpa using e3, Option.bind_some, left_ok, Option.bind_some, e4]
      simp only [Bool.not_true, cond_false, bne_self_eq_false]
      exact frameTells_rounds hb hc k0 k1 hk rest (pre ++ [c]) (i + m) hnext (by omega)
    · rw [show decide ((i : Int) < (b.length : Int)) = false by simp; omega, cond_false]
      exact hk i hi

theorem frameTells_ok : ∀ (l1 raw2 cuts3 : List (List PV)) (y : Bool), sFrameTells l1 raw2 cuts3 = some y → ∃ n, ∀ (R : Type) (k : Bool → Option R), frameTells_b n l1 raw2 cuts3 k = k y := by
  intro l1 raw2 cuts3 y h
  simp only [sFrameTells, Option.bind_eq_some_iff] at h
  obtain ⟨l, h1, raw, h2, cuts, h3, h4⟩ := h
  split at h4
  case isFalse => cases h4
  rename_i hraw
  cases h4
  obtain ⟨rfl, hr⟩ := unI_inv h1
  obtain rfl := unB_inv h2
  obtain ⟨rfl, hr3⟩ := unI_inv h3
  have hlen := bytesV_len l raw
  generalize hbv : bytesV l raw = b at hlen
  have hb : b.length ≤ 68719476736 := by omega
  refine ⟨cuts.length + 1, fun R k => ?_⟩
  unfold frameTells_b
  rw [sBytesL_row hr (by omega), hbv, Option.bind_some, new_ok, Option.bind_some]
  refine frameTells_rounds hb hraw.2 _ _ (fun i hi => ?_) cuts [] 0 rfl (by omega)
  have hcut : ((bRow b).drop (Int.toNat (i : Int))).take (Int.toNat ((b.length : Int) - (i : Int))) = bRow (b.drop i) := by
    rw [Int.toNat_natCast, bRow_drop, bRow_take, List.take_of_length_le (by simp)]
  have hleft := feed_left (b.take i) [] (by simp)
  have hboth : feed [] b = ((feed [] (b.take i)).1 ++ (feed (feed [] (b.take i)).2 (b.drop i)).1, (feed (feed [] (b.take i)).2 (b.drop i)).2) := by
    conv => lhs; rw [← List.take_append_drop i b]
    rw [feed_append]
  have hn1 := feed_len (b.take i) []
  have hn2 := feed_len (b.drop i) (feed [] (b.take i)).2
  have hn3 := feed_len b []
  have hfl : feed [] b = ((lines [] b).1, (lines [] b).2.take 49) := feed_lines b []
  simp only [List.length_take, List.length_drop] at hn1 hn2
  rw [bRow_length, if_pos ⟨by omega, by omega, rfl, by omega, rfl⟩, hcut, sFeed_row hleft (by simp only [big, List.length_drop]; omega)]
  simp only [Option.bind_some, lRow_length]
  rw [if_pos (by simp only [maxBytes]; omega), sLines_row (by simp only [big]; omega), ← lRow_append]
  have e1 : (feed [] (b.take i)).1 ++ (feed (feed [] (b.take i)).2 (b.drop i)).1 = (feed [] b).1 := by rw [hboth]
  have e2 : (feed (feed [] (b.take i)).2 (b.drop i)).2 = (feed [] b).2 := by rw [hboth]
  rw [e1, e2]
  simp only [Option.bind_some]
  rw [sSameL_row (by simp only [big]; omega)]
  have e3 : (feed [] b).1 = (lines [] b).1 := by rw [hfl]
  have e4 : (feed [] b).2.length = min (lines [] b).2.length 49 := by rw [hfl]; simp; omega
  rw [show decide ((feed [] b).1 = (lines [] b).1) = true by simpa using e3, Option.bind_some, left_ok, Option.bind_some, e4, wakes19_ok]
  simp

/-! FrameCounts. -/
theorem idxN_bRow {b : List UInt8} {pre rest : List UInt8} {c : UInt8} (h : b = pre ++ c :: rest) : (bRow b)[Int.toNat (pre.length : Int)]? = some [PV.int .u8 (c.toNat : Int)] := by
  rw [Int.toNat_natCast, h, bRow_append]
  have := get_at (bRow pre) [PV.int .u8 (c.toNat : Int)] (bRow rest)
  rw [bRow_length] at this
  exact this
theorem idxN_lRow {l pre rest : List (ByteArray × Bool)} {x : ByteArray × Bool} (h : l = pre ++ x :: rest) : (lRow l)[Int.toNat (pre.length : Int)]? = some [PV.str x.1, PV.bool x.2] := by
  rw [Int.toNat_natCast, h, lRow_append]
  have := get_at (lRow pre) [PV.str x.1, PV.bool x.2] (lRow rest)
  rw [lRow_length] at this
  exact this

theorem frameCounts_rounds {R : Type} {b : List UInt8} (hb : b.length ≤ 3000) (F : List (List PV)) (k0 : Bool → Option R) (k1 : Int → Int → List (List PV) → List (List PV) → List (List PV) → Option R) : ∀ (rest p0 cur : List UInt8) (done : List (ByteArray × Bool)) (i : Nat), b = p0 ++ cur ++ rest → (feed [] b).1 = done ++ (lines cur rest).1 → i = p0.length + cur.length →
    frameCounts_l8 (rest.length + 1) (done.length : Int) (p0.length : Int) (b.length : Int) (i : Int) (bRow b) F (lRow (feed [] b).1) k0 k1 = k1 ((feed [] b).1.length : Int) ((b.length - (lines cur rest).2.length : Nat) : Int) (bRow b) F (lRow (feed [] b).1)
  | [], p0, cur, done, i, hbp, hd, hi => by
    have hl : b.length = p0.length + cur.length := by rw [hbp]; simp
    unfold frameCounts_l8
    rw [show decide ((i : Int) < (b.length : Int)) = false by simp; omega, cond_false]
    simp only [lines, List.append_nil] at hd ⊢
    rw [← hd, show b.length - cur.length = p0.length by omega]
  | c :: rest, p0, cur, done, i, hbp, hd, hi => by
    have hl : b.length = p0.length + cur.length + rest.length + 1 := by rw [hbp]; simp; omega
    have hx : (bRow b)[Int.toNat (i : Int)]? = some [PV.int .u8 (c.toNat : Int)] := by
      have := idxN_bRow (b := b) (pre := p0 ++ cur) (rest := rest) (c := c) hbp
      rw [List.length_append, ← hi] at this
      exact this
    have hw : IntKind.i64.wrap ((i : Int) + 1) = ((i + 1 : Nat) : Int) := by
      rw [wrap_i64 (by omega) (by omega)]
      omega
    have hwd : IntKind.i64.wrap ((i : Int) - (p0.length : Int)) = (cur.length : Int) := by
      rw [wrap_i64 (by omega) (by omega)]
      omega
    have hfl := feed_len b []
    unfold frameCounts_l8
    rw [show decide ((i : Int) < (b.length : Int)) = true by simp; omega, cond_true, bRow_length, if_pos ⟨by omega, by omega⟩, hx, hw, hwd]
    simp only [Option.bind_some, List.getElem?_cons_zero, PV.asI, if_true, bne, u8_eq]
    by_cases hc : c = 10
    · simp only [lines, hc, if_true] at hd
      have hdl : (feed [] b).1.length = done.length + (lines [] rest).1.length + 1 := by rw [hd]; simp; omega
      have hg : (lRow (feed [] b).1)[Int.toNat (done.length : Int)]? = some [PV.str (lineOf cur).1, PV.bool (lineOf cur).2] := idxN_lRow hd
      have hw2 : IntKind.i64.wrap ((done.length : Int) + 1) = ((done ++ [lineOf cur]).length : Int) := by
        rw [wrap_i64 (by omega) (by omega)]
        simp
      have hnext : b = (p0 ++ cur ++ [c]) ++ [] ++ rest := by rw [hbp]; simp
      have ih := frameCounts_rounds hb F k0 k1 rest (p0 ++ cur ++ [c]) [] (done ++ [lineOf cur]) (i + 1) hnext (by rw [hd]; simp) (by simp; omega)
      have hp : ((p0 ++ cur ++ [c]).length : Int) = ((i + 1 : Nat) : Int) := by simp; omega
      rw [hp] at ih
      rw [decide_eq_true hc]
      simp only [Bool.not_true, cond_false, lRow_length]
      rw [show decide ((done.length : Int) ≥ ((feed [] b).1.length : Int)) = false by simp; omega, cond_false, if_pos ⟨by omega, by omega⟩, hg, hw2]
      simp only [Option.bind_some, subAgg, List.length_cons, List.length_nil, Nat.zero_add, Nat.le_refl, if_true, List.drop_zero, List.take_succ_cons, List.take_zero, PV.isAgg, PV.cells, beq_self_eq_true, List.getElem?_cons_succ, List.getElem?_cons_zero, PV.asB, PV.asS]
      have hend : lines cur (c :: rest) = (lineOf cur :: (lines [] rest).1, (lines [] rest).2) := by simp [lines, hc]
      rw [hend]
      by_cases h48 : 48 < cur.length
      · have hL : lineOf cur = (text [], true) := by unfold lineOf; rw [if_pos h48]
        rw [hL] at ih ⊢
        rw [show decide ((cur.length : Int) > 48) = true by simp; omega]
        simp only [beq_self_eq_true, Bool.not_true, cond_false, cond_true]
        rw [show ((text []).toList == (ByteArray.mk #[]).toList) = true by rw [str_eq]; rfl]
        simp only [Bool.not_true, cond_false]
        exact ih
      · have hL : lineOf cur = (text cur, false) := by unfold lineOf; rw [if_neg h48]
        have hsz : ((text cur).size : Int) = (cur.length : Int) := by simp [text, ByteArray.size]
        rw [hL] at ih ⊢
        rw [show decide ((cur.length : Int) > 48) = false by simp; omega]
        simp only [beq_self_eq_true, Bool.not_true, Bool.not_false, cond_false, cond_true, hsz]
        exact ih
    · rw [decide_eq_false hc]
      simp only [Bool.not_false, cond_true]
      have hnext : b = p0 ++ (cur ++ [c]) ++ rest := by rw [hbp]; simp
      have hend : lines cur (c :: rest) = lines (cur ++ [c]) rest := by simp [lines, hc]
      rw [hend] at hd ⊢
      exact frameCounts_rounds hb F k0 k1 rest p0 (cur ++ [c]) done (i + 1) hnext hd (by simp; omega)

theorem frameCounts_ok : ∀ (l1 raw2 : List (List PV)) (y : Bool), sFrameCounts l1 raw2 = some y → ∃ n, ∀ (R : Type) (k : Bool → Option R), frameCounts_b n l1 raw2 k = k y := by
  intro l1 raw2 y h
  simp only [sFrameCounts, Option.bind_eq_some_iff] at h
  obtain ⟨l, h1, raw, h2, h3⟩ := h
  split at h3
  case isFalse => cases h3
  rename_i hraw
  cases h3
  obtain ⟨rfl, hr⟩ := unI_inv h1
  obtain rfl := unB_inv h2
  have hlen := bytesV_len l raw
  generalize hbv : (bytesV l raw).take 3000 = b
  have hb : b.length ≤ 3000 := by rw [← hbv]; simp; omega
  refine ⟨b.length + 1, fun R k => ?_⟩
  unfold frameCounts_b
  rw [sBytesL_row hr (by omega), Option.bind_some, cut_ok (by decide) (by simp only [big]; omega), show (3000 : Int).toNat = 3000 from rfl, hbv, Option.bind_some, new_ok, Option.bind_some]
  have hf : sFeed ([] : List (List PV)) (bRow b) = some (lRow (feed [] b).1, bRow (feed [] b).2) := sFeed_row (f := []) (by simp) (by simp only [big]; omega)
  have hfl : feed [] b = ((lines [] b).1, (lines [] b).2.take 49) := feed_lines b []
  have hll := lines_left b []
  simp only [List.length_nil, Nat.zero_add] at hll
  rw [hf, Option.bind_some, bRow_length]
  refine (frameCounts_rounds hb _ _ _ b [] [] [] 0 rfl (by rw [hfl]; simp) rfl).trans ?_
  have e4 : (feed [] b).2.length = min (lines [] b).2.length 49 := by rw [hfl]; simp; omega
  rw [lRow_length, left_ok, bRow_length, wakes19_ok]
  simp only [beq_self_eq_true, cond_true, Option.bind_some]
  rw [e4]
  by_cases h0 : (lines [] b).2.length = 0
  · rw [h0]
    simp
  · rw [show decide (((min (lines [] b).2.length 49 : Nat) : Int) > 0) = true by simp; omega, show decide (((b.length - (lines [] b).2.length : Nat) : Int) < (b.length : Int)) = true by simp; omega]
    rw [show decide (((min (lines [] b).2.length 49 : Nat) : Int) ≤ 49) = true by simp; omega]
    simp
end Go.Proofs.YtgpjnppakffoiaaV
