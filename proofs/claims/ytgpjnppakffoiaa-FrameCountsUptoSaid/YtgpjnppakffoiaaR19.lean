/- Frames: lines of bytes, bytes of numbers, the document's example. -/
import Derived.Test.YtgpjnppakffoiaaQ19
namespace Go.Proofs.YtgpjnppakffoiaaV
open Go

theorem wakes19_ok : wakes19_d = some true := by kernel_rfl

theorem lines_left : ∀ (b f : List UInt8), (lines f b).2.length ≤ f.length + b.length
  | [], f => by simp [lines]
  | c :: b, f => by
    unfold lines
    split
    · have := lines_left b []; simp only [List.length_cons, List.length_nil] at this ⊢; omega
    · have := lines_left b (f ++ [c]); simp only [List.length_append, List.length_cons, List.length_nil] at this ⊢; omega

theorem lines_rounds {R : Type} {b : List UInt8} (hb : b.length ≤ big) (k0 : List (List PV) → Int → List (List PV) → Option R) : ∀ (rest p0 cur : List UInt8) (out : List (ByteArray × Bool)), b = p0 ++ cur ++ rest → out.length ≤ p0.length + cur.length →
    linesOf_l4 (rest.length + 1) (bRow b) (p0.length : Int) (bRow b) (b.length : Int) ((p0.length + cur.length : Nat) : Int) (lRow out) k0 = k0 (bRow b) ((b.length - (lines cur rest).2.length : Nat) : Int) (lRow (out ++ (lines cur rest).1))
  | [], p0, cur, out, hbp, ho => by
    have hl : b.length = p0.length + cur.length := by rw [hbp]; simp
    unfold linesOf_l4
    rw [show decide (((p0.length + cur.length : Nat) : Int) < (b.length : Int)) = false by simp; omega]
    simp only [cond_false, lines, List.append_nil]
    rw [show b.length - cur.length = p0.length by omega]
  | c :: rest, p0, cur, out, hbp, ho => by
    have hl : b.length = p0.length + cur.length + rest.length + 1 := by rw [hbp]; simp; omega
    have hi : idx (bRow b) ((p0.length + cur.length : Nat) : Int) = some [PV.int .u8 (c.toNat : Int)] := by
      rw [hbp, bRow_append]
      have := idx_at (bRow (p0 ++ cur)) [PV.int .u8 (c.toNat : Int)] (bRow rest)
      rw [bRow_length, List.length_append] at this
      exact this
    have hw : IntKind.i64.wrap (((p0.length + cur.length : Nat) : Int) + 1) = ((p0.length + cur.length + 1 : Nat) : Int) := by
      rw [wrap_i64 (by omega) (by simp only [big] at hb; omega)]
      omega
    have hcut : ((bRow b).take (Int.toNat ((p0.length + cur.length : Nat) : Int))).drop (Int.toNat (p0.length : Int)) = bRow cur := by
      rw [Int.toNat_natCast, Int.toNat_natCast, bRow_take, bRow_drop, hbp]
      congr 1
      rw [List.take_append_of_le_length (by simp), List.take_of_length_le (by simp)]
      simp
    have hwd : IntKind.i64.wrap (((p0.length + cur.length : Nat) : Int) - (p0.length : Int)) = (cur.length : Int) := by
      rw [wrap_i64 (by omega) (by simp only [big] at hb; omega)]
      omega
    unfold linesOf_l4
    rw [show decide (((p0.length + cur.length : Nat) : Int) < (b.length : Int)) = true by simp; omega, hi, hw, hcut, hwd, bRow_all, bRow_all, strOf_row]
    simp only [cond_true, Option.bind_some, List.length_singleton, if_true, List.getElem?_cons_zero, PV.asI, bne, u8_eq]
    by_cases hc : c = 10
    · rw [decide_eq_true hc]
      simp only [Bool.not_true, cond_false, bRow_length, lRow_length]
      rw [if_pos ⟨by omega, by omega, trivial, by omega, trivial⟩]
      have hnext : b = (p0 ++ cur ++ [c]) ++ [] ++ rest := by rw [hbp]; simp
      have ih := lines_rounds hb k0 rest (p0 ++ cur ++ [c]) [] (out ++ [lineOf cur]) hnext (by simp; omega)
      have hmax : (out.length + 1) * 24 ≤ maxBytes := by simp only [maxBytes, big] at hb ⊢; omega
      simp only [List.length_append, List.length_singleton, List.length_nil, Nat.add_zero] at ih
      by_cases h48 : 48 < cur.length
      · rw [show decide ((cur.length : Int) > 48) = true by simp; omega, cond_true, if_pos hmax]
        have e : lRow out ++ [[PV.str (ByteArray.mk #[]), PV.bool true]] = lRow (out ++ [lineOf cur]) := by rw [lRow_append, lineOf, if_pos h48]; rfl
        rw [e]
        refine ih.trans ?_
        simp [lines, hc]
      · rw [show decide ((cur.length : Int) > 48) = false by simp; omega, cond_false, if_pos hmax]
        have e : lRow out ++ [[PV.str (ByteArray.mk cur.toArray), PV.bool false]] = lRow (out ++ [lineOf cur]) := by rw [lRow_append, lineOf, if_neg h48]; rfl
        rw [e]
        refine ih.trans ?_
        simp [lines, hc]
    · rw [decide_eq_false hc]
      simp only [Bool.not_false, cond_true]
      have hnext : b = p0 ++ (cur ++ [c]) ++ rest := by rw [hbp]; simp
      have ih := lines_rounds hb k0 rest p0 (cur ++ [c]) out hnext (by simp; omega)
      simp only [List.length_append, List.length_singleton] at ih
      refine ih.trans ?_
      simp [lines, hc]

theorem sLines_inv {b1 : List (List PV)} {y : List (List PV) × Int} (h : sLines b1 = some y) : ∃ b, b1 = bRow b ∧ b.length ≤ big ∧ y = (lRow (lines [] b).1, ((min (lines [] b).2.length 49 : Nat) : Int)) := by
  simp only [sLines, Option.bind_eq_some_iff] at h
  obtain ⟨b, h2, h3⟩ := h
  split at h3
  · rename_i hh
    cases h3
    exact ⟨b, unB_inv h2, hh, rfl⟩
  · cases h3
theorem sLines_row {b : List UInt8} (hb : b.length ≤ big) : sLines (bRow b) = some (lRow (lines [] b).1, ((min (lines [] b).2.length 49 : Nat) : Int)) := by
  simp only [sLines, unB_row, Option.bind_some]
  rw [if_pos hb]
theorem lines_ok : ∀ (b1 : List (List PV)) (y : List (List PV) × Int), sLines b1 = some y → ∃ n, ∀ (R : Type) (k : List (List PV) → Int → Option R), linesOf_b n b1 k = k y.1 y.2 := by
  intro b1 y h
  obtain ⟨b, rfl, hb, rfl⟩ := sLines_inv h
  refine ⟨b.length + 1, fun R k => ?_⟩
  unfold linesOf_b
  rw [bRow_length]
  refine (lines_rounds hb _ b [] [] [] rfl (by simp)).trans ?_
  have hl := lines_left b []
  simp only [List.length_nil, Nat.zero_add] at hl
  rw [bRow_length, wrap_i64 (by omega) (by simp only [big] at hb; omega)]
  simp only [List.nil_append]
  congr 1
  split <;> omega
theorem lines_no : ∀ (b1 : List (List PV)) (y : List (List PV) × Int), sLines b1 = some y → (noMem (linesOf_E y).1 && noMemL (linesOf_E y).2) = true := by
  intro b1 y h
  obtain ⟨b, rfl, hb, rfl⟩ := sLines_inv h
  simp [linesOf_E, noMem, noMemL, noMem_lRow]

/-- What is fed is as lines are, but for too long ones, of which less is kept. -/
theorem feed_lines : ∀ (b cur : List UInt8), feed (cur.take 49) b = ((lines cur b).1, (lines cur b).2.take 49)
  | [], cur => by simp [feed, lines]
  | c :: b, cur => by
    have hline : lineOf (cur.take 49) = lineOf cur := by
      unfold lineOf
      by_cases h : 48 < cur.length
      · rw [if_pos h, if_pos (by simp; omega)]
      · rw [if_neg h, List.take_of_length_le (by omega), if_neg h]
    unfold feed lines
    by_cases hc : c = 10
    · rw [if_pos hc, if_pos hc, hline]
      have := feed_lines b []
      simp only [List.take_nil] at this
      rw [this]
    · rw [if_neg hc, if_neg hc]
      by_cases h : cur.length ≤ 48
      · rw [if_pos (by simp; omega), ← feed_lines b (cur ++ [c])]
        congr 1
        rw [List.take_of_length_le (by omega), List.take_of_length_le (by simp; omega)]
      · rw [if_neg (by simp; omega), ← feed_lines b (cur ++ [c])]
        congr 1
        rw [List.take_append_of_le_length (by omega)]

/-! Bytes of numbers. -/
theorem tdiv5 {v : Int} (h1 : -9223372036854775808 ≤ v) (h2 : v < 9223372036854775808) : IntKind.i64.wrap (Int.tdiv v 5) = Int.tdiv v 5 := by
  have h3 := Int.tmod_add_mul_tdiv v 5
  have h4 := Int.tmod_lt_of_pos v (show (0 : Int) < 5 by decide)
  have h5 := Int.lt_tmod_of_pos v (show (0 : Int) < 5 by decide)
  exact wrap_i64 (by omega) (by omega)
theorem range_drop_cons {j m : Nat} (h : j < m) : (List.range m).drop j = j :: (List.range m).drop (j + 1) := by
  rw [List.drop_eq_getElem_cons (by simpa using h)]
  simp
theorem letters {R : Type} {l : List (List PV)} {i : Int} {v : Int} (h1 : -9223372036854775808 ≤ v) (h2 : v < 9223372036854775808) (hi : idx l i = some [PV.int .i64 v]) (raw : List (List PV)) (k0 : List (List PV) → List (List PV) → Int → List (List PV) → Option R) {m : Nat} (hm : ((Int.tdiv v 5) % 30).toNat = m) :
    ∀ (d j : Nat) (out : List UInt8) (n : Nat), j + d = m → d < n → out.length + d ≤ 70368744177664 → bytesL_l7 n l raw i (j : Int) (bRow out) k0 = k0 l raw i (bRow (out ++ ((List.range m).drop j).map fun j => UInt8.ofNat (97 + j)))
  | 0, j, out, n + 1, hj, hn, ho => by
    have h3 := Int.emod_lt_of_pos (Int.tdiv v 5) (show (0 : Int) < 30 by decide)
    have h4 := Int.emod_nonneg (Int.tdiv v 5) (show (30 : Int) ≠ 0 by decide)
    unfold bytesL_l7
    rw [hi]
    simp only [Option.bind_some, List.length_singleton, if_true, List.getElem?_cons_zero, PV.asI]
    rw [tdiv5 h1 h2, within_val _ (by decide) (by decide), Option.bind_some, show decide ((j : Int) < Int.tdiv v 5 % 30) = false by simp; omega, cond_false]
    rw [List.drop_of_length_le (by simp; omega)]
    simp
  | d + 1, j, out, n + 1, hj, hn, ho => by
    have h3 := Int.emod_lt_of_pos (Int.tdiv v 5) (show (0 : Int) < 30 by decide)
    have h4 := Int.emod_nonneg (Int.tdiv v 5) (show (30 : Int) ≠ 0 by decide)
    have hu : IntKind.u8.wrap (IntKind.i64.wrap (97 + (j : Int))) = ((UInt8.ofNat (97 + j)).toNat : Int) := by
      rw [wrap_i64 (by omega) (by omega), wrap_u8, UInt8.toNat_ofNat']
      omega
    unfold bytesL_l7
    rw [hi]
    simp only [Option.bind_some, List.length_singleton, if_true, List.getElem?_cons_zero, PV.asI]
    rw [tdiv5 h1 h2, within_val _ (by decide) (by decide), Option.bind_some, show decide ((j : Int) < Int.tdiv v 5 % 30) = true by simp; omega, cond_true, bRow_length]
    rw [if_pos (by simp only [maxBytes]; omega), hu, wrap_i64 (by omega) (by omega)]
    have e : bRow out ++ [[PV.int .u8 ((UInt8.ofNat (97 + j)).toNat : Int)]] = bRow (out ++ [UInt8.ofNat (97 + j)]) := by rw [bRow_append]; rfl
    rw [e]
    refine (letters h1 h2 hi raw k0 hm d (j + 1) (out ++ [UInt8.ofNat (97 + j)]) n (by omega) (by omega) (by simp; omega)).trans ?_
    rw [range_drop_cons (show j < m by omega)]
    simp

theorem chunk_len (raw : List UInt8) (v : Int) : (chunk raw v).length ≤ raw.length + 30 := by
  unfold chunk
  split
  · simp
  · split
    · omega
    · have h3 := Int.emod_lt_of_pos (Int.tdiv v 5) (show (0 : Int) < 30 by decide)
      simp
      omega
theorem idx_iRow (pre : List Int) (v : Int) (rest : List Int) : idx (iRow (pre ++ v :: rest)) (pre.length : Int) = some [PV.int .i64 v] := by
  have := idx_at (iRow pre) [PV.int .i64 v] (iRow rest)
  rw [iRow_length] at this
  simpa [iRow] using this
theorem bytes_rounds {R : Type} {l : List Int} {raw : List UInt8} (hr : ∀ v ∈ l, -9223372036854775808 ≤ v ∧ v < 9223372036854775808) (hraw : raw.length ≤ 17179869184) (k0 : List (List PV) → Option R) : ∀ (d : Nat) (rest pre : List Int) (out : List UInt8) (n : Nat), l = pre ++ rest → d = 40 - pre.length → pre.length ≤ 40 → d + 31 < n → out.length ≤ pre.length * (raw.length + 30) →
    bytesL_l3 n (iRow l) (bRow raw) (pre.length : Int) (bRow out) k0 = k0 (bRow (out ++ (rest.take d).flatMap (chunk raw)))
  | d, [], pre, out, n + 1, hl, hd, hp, hn, ho => by
    have hll : l.length = pre.length := by rw [hl]; simp
    unfold bytesL_l3
    rw [iRow_length, show decide ((pre.length : Int) < (l.length : Int)) = false by simp; omega]
    simp
  | 0, v :: rest, pre, out, n + 1, hl, hd, hp, hn, ho => by
    have hll : l.length = pre.length + rest.length + 1 := by rw [hl]; simp; omega
    unfold bytesL_l3
    rw [iRow_length, show decide ((pre.length : Int) < (l.length : Int)) = true by simp; omega, cond_true, show decide ((pre.length : Int) < 40) = false by simp; omega]
    simp
  | d + 1, v :: rest, pre, out, n + 1, hl, hd, hp, hn, ho => by
    have hll : l.length = pre.length + rest.length + 1 := by rw [hl]; simp; omega
    have hv := hr v (by rw [hl]; simp)
    have hi : idx (iRow l) (pre.length : Int) = some [PV.int .i64 v] := by rw [hl]; exact idx_iRow _ _ _
    have hw : IntKind.i64.wrap ((pre.length : Int) + 1) = ((pre ++ [v]).length : Int) := by
      rw [wrap_i64 (by omega) (by omega)]
      simp
    have hnext : l = (pre ++ [v]) ++ rest := by rw [hl]; simp
    have hob : out.length ≤ 40 * (17179869184 + 30) := Nat.le_trans ho (Nat.mul_le_mul hp (by omega))
    have ih : ∀ (out' : List UInt8), out' = out ++ chunk raw v → bytesL_l3 n (iRow l) (bRow raw) ((pre ++ [v]).length : Int) (bRow out') k0 = k0 (bRow (out ++ ((v :: rest).take (d + 1)).flatMap (chunk raw))) := by
      intro out' ho'
      refine (bytes_rounds hr hraw k0 d rest (pre ++ [v]) out' n hnext (by simp; omega) (by simp; omega) (by omega) ?_).trans ?_
      · rw [ho']
        have := chunk_len raw v
        simp only [List.length_append, List.length_singleton, Nat.add_mul, Nat.one_mul]
        omega
      · rw [ho']; simp
    unfold bytesL_l3
    rw [iRow_length, show decide ((pre.length : Int) < (l.length : Int)) = true by simp; omega, cond_true, show decide ((pre.length : Int) < 40) = true by simp; omega, cond_true, hi, hw]
    simp only [Option.bind_some, List.length_singleton, if_true, List.getElem?_cons_zero, PV.asI]
    rw [within_val _ (by decide) (by decide), Option.bind_some, bRow_length, bRow_all, bRow_length]
    by_cases h0 : v % 5 = 0
    · rw [show (v % 5 == 0) = true by simp [h0], cond_true, if_pos (by simp only [maxBytes]; omega)]
      have e : bRow out ++ [[PV.int .u8 10]] = bRow (out ++ [10]) := by rw [bRow_append]; rfl
      rw [e]
      exact ih _ (by simp [chunk, h0])
    · rw [show (v % 5 == 0) = false by simpa using h0, cond_false]
      by_cases h1 : v % 5 = 1
      · rw [show (v % 5 == 1) = true by simp [h1], cond_true, if_pos rfl, if_pos (by simp only [maxBytes]; omega), ← bRow_append]
        exact ih _ (by simp [chunk, h1])
      · rw [show (v % 5 == 1) = false by simpa using h1, cond_false]
        have h3 := Int.emod_lt_of_pos (Int.tdiv v 5) (show (0 : Int) < 30 by decide)
        refine (letters hv.1 hv.2 hi (bRow raw) _ rfl ((Int.tdiv v 5) % 30).toNat 0 out n (by omega) (by omega) (by omega)).trans ?_
        rw [hw]
        exact ih _ (by simp [chunk, h0, h1])

def bytesV (l : List Int) (raw : List UInt8) : List UInt8 := (l.take 40).flatMap (chunk raw)
theorem sBytesL_inv {l1 raw2 y : List (List PV)} (h : sBytesL l1 raw2 = some y) : ∃ l raw, l1 = iRow l ∧ raw2 = bRow raw ∧ (∀ v ∈ l, -9223372036854775808 ≤ v ∧ v < 9223372036854775808) ∧ raw.length ≤ 17179869184 ∧ y = bRow (bytesV l raw) := by
  simp only [sBytesL, Option.bind_eq_some_iff] at h
  obtain ⟨l, h1, raw, h2, h3⟩ := h
  split at h3
  · rename_i hh
    cases h3
    obtain ⟨h4, h5⟩ := unI_inv h1
    exact ⟨l, raw, h4, unB_inv h2, h5, hh, rfl⟩
  · cases h3
theorem bytesL_ok : ∀ (l1 raw2 y : List (List PV)), sBytesL l1 raw2 = some y → ∃ n, ∀ (R : Type) (k : List (List PV) → Option R), bytesL_b n l1 raw2 k = k y := by
  intro l1 raw2 y h
  obtain ⟨l, raw, rfl, rfl, hr, hraw, rfl⟩ := sBytesL_inv h
  refine ⟨72, fun R k => ?_⟩
  unfold bytesL_b
  refine (bytes_rounds hr hraw _ 40 l [] [] 72 rfl rfl (by simp) (by omega) (by simp)).trans ?_
  rfl
theorem bytesL_no : ∀ (l1 raw2 y : List (List PV)), sBytesL l1 raw2 = some y → (noMem (bytesL_E y).1 && noMemL (bytesL_E y).2) = true := by
  intro l1 raw2 y h
  obtain ⟨l, raw, rfl, rfl, hr, hraw, rfl⟩ := sBytesL_inv h
  simp [bytesL_E, noMem, noMemL, noMem_row]
theorem sBytesL_row {l : List Int} {raw : List UInt8} (h : ∀ v ∈ l, -9223372036854775808 ≤ v ∧ v < 9223372036854775808) (hraw : raw.length ≤ 17179869184) : sBytesL (iRow l) (bRow raw) = some (bRow (bytesV l raw)) := by
  simp only [sBytesL, unI_row h, unB_row, Option.bind_some]
  rw [if_pos hraw]
  rfl
theorem flat_len {raw : List UInt8} : ∀ (l : List Int), (l.flatMap (chunk raw)).length ≤ l.length * (raw.length + 30)
  | [] => by simp
  | v :: l => by
    have h1 := chunk_len raw v
    have h2 := flat_len (raw := raw) l
    simp only [List.flatMap_cons, List.length_append, List.length_cons, Nat.add_mul, Nat.one_mul]
    omega
theorem bytesV_len (l : List Int) (raw : List UInt8) : (bytesV l raw).length ≤ 40 * (raw.length + 30) :=
  Nat.le_trans (flat_len _) (Nat.mul_le_mul (by simp; omega) (Nat.le_refl _))

/-! At most so many. -/
theorem cut_ok {b : List UInt8} {n : Int} (hn : 0 ≤ n) (hb : b.length ≤ big) : cutB_d (bRow b) n = some (bRow (b.take n.toNat)) := by
  have hm : (if n < (b.length : Int) then n else (b.length : Int)).toNat = min n.toNat b.length := by split <;> omega
  have hm2 : b.take (min n.toNat b.length) = b.take n.toNat := by
    rw [← List.take_take, List.take_length]
  unfold cutB_d cutB_b
  rw [bRow_length, bRow_all, if_pos ⟨by omega, by split <;> omega, rfl, by split <;> omega, rfl⟩, hm, bRow_take, hm2, List.drop_zero]
  unfold copyB_d copyB_b
  rw [bRow_all, if_pos rfl, bRow_length, if_pos (by simp only [maxBytes, big, List.length_take] at hb ⊢; omega)]
  simp [copyB_E, cutB_E, noMem, noMemL, noMem_row]
end Go.Proofs.YtgpjnppakffoiaaV
