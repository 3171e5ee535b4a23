/- Chapter 2: the laws, as what they come to answers true. -/
import Derived.Test.YtkeklbicmfhemaaDoorQ02
import Derived.Test.YtkeklbicmfhemaaDoorD02b
namespace Go.Proofs.YtkeklbicmfhemaaDoorV
open Go
set_option maxRecDepth 20000
set_option linter.unusedSimpArgs false

/-! Rows of texts held against one another. -/
theorem sameS_rounds {R : Type} {a b : List ByteArray} (ha : a.length ≤ big) (k0 : Bool → Option R) (k1 : Unit → Option R) : ∀ (ra rb pa pb : List ByteArray) (n : Nat), a = pa ++ ra → b = pb ++ rb → pa.length = pb.length → ra.length = rb.length → ra.length < n →
    sameS_l4 n (sRow a) (sRow b) (pa.length : Int) k0 k1 = if ra = rb then k1 () else k0 false
  | [], rb, pa, pb, n, h1, h2, h3, h4, hn => by
    obtain ⟨m, rfl⟩ : ∃ m, n = m + 1 := ⟨n - 1, by omega⟩
    cases rb with
    | cons => simp at h4
    | nil =>
      simp only [List.append_nil] at h1
      subst h1
      unfold sameS_l4
      rw [sRow_length, decide_eq_false (by omega), cond_false, if_pos rfl]
  | x :: ra, rb, pa, pb, n, h1, h2, h3, h4, hn => by
    obtain ⟨m, rfl⟩ : ∃ m, n = m + 1 := ⟨n - 1, by omega⟩
    cases rb with
    | nil => simp at h4
    | cons y rb =>
      have hlen : a.length = pa.length + (ra.length + 1) := by rw [h1]; simp
      unfold big at ha
      unfold sameS_l4
      have i1 : idx (sRow a) (pa.length : Int) = some [PV.str x] := by rw [h1]; exact idx_sRow pa x ra
      have i2 : idx (sRow b) (pa.length : Int) = some [PV.str y] := by rw [h2, h3]; exact idx_sRow pb y rb
      rw [sRow_length, decide_eq_true (by omega), cond_true, i1, i2]
      simp only [Option.bind_some, List.length_singleton, if_true, List.getElem?_cons_zero, PV.asS]
      rw [beq_list, bytes_toList, bytes_toList]
      by_cases hxy : x = y
      · subst hxy
        rw [decide_eq_true rfl, Bool.not_true, cond_false, wrapN (by omega) (by omega), show ((pa.length : Int) + 1) = ((pa ++ [x]).length : Int) by simp, sameS_rounds (by unfold big; omega) k0 k1 ra rb (pa ++ [x]) (pb ++ [x]) m (by rw [h1]; simp) (by rw [h2]; simp) (by simp [h3]) (by simpa using h4) (by simp at hn; omega)]
        simp
      · rw [decide_eq_false (fun e => hxy (bytes_ext e)), Bool.not_false, cond_true, if_neg (by simp [hxy])]
theorem sameS_ok : ∀ (a1 b2 : List (List PV)) (y : Bool), sSameS a1 b2 = some y → ∃ n, ∀ (R : Type) (k : Bool → Option R), sameS_b n a1 b2 k = k y := by
  intro a b y h
  simp only [sSameS, Option.bind_eq_some_iff] at h
  obtain ⟨l, h1, m, h2, h3⟩ := h
  split at h3
  case isFalse => cases h3
  rename_i hl
  cases h3
  rw [unS_inv h1, unS_inv h2]
  refine ⟨l.length + 1, fun R k => ?_⟩
  unfold sameS_b
  rw [sRow_length, sRow_length]
  by_cases hlen : l.length = m.length
  · rw [show (((l.length : Int) != (m.length : Int)) : Bool) = false by simp [hlen], cond_false]
    have := sameS_rounds hl k (fun _ => k true) l m [] [] (l.length + 1) rfl rfl rfl hlen (by omega)
    rw [show ((([] : List ByteArray).length : Nat) : Int) = 0 from rfl] at this
    refine this.trans ?_
    by_cases e : l = m
    · rw [if_pos e, decide_eq_true e]
    · rw [if_neg e, decide_eq_false e]
  · rw [show (((l.length : Int) != (m.length : Int)) : Bool) = true by rw [bne_iff_ne]; omega, cond_true, decide_eq_false (fun e => hlen (by rw [e]))]
theorem sSame_of {a b : List ByteArray} (ha : a.length ≤ big) : sSameS (sRow a) (sRow b) = some (decide (a = b)) := by
  unfold sSameS
  rw [unS_row, unS_row, Option.bind_some, Option.bind_some, if_pos ha]

/-! Texts. -/
theorem intV_bad {l : List UInt8} {c : UInt8} (hc : c ∈ l) (h1 : isDig c = false) (h2 : c ≠ 45) : intV l = (0, false) := by
  unfold intV
  cases h : intOf l with
  | none => rfl
  | some n =>
    exfalso
    obtain ⟨e, hn⟩ := dig_intOf h
    rcases dig_chars (small18_inI hn) c (e ▸ hc) with h' | h'
    · rw [h1] at h'; cases h'
    · exact h2 h'
theorem intV_dig {n : Int} (h : inI n = true) : intV (dig n) = if small18 n = true then (n, true) else (0, false) := by
  unfold intV
  rw [intOf_dig h]
  cases small18 n <;> rfl
theorem dig_pos {n : Int} (h : inI n = true) (h0 : 0 ≤ n) : dig n = Lib.decDigits n.natAbs := by
  unfold dig
  rw [if_neg (by omega), decL_dec h]
theorem dig_neg {n : Int} (h : inI n = true) (h0 : n < 0) : dig n = 45 :: Lib.decDigits n.natAbs := by
  unfold dig
  rw [if_pos h0, decL_dec h]
theorem dec_init {u : Nat} (h : 9 < u) : Lib.decDigits u = Lib.decDigits (u / 10) ++ [UInt8.ofNat (48 + u % 10)] := by
  rw [Lib.decDigits.eq_1 u, dif_neg (by omega)]
theorem tdiv10 {n : Int} (h : inI n = true) : inI (Int.tdiv n 10) = true ∧ (Int.tdiv n 10).natAbs = n.natAbs / 10 ∧ (0 ≤ n → 0 ≤ Int.tdiv n 10) ∧ (n < -9 → Int.tdiv n 10 < 0) := by
  have h' := (inI_iff n).1 h
  have e1 := Int.tmod_add_mul_tdiv n 10
  have e2 := Int.natAbs_tmod n 10
  have e3 : (Int.tdiv n 10).natAbs = n.natAbs / 10 := Int.natAbs_tdiv n 10
  have e2' : (Int.tmod n 10).natAbs = n.natAbs % 10 := e2
  refine ⟨(inI_iff _).2 (by omega), e3, fun h => ?_, fun h => ?_⟩
  · exact Int.tdiv_nonneg h (by omega)
  · omega
theorem dig_init {n : Int} (h : inI n = true) (h9 : 9 < n.natAbs) : dig n = dig (Int.tdiv n 10) ++ [UInt8.ofNat (48 + n.natAbs % 10)] := by
  obtain ⟨t1, t2, t3, t4⟩ := tdiv10 h
  by_cases h0 : 0 ≤ n
  · rw [dig_pos h h0, dig_pos t1 (t3 h0), t2, dec_init h9]
  · rw [dig_neg h (by omega), dig_neg t1 (t4 (by omega)), t2, dec_init h9]
    rfl
theorem dig_but_last {n : Int} (h : inI n = true) (h9 : 9 < n.natAbs) : (text (dig n)).extract 0 (Int.toNat (((dig n).length : Int) - 1)) = text (dig (Int.tdiv n 10)) := by
  have hl := dig_length h
  rw [text_extract, List.drop_zero, show Int.toNat (((dig n).length : Int) - 1) = (dig n).length - 1 by omega]
  congr 1
  conv => lhs; rw [dig_init h h9]
  simp

/-! ScanDigits. -/
theorem scanDigits_q11_ok {R : Type} (at' : Int) {c : Int} {l : List UInt8} (hl : l.length ≤ 100) (h0 : 0 ≤ c ∧ c < 256) (h1 : ¬ (48 ≤ c ∧ c ≤ 57)) (h2 : c ≠ 45) (k : Bool → Option R) : scanDigits_q11 at' c (text l) k = k true := by
  unfold scanDigits_q11
  rw [text_size, wrapN (by omega) (by omega), show ((l.length : Int) + 1) = ((l.length + 1 : Nat) : Int) by omega]
  obtain ⟨j, hj, e⟩ := within_ok at' (m := l.length + 1) (by omega) (by omega)
  have hs : strOf [[PV.int .u8 c]] = some [UInt8.ofNat c.toNat] := rfl
  have ht : ByteArray.mk (List.toArray [UInt8.ofNat c.toNat]) = text [UInt8.ofNat c.toNat] := rfl
  rw [e, Option.bind_some, if_pos (by omega), if_pos (by omega), hs, Option.bind_some, ht, text_extract, text_extract, Int.toNat_natCast, Int.toNat_natCast, List.drop_zero, List.take_of_length_le (Nat.le_refl _), text_append, text_append, text_size, text_size, text_size, text_size, if_pos (by simp; omega), if_pos (by simp; omega)]
  have hc : (UInt8.ofNat c.toNat).toNat = c.toNat := by rw [UInt8.toNat_ofNat']; omega
  rw [sInt_ok (by simp; unfold lim; omega), intV_bad (c := UInt8.ofNat c.toNat) (by simp)]
  · rw [Option.bind_some, Bool.not_false, cond_true, wakes02_ok]
    rfl
  · cases hd : isDig (UInt8.ofNat c.toNat) with
    | false => rfl
    | true => have := isDig_iff.1 hd; omega
  · intro e
    have : (UInt8.ofNat c.toNat).toNat = 45 := by rw [e]; rfl
    omega
theorem scanDigits_q9_ok {R : Type} (at' : Int) {c : Int} {l : List UInt8} (hl : l.length ≤ 100) (h0 : 0 ≤ c ∧ c < 256) (k : Bool → Option R) : scanDigits_q9 at' c (text l) k = k true := by
  unfold scanDigits_q9 scanDigits_q10
  rw [wakes02_ok]
  simp only [Option.bind_some, cond_true]
  by_cases h1 : 48 ≤ c ∧ c ≤ 57
  · rw [decide_eq_true (by omega), cond_true, decide_eq_true (by omega), cond_true]
  · by_cases h2 : c = 45
    · subst h2
      rfl
    · have q := scanDigits_q11_ok at' hl h0 h1 h2 k
      rw [show (c == 45) = false by simpa using h2, cond_false, q]
      cases decide (c ≥ 48) <;> cases decide (c ≤ 57) <;> rfl
theorem scanDigits_q6_ok {R : Type} (at' : Int) {n c : Int} (hn : inI n = true) (h0 : 0 ≤ c ∧ c < 256) (k : Bool → Option R) : scanDigits_q6 n at' c (text (dig n)) k = k true := by
  unfold scanDigits_q6
  have hl := dig_length hn
  have q := scanDigits_q9_ok at' (l := dig n) (by omega) h0 k
  rw [inI_wrap (tdiv10 hn).1, digits_ok (tdiv10 hn).1, Option.bind_some, text_size, wrapN (by omega) (by omega), q]
  by_cases h1 : 9 < n
  · rw [decide_eq_true h1, cond_true, if_pos (by omega), dig_but_last hn (by omega), text_toList, beq_self_eq_true, Bool.not_true, cond_false, decide_eq_false (by omega), cond_false]
  · rw [decide_eq_false h1, cond_false]
    by_cases h2 : n < -9
    · rw [decide_eq_true h2, cond_true, if_pos (by omega), dig_but_last hn (by omega), text_toList, beq_self_eq_true, Bool.not_true, cond_false]
    · rw [decide_eq_false h2, cond_false]
theorem scanDigits_ok : ∀ (n1 at2 c3 : Int) (y : Bool), sScanDigits n1 at2 c3 = some y → ∀ (R : Type) (k : Bool → Option R), scanDigits_b n1 at2 c3 k = k y := by
  intro n at' c y h R k
  unfold sScanDigits at h
  split at h
  case isFalse => cases h
  rename_i hh
  cases h
  obtain ⟨hn, _, hc0, hc1⟩ := hh
  have hn' := (inI_iff n).1 hn
  have m1 := Int.tmod_lt_of_pos n (b := 1000000000000000000) (by omega)
  have m2 := Int.lt_tmod_of_pos n (b := 1000000000000000000) (by omega)
  unfold scanDigits_b
  generalize Int.tmod n 1000000000000000000 = u at m1 m2
  have hu : inI u = true := (inI_iff u).2 (by omega)
  have hl := dig_length hu
  have q := scanDigits_q6_ok at' hu ⟨hc0, hc1⟩ k
  rw [digits_ok hu, Option.bind_some, mk_nil, text_toList, text_toList, show (dig u == []) = false by rw [beq_list]; exact decide_eq_false (fun e => by rw [e] at hl; simp at hl), cond_false, text_data, text_size, q]
  obtain ⟨d1, d2, d3, d4, d5⟩ := dec_all u.natAbs
  by_cases h0 : u < 0
  · rw [dig_neg hu h0] at hl ⊢
    rw [show idx (45 :: Lib.decDigits u.natAbs) (0 : Int) = some 45 from rfl, Option.bind_some, decide_eq_true h0, show ((((45 : UInt8).toNat : Int) == (45 : Int)) : Bool) = true from rfl, show (true != true) = false from rfl, cond_false, show ((u != 0) : Bool) = true by rw [bne_iff_ne]; omega, cond_true, Option.bind_some, show ((((45 : UInt8).toNat : Int) == (48 : Int)) : Bool) = false from rfl, cond_false, Option.bind_some, show ((((45 : UInt8).toNat : Int) == (45 : Int)) : Bool) = true from rfl, cond_true]
    cases hd : Lib.decDigits u.natAbs with
    | nil => exact absurd hd d3
    | cons a d =>
      have ha := d5 (by omega)
      rw [hd] at ha
      rw [decide_eq_false (by simp; omega), cond_false, show idx (45 :: a :: d) (1 : Int) = some a from rfl, Option.bind_some, show (((a.toNat : Int) == (48 : Int)) : Bool) = (a == 48) from u8_cast a 48, show (a == 48) = false by simpa using ha, cond_false]
  · rw [dig_pos hu (by omega)]
    cases hd : Lib.decDigits u.natAbs with
    | nil => exact absurd hd d3
    | cons a d =>
      have hda : isDig a = true := by rw [hd] at d1; simp at d1; exact d1.1
      have hda' := isDig_iff.1 hda
      rw [show idx (a :: d) (0 : Int) = some a from rfl, Option.bind_some, decide_eq_false h0, show (((a.toNat : Int) == (45 : Int)) : Bool) = false by rw [beq_eq_false_iff_ne]; omega, show (false != false) = false from rfl, cond_false]
      by_cases hz : u = 0
      · rw [show ((u != 0) : Bool) = false by simp [hz], cond_false]
      · have ha := d5 (by omega)
        rw [hd] at ha
        rw [show ((u != 0) : Bool) = true by simp [hz], cond_true, Option.bind_some, show (((a.toNat : Int) == (48 : Int)) : Bool) = (a == 48) from u8_cast a 48, show (a == 48) = false by simpa using ha, cond_false, Option.bind_some, show (((a.toNat : Int) == (45 : Int)) : Bool) = false by rw [beq_eq_false_iff_ne]; omega, cond_false]

/-! ScanForms. -/
def nsRow (l : List Int) : List (List PV) := l.map fun n => [PV.str (text (dig n)), PV.int .i64 n]
theorem scanForms_rounds {R : Type} (a : Int) {l : List Int} (hl : l.length ≤ 100) (hs : ∀ n ∈ l, small18 n = true) (k0 : Bool → Option R) (k1 : Int → Option R) : ∀ (rest pre : List Int) (n : Nat), l = pre ++ rest → rest.length < n →
    scanForms_l2 n a (l.length : Int) (pre.length : Int) (nsRow l) k0 k1 = k1 a
  | [], pre, n, hw, hn => by
    obtain ⟨m, rfl⟩ : ∃ m, n = m + 1 := ⟨n - 1, by omega⟩
    simp only [List.append_nil] at hw
    subst hw
    unfold scanForms_l2
    rw [decide_eq_false (by omega), cond_false]
  | x :: rest, pre, n, hw, hn => by
    obtain ⟨m, rfl⟩ : ∃ m, n = m + 1 := ⟨n - 1, by omega⟩
    have hlen : l.length = pre.length + (rest.length + 1) := by rw [hw]; simp
    have hx : small18 x = true := hs x (by rw [hw]; simp)
    have hxi := small18_inI hx
    have ih := scanForms_rounds a hl hs k0 k1 rest (pre ++ [x]) m (by rw [hw]; simp) (by simp at hn; omega)
    have e1 : ((pre.length : Int) + 1) = ((pre ++ [x]).length : Int) := by simp
    have hidx : (nsRow l)[Int.toNat (pre.length : Int)]? = some [PV.str (text (dig x)), PV.int .i64 x] := by
      rw [hw, Int.toNat_natCast, nsRow, List.map_append, List.map_cons, List.getElem?_append_right (by simp)]
      simp
    have hdl := dig_length hxi
    have hlen2 : (nsRow l).length = l.length := by simp [nsRow]
    unfold scanForms_l2
    rw [decide_eq_true (by omega), cond_true, hlen2, if_pos (by omega), hidx]
    have hsub : subAgg [PV.str (text (dig x)), PV.int .i64 x] 0 2 = some (PV.agg [PV.str (text (dig x)), PV.int .i64 x]) := rfl
    have hagg : PV.isAgg (PV.agg [PV.str (text (dig x)), PV.int .i64 x]) 2 = true := rfl
    have hc0 : (PV.cells (PV.agg [PV.str (text (dig x)), PV.int .i64 x]))[0]? = some (PV.str (text (dig x))) := rfl
    have hc1 : (PV.cells (PV.agg [PV.str (text (dig x)), PV.int .i64 x]))[1]? = some (PV.int .i64 x) := rfl
    have hS : PV.asS (PV.str (text (dig x))) = some (text (dig x)) := rfl
    have hI : PV.asI .i64 (PV.int .i64 x) = some x := rfl
    have hv : sInt_d (text (dig x)) = some (x, true) := by rw [sInt_ok (by unfold lim; omega), intV_dig hxi, if_pos hx]
    simp only [Option.bind_some, hsub, hagg, if_true, hc0, hc1, hS, hI, hv, digits_ok hxi, Bool.not_true, cond_false, bne_self_eq_false, beq_self_eq_true]
    rw [wrapN (by omega) (by omega), e1, ih]
    simp only [meet_self]
def badForms : List (List UInt8) := [[], [45], [45, 48], [48, 48], [48, 49], [45, 48, 49], [43, 49], [49, 32], [32, 49], [49, 46, 48], [97], [49, 97], [49, 48, 48, 48, 48, 48, 48, 48, 48, 48, 48, 48, 48, 48, 48, 48, 48, 48, 48], [48, 120, 49], [45, 45, 49], [239, 188, 145]]
theorem scanForms_bad : ∀ l ∈ badForms, intV l = (0, false) ∧ l.length ≤ 100 := by decide +kernel
theorem scanForms_tab : ([[(PV.str (ByteArray.mk #[]))], [(PV.str (ByteArray.mk #[45]))], [(PV.str (ByteArray.mk #[45, 48]))], [(PV.str (ByteArray.mk #[48, 48]))], [(PV.str (ByteArray.mk #[48, 49]))], [(PV.str (ByteArray.mk #[45, 48, 49]))], [(PV.str (ByteArray.mk #[43, 49]))], [(PV.str (ByteArray.mk #[49, 32]))], [(PV.str (ByteArray.mk #[32, 49]))], [(PV.str (ByteArray.mk #[49, 46, 48]))], [(PV.str (ByteArray.mk #[97]))], [(PV.str (ByteArray.mk #[49, 97]))], [(PV.str (ByteArray.mk #[49, 48, 48, 48, 48, 48, 48, 48, 48, 48, 48, 48, 48, 48, 48, 48, 48, 48, 48]))], [(PV.str (ByteArray.mk #[48, 120, 49]))], [(PV.str (ByteArray.mk #[45, 45, 49]))], [(PV.str (ByteArray.mk #[239, 188, 145]))]] : List (List PV)) = badForms.map fun l => [PV.str (text l)] := rfl
theorem sWords_at {l : List UInt8} (hl : l.length ≤ lim) : sWords (ByteArray.mk l.toArray) = some (sRow ((words l).map text)) := by
  rw [mk_text]
  unfold sWords
  rw [text_size, if_pos hl, text_data]
theorem sWords_text {l : List UInt8} (hl : l.length ≤ lim) : sWords (text l) = some (sRow ((words l).map text)) := sWords_at hl
theorem mk_toList (l : List UInt8) : ByteArray.toList (ByteArray.mk l.toArray) = l := text_toList l
theorem scanForms_ok : ∀ (n1 : Int) (y : Bool), sScanForms n1 = some y → ∃ n, ∀ (R : Type) (k : Bool → Option R), scanForms_b n n1 k = k y := by
  intro n y h
  unfold sScanForms at h
  split at h
  case isFalse => cases h
  cases h
  refine ⟨10, fun R k => ?_⟩
  unfold scanForms_b
  have t := fun k1 => scanForms_rounds (R := R) n (l := [0, 7, -1, 999999999999999999, -999999999999999999, 10]) (by decide) (by decide) k k1 [0, 7, -1, 999999999999999999, -999999999999999999, 10] [] 10 rfl (by decide)
  refine (t _).trans ?_
  obtain ⟨j, hj, e⟩ := within_ok n (m := 16) (by omega) (by omega)
  rw [show (16 : Int) = ((16 : Nat) : Int) from rfl, e, Option.bind_some, if_pos (by omega), Int.toNat_natCast]
  rw [scanForms_tab, List.getElem?_map, List.getElem?_eq_getElem (by exact hj), Option.map_some, Option.bind_some, List.getElem?_cons_zero, Option.bind_some]
  have hm := scanForms_bad _ (List.getElem_mem (l := badForms) (n := j) hj)
  simp only [PV.asS, Option.bind_some]
  rw [sInt_ok (by unfold lim; omega), hm.1, Option.bind_some, Bool.not_false, cond_true, beq_self_eq_true, cond_true, digits_ok (by decide), Option.bind_some, text_toList, mk_toList, show (dig (-9223372036854775808) == [45, 57, 50, 50, 51, 51, 55, 50, 48, 51, 54, 56, 53, 52, 55, 55, 53, 56, 48, 56]) = true by decide +kernel, cond_true]
  rw [sWords_at (show [32, 32, 97, 32, 98, 9, 99, 32, 32, 100, 32].length ≤ lim by decide), Option.bind_some]
  rw [show (words [32, 32, 97, 32, 98, 9, 99, 32, 32, 100, 32]).map text = [text [97], text [98, 9, 99], text [100]] by rfl]
  rw [show ([[PV.str (ByteArray.mk #[97])], [PV.str (ByteArray.mk #[98, 9, 99])], [PV.str (ByteArray.mk #[100])]] : List (List PV)) = sRow [text [97], text [98, 9, 99], text [100]] from rfl, sSame_of (by decide), Option.bind_some, decide_eq_true rfl, cond_true]
  rw [sWords_at (show [32, 32, 32].length ≤ lim by decide), Option.bind_some, show (words [32, 32, 32]).map text = [] from rfl, show (((sRow []).length : Int) == 0) = true from rfl, cond_true]
  rw [sWords_at (show ([] : List UInt8).length ≤ lim by decide), Option.bind_some, show (words []).map text = [] from rfl, show (((sRow []).length : Int) == 0) = true from rfl, cond_true, wakes02_ok]
  rfl
end Go.Proofs.YtkeklbicmfhemaaDoorV
