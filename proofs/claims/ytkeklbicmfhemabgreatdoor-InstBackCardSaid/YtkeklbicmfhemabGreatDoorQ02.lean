/- Words, numbers, digits: what the program's and the document's functions come to. -/
import Derived.Test.YtkeklbicmfhemabGreatDoorD02
import Derived.Test.YtkeklbicmfhemabGreatDoorG
namespace Go.Proofs.YtkeklbicmfhemabGreatDoorV
open Go

theorem take_pre (l p : List UInt8) : (l.take p.length == p) = p.isPrefixOf l := by
  rw [Bool.eq_iff_iff, beq_iff_eq, List.isPrefixOf_iff_prefix, List.prefix_iff_eq_take]
  exact eq_comm
theorem hasPre_ok (l p : List UInt8) : hasPre_d (text l) (text p) = some (p.isPrefixOf l) := by
  unfold hasPre_d hasPre_b
  simp only [text_size, text_extract, text_toList, Int.toNat_natCast, Int.toNat_zero, List.drop_zero, take_pre]
  by_cases h : p.length ≤ l.length
  · rw [decide_eq_true (by omega), cond_true, if_pos (by omega)]
  · rw [decide_eq_false (by omega), cond_false]
    congr 1
    cases hp : p.isPrefixOf l with
    | false => rfl
    | true =>
      rw [List.isPrefixOf_iff_prefix] at hp
      exact absurd hp.length_le h
theorem trimPre_ok (l p : List UInt8) : trimPre_d (text l) (text p) = some (text (if p.isPrefixOf l = true then l.drop p.length else l)) := by
  unfold trimPre_d trimPre_b trimPre0_d trimPre0_b
  rw [hasPre_ok]
  simp only [Option.bind_some]
  cases hp : p.isPrefixOf l with
  | false => simp
  | true =>
    have : p.length ≤ l.length := (List.isPrefixOf_iff_prefix.1 hp).length_le
    simp only [cond_true, if_true, text_size, text_extract, Int.toNat_natCast]
    rw [if_pos (by omega)]
    simp

theorem dropWhile_nil_iff {p : UInt8 → Bool} : ∀ {l : List UInt8}, l.dropWhile p = [] ↔ ∀ c ∈ l, p c = true
  | [] => by simp
  | b :: l => by
    rw [List.dropWhile_cons]
    split
    · rename_i h; rw [dropWhile_nil_iff]; simp [h]
    · rename_i h; simp [h]
theorem trimS_nil {l cs : List UInt8} : Lib.trimS l cs = [] ↔ ∀ c ∈ l, cs.contains c = true := by
  unfold Lib.trimS Lib.trimLeftS Lib.trimRightS
  rw [dropWhile_nil_iff]
  constructor
  · intro h
    cases hr : l.reverse.dropWhile (cs.contains ·) with
    | nil =>
      rw [dropWhile_nil_iff] at hr
      exact fun c hc => hr c (by simpa using hc)
    | cons b r =>
      exfalso
      have h1 := h b (by rw [hr]; simp)
      have h2 := List.head?_dropWhile_not (p := fun c => cs.contains c) (l := l.reverse)
      rw [hr] at h2
      simp only [List.head?_cons] at h2
      rw [h1] at h2
      cases h2
  · intro h c hc
    have : l.reverse.dropWhile (cs.contains ·) = [] := dropWhile_nil_iff.2 fun c hc => h c (by simpa using hc)
    rw [this] at hc
    cases hc
theorem dig_set : ([48, 49, 50, 51, 52, 53, 54, 55, 56, 57] : List UInt8).contains = isDig := by
  funext c
  have : ∀ n : Fin 256, ([48, 49, 50, 51, 52, 53, 54, 55, 56, 57] : List UInt8).contains (UInt8.ofNat n.val) = isDig (UInt8.ofNat n.val) := by decide +kernel
  have h := this ⟨c.toNat, UInt8.toNat_lt c⟩
  simpa using h
theorem sItoa_in {n : Int} (h : inI n = true) : sItoa n = some (text (dig n)) := if_pos h
theorem digits_ok {n : Int} (h : inI n = true) : digits_d n = some (text (dig n)) := by
  unfold digits_d digits_b
  rw [sItoa_in h]
  rfl
theorem sInt_ok {l : List UInt8} (hl : l.length ≤ lim) : sInt_d (text l) = some (intV l) := by
  -- what stands behind the sign
  have core : ∀ (d : List UInt8) (v : Int), d.length ≤ lim → (1 ≤ d.length → d.length ≤ 18 → d.all isDig = true → Lib.atoiAll l = .ok v ∧ small18 v = true) → (∀ n, intOf l = some n → 1 ≤ d.length ∧ d.length ≤ 18 ∧ d.all isDig = true ∧ n = v) →
      (cond (decide (((text d).size : Int) < (1 : Int))) (some ((0, false) : Int × Bool)) (
        cond (decide (((text d).size : Int) > (18 : Int))) (some (0, false)) (
          Option.bind (sTrim (text d) (text [48, 49, 50, 51, 52, 53, 54, 55, 56, 57])) fun y3 =>
          cond (!(ByteArray.toList y3 == ByteArray.toList (text []))) (some (0, false)) (
            Option.bind (sAtoi (text l)) fun y4 =>
            if (PV.one y4.2) = true then
              Option.bind (PV.asNil y4.2) fun b5 =>
              cond (!b5) (some (0, false)) (
                Option.bind (digits_d y4.1) fun y6 =>
                cond (!(ByteArray.toList y6 == ByteArray.toList (text l))) (some (0, false)) (some (y4.1, true)))
            else none)))) = some (intV l) := by
    intro d v hd h1 h2
    have no : (¬ (1 ≤ d.length ∧ d.length ≤ 18 ∧ d.all isDig = true)) → some ((0, false) : Int × Bool) = some (intV l) := by
      intro h
      unfold intV
      cases hi : intOf l with
      | none => rfl
      | some n => obtain ⟨a, b, c, _⟩ := h2 n hi; exact absurd ⟨a, b, c⟩ h
    rw [text_size]
    by_cases c1 : d.length < 1
    · rw [decide_eq_true (by omega), cond_true]; exact no fun h => by omega
    rw [decide_eq_false (by omega), cond_false]
    by_cases c2 : 18 < d.length
    · rw [decide_eq_true (by omega), cond_true]; exact no fun h => by omega
    rw [decide_eq_false (by omega), cond_false]
    have ht : sTrim (text d) (text [48, 49, 50, 51, 52, 53, 54, 55, 56, 57]) = some (text (Lib.trimS d [48, 49, 50, 51, 52, 53, 54, 55, 56, 57])) := by
      unfold sTrim
      rw [if_pos ⟨by rw [text_size]; exact hd, by rw [text_size]; decide, by rw [text_data]; decide⟩, text_data, text_data]
    rw [ht, Option.bind_some, text_toList, text_toList, beq_list]
    by_cases c3 : d.all isDig = true
    · have e : Lib.trimS d [48, 49, 50, 51, 52, 53, 54, 55, 56, 57] = [] := trimS_nil.2 fun c hc => by rw [dig_set]; exact List.all_eq_true.1 c3 c hc
      rw [decide_eq_true e]
      obtain ⟨h3, h4⟩ := h1 (by omega) (by omega) c3
      have ha : sAtoi (text l) = some (v, .nilif) := by
        unfold sAtoi
        rw [if_pos (by rw [text_size]; exact hl), text_data, h3]
      rw [ha]
      simp only [Option.bind_some, Bool.not_true, cond_false, PV.one, PV.asNil, if_true]
      rw [digits_ok (small18_inI h4), Option.bind_some, text_toList, text_toList, beq_list]
      unfold intV
      by_cases c4 : dig v = l
      · rw [decide_eq_true c4]
        have := intOf_dig (small18_inI h4)
        rw [c4, h4, if_pos rfl] at this
        rw [this]
        rfl
      · rw [decide_eq_false c4]
        cases hi : intOf l with
        | none => rfl
        | some n =>
          obtain ⟨_, _, _, rfl⟩ := h2 n hi
          exact absurd (dig_intOf hi).1 c4
    · have e : Lib.trimS d [48, 49, 50, 51, 52, 53, 54, 55, 56, 57] ≠ [] := fun e => c3 (List.all_eq_true.2 fun c hc => by rw [← dig_set]; exact trimS_nil.1 e c hc)
      rw [decide_eq_false e]
      exact no fun h => c3 h.2.2
  unfold sInt_d sInt_b
  rw [show (ByteArray.mk #[45]) = text [45] from rfl, show (ByteArray.mk #[48, 49, 50, 51, 52, 53, 54, 55, 56, 57]) = text [48, 49, 50, 51, 52, 53, 54, 55, 56, 57] from rfl, mk_nil, trimPre_ok, Option.bind_some]
  by_cases hm : ∃ d, l = 45 :: d
  · obtain ⟨d, rfl⟩ := hm
    rw [show ([45] : List UInt8).isPrefixOf (45 :: d) = true by simp, if_pos rfl]
    refine core d (-(valOf d : Int)) (by simp at hl; omega) (fun h1 h2 h3 => ?_) fun n hn => ?_
    · refine ⟨(atoi_digits (by intro e; rw [e] at h1; simp at h1) h2 h3).2, ?_⟩
      have := valOf_lt d h3
      have h6 : 10 ^ d.length ≤ 10 ^ 18 := Nat.pow_le_pow_right (by omega) h2
      simp only [small18, decide_eq_true_eq]
      omega
    · rw [intOf_minus] at hn
      split at hn
      · rename_i h; cases hn; exact ⟨h.1, h.2.1, h.2.2.1, rfl⟩
      · cases hn
  · have hh : l.head? ≠ some 45 := by
      cases l with
      | nil => simp
      | cons b d => simp only [List.head?_cons, ne_eq, Option.some.injEq]; rintro rfl; exact hm ⟨d, rfl⟩
    have hp : ([45] : List UInt8).isPrefixOf l = false := by
      cases l with
      | nil => rfl
      | cons b d =>
        simp only [List.head?_cons, ne_eq, Option.some.injEq] at hh
        have : ((45 : UInt8) == b) = false := by simpa using fun e : (45 : UInt8) = b => hh e.symm
        simp only [List.isPrefixOf, this, Bool.false_and]
    rw [hp, if_neg (by simp)]
    refine core l (valOf l : Int) hl (fun h1 h2 h3 => ?_) fun n hn => ?_
    · refine ⟨(atoi_digits (by intro e; rw [e] at h1; simp at h1) h2 h3).1, ?_⟩
      have := valOf_lt l h3
      have h6 : 10 ^ l.length ≤ 10 ^ 18 := Nat.pow_le_pow_right (by omega) h2
      simp only [small18, decide_eq_true_eq]
      omega
    · rw [intOf_plain hh] at hn
      split at hn
      · rename_i h; cases hn; exact ⟨h.1, h.2.1, h.2.2.1, rfl⟩
      · cases hn

/-! Words. -/
theorem wordsS_rounds {R : Type} {W : List ByteArray} (hW : W.length ≤ lim + 1) (k0 : List (List PV) → Option R) : ∀ (rest pre out : List ByteArray) (n : Nat), W = pre ++ rest → out.length ≤ pre.length → rest.length < n →
    wordsS_l3 n (sRow W) (W.length : Int) (pre.length : Int) (sRow out) k0 = k0 (sRow (out ++ rest.filter fun s => !s.data.toList.isEmpty))
  | [], pre, out, n, hw, ho, hn => by
    obtain ⟨m, rfl⟩ : ∃ m, n = m + 1 := ⟨n - 1, by omega⟩
    simp at hw
    subst hw
    unfold wordsS_l3
    rw [decide_eq_false (by omega), cond_false]
    simp
  | s :: rest, pre, out, n, hw, ho, hn => by
    obtain ⟨m, rfl⟩ : ∃ m, n = m + 1 := ⟨n - 1, by omega⟩
    have hlen : W.length = pre.length + (rest.length + 1) := by rw [hw]; simp
    unfold lim at hW
    have ih := fun out' ho' => wordsS_rounds (by unfold lim; omega) k0 rest (pre ++ [s]) out' m (by rw [hw]; simp) ho' (by simp at hn; omega)
    unfold wordsS_l3
    have hidx : idx (sRow W) (pre.length : Int) = some [PV.str s] := by rw [hw]; exact idx_sRow pre s rest
    rw [decide_eq_true (by omega), cond_true, hidx]
    simp only [Option.bind_some, List.length_singleton, if_true, List.getElem?_cons_zero, PV.asS, mk_nil, text_toList, bytes_toList, text_data]
    rw [wrapN (by omega) (by omega)]
    have e1 : ((pre.length : Int) + 1) = ((pre ++ [s]).length : Int) := by simp
    rw [e1]
    cases hs : s.data.toList.isEmpty with
    | true =>
      have : (s.data.toList == []) = true := by rw [List.isEmpty_iff.1 hs]; rfl
      rw [this]
      simp only [Bool.not_true, cond_false]
      rw [ih out (by simp; omega), List.filter_cons_of_neg (by simp [hs])]
    | false =>
      have : (s.data.toList == []) = false := by
        cases hl : s.data.toList with
        | nil => rw [hl] at hs; cases hs
        | cons => rfl
      rw [this]
      simp only [Bool.not_false, cond_true]
      rw [if_pos (by rw [sRow_length]; unfold maxBytes; omega)]
      have e2 : sRow out ++ [[PV.str s]] = sRow (out ++ [s]) := by rw [sRow_append]; rfl
      rw [e2, ih (out ++ [s]) (by simp; omega), List.filter_cons_of_pos (by simp [hs])]
      simp
theorem words_text (l : List UInt8) : ((splitOn 32 l).map text).filter (fun s => !s.data.toList.isEmpty) = (words l).map text := by
  unfold words
  rw [List.filter_map]
  congr 1
theorem wordsS_ok : ∀ (s1 : ByteArray) (y : List (List PV)), sWords s1 = some y → ∃ n, ∀ (R : Type) (k : List (List PV) → Option R), wordsS_b n s1 k = k y := by
  intro s y h
  unfold sWords at h
  split at h
  case isFalse => cases h
  rename_i hs
  cases h
  refine ⟨s.size + 3, fun R k => ?_⟩
  unfold wordsS_b
  have h1 : sSplit s (ByteArray.mk #[32]) = some (sRow ((splitOn 32 s.data.toList).map text)) := by unfold sSplit; rw [if_pos ⟨hs, rfl⟩]
  rw [h1, Option.bind_some, sRow_length]
  have hlen := splitOn_length 32 s.data.toList
  rw [size_data] at hlen
  have := wordsS_rounds (W := (splitOn 32 s.data.toList).map text) (by simp; omega) k ((splitOn 32 s.data.toList).map text) [] [] (s.size + 3) rfl (by simp) (by simp; omega)
  simp only [List.length_nil, sRow, List.map_nil, List.nil_append] at this
  rw [show sRow ((splitOn 32 s.data.toList).map text) = List.map (fun s => [PV.str s]) ((splitOn 32 s.data.toList).map text) from rfl]
  refine this.trans ?_
  congr 1
  rw [words_text]
  rfl
theorem wordsS_no : ∀ (s1 : ByteArray) (y : List (List PV)), sWords s1 = some y → (noMem (wordsS_E y).1 && noMemL (wordsS_E y).2) = true := by
  intro s y h
  unfold sWords at h
  split at h
  case isFalse => cases h
  cases h
  simp [wordsS_E, noMem, noMemL, noMem_sRow]
end Go.Proofs.YtkeklbicmfhemabGreatDoorV
