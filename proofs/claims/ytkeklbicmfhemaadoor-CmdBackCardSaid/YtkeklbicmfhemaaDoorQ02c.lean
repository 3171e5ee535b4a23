/- Chapter 2: the laws of words. -/
import Derived.Test.YtkeklbicmfhemaaDoorQ02b
namespace Go.Proofs.YtkeklbicmfhemaaDoorV
open Go
set_option maxRecDepth 20000
set_option linter.unusedSimpArgs false

/-! Words. -/
theorem splitOn_join (c : UInt8) (b : List UInt8) : ∀ a : List UInt8, splitOn c (a ++ c :: b) = splitOn c a ++ splitOn c b
  | [] => by rw [List.nil_append, splitOn_same]; rfl
  | x :: a => by
    have ih := splitOn_join c b a
    by_cases h : x = c
    · subst h
      rw [List.cons_append, splitOn_same, splitOn_same, ih]
      rfl
    · rw [List.cons_append, splitOn_byte h, splitOn_byte h, ih]
      cases hs : splitOn c a with
      | nil => exact absurd hs (splitOn_ne c a)
      | cons w ws => rfl
theorem words_join (a b : List UInt8) : words (a ++ 32 :: b) = words a ++ words b := by
  unfold words
  rw [splitOn_join, List.filter_append]
theorem words_blank (b : List UInt8) : words (32 :: b) = words b := by
  have := words_join [] b
  exact this
theorem splitOn_none {c : UInt8} : ∀ {w : List UInt8}, (∀ b ∈ w, b ≠ c) → splitOn c w = [w]
  | [], _ => rfl
  | x :: w, h => by
    rw [splitOn_byte (h x (by simp)), splitOn_none (fun b hb => h b (by simp [hb]))]
theorem words_mem {l w : List UInt8} (h : w ∈ words l) : w ≠ [] ∧ (∀ b ∈ w, b ≠ 32) ∧ w.length ≤ l.length := by
  unfold words at h
  obtain ⟨h1, h2⟩ := List.mem_filter.1 h
  have := splitOn_bytes 32 l w h1
  refine ⟨?_, this⟩
  rintro rfl
  simp at h2
theorem words_one {w : List UInt8} (h0 : w ≠ []) (h : ∀ b ∈ w, b ≠ 32) : words w = [w] := by
  unfold words
  rw [splitOn_none h, List.filter_cons_of_pos]
  · rfl
  · cases w with
    | nil => exact absurd rfl h0
    | cons => rfl
def sumLen (ws : List (List UInt8)) : Nat := (ws.map List.length).sum
theorem splitOn_sum (c : UInt8) : ∀ l : List UInt8, sumLen (splitOn c l) + l.count c = l.length
  | [] => by simp [splitOn, sumLen]
  | x :: l => by
    have ih := splitOn_sum c l
    by_cases h : x = c
    · subst h
      rw [splitOn_same, List.count_cons_self]
      simp only [sumLen, List.map_cons, List.sum_cons, List.length_nil, List.length_cons] at ih ⊢
      omega
    · rw [splitOn_byte h, List.count_cons_of_ne h]
      cases hs : splitOn c l with
      | nil => exact absurd hs (splitOn_ne c l)
      | cons w ws =>
        rw [hs] at ih
        simp only [sumLen, List.map_cons, List.sum_cons, List.length_cons] at ih ⊢
        omega
theorem splitOn_count (c : UInt8) : ∀ l : List UInt8, (splitOn c l).length = l.count c + 1
  | [] => by simp [splitOn]
  | x :: l => by
    have ih := splitOn_count c l
    by_cases h : x = c
    · subst h
      rw [splitOn_same, List.count_cons_self, List.length_cons, ih]
    · rw [splitOn_byte h, List.count_cons_of_ne h]
      cases hs : splitOn c l with
      | nil => exact absurd hs (splitOn_ne c l)
      | cons w ws =>
        rw [hs] at ih
        simpa using ih
theorem filter_sum : ∀ ws : List (List UInt8), sumLen (ws.filter fun w => !w.isEmpty) = sumLen ws
  | [] => rfl
  | [] :: ws => by
    rw [List.filter_cons_of_neg (by simp)]
    simpa [sumLen] using filter_sum ws
  | (x :: w) :: ws => by
    have := filter_sum ws
    rw [List.filter_cons_of_pos (by simp)]
    simp only [sumLen, List.map_cons, List.sum_cons] at this ⊢
    omega
theorem words_sum (l : List UInt8) : sumLen (words l) + l.count 32 = l.length := by
  unfold words
  rw [filter_sum]
  exact splitOn_sum 32 l
theorem words_length (l : List UInt8) : (words l).length ≤ l.length + 1 := Nat.le_trans (List.length_filter_le _ _) (splitOn_length 32 l)
theorem words_room (l : List UInt8) : sumLen (words l) + (words l).length ≤ l.length + 1 := by
  have h1 := words_sum l
  have h2 := splitOn_count 32 l
  have h3 : (words l).length ≤ (splitOn 32 l).length := List.length_filter_le _ _
  omega

/-! ScanJoins. -/
theorem scanJoins_count {R : Type} {l : List UInt8} (hl : l.length ≤ lim) (a b : ByteArray) (sz : Int) (k0 : ByteArray → ByteArray → Int → Int → Option R) : ∀ (rest pre : List UInt8) (n : Nat), l = pre ++ rest → rest.length < n →
    scanJoins_l14 n a b sz (pre.count 32 : Int) (text l) (pre.length : Int) k0 = k0 a b sz (l.count 32 : Int)
  | [], pre, n, hw, hn => by
    obtain ⟨m, rfl⟩ : ∃ m, n = m + 1 := ⟨n - 1, by omega⟩
    simp only [List.append_nil] at hw
    subst hw
    unfold scanJoins_l14
    rw [text_size, decide_eq_false (by omega), cond_false]
  | x :: rest, pre, n, hw, hn => by
    obtain ⟨m, rfl⟩ : ∃ m, n = m + 1 := ⟨n - 1, by omega⟩
    have hlen : l.length = pre.length + (rest.length + 1) := by rw [hw]; simp
    have ih := scanJoins_count hl a b sz k0 rest (pre ++ [x]) m (by rw [hw]; simp) (by simp at hn; omega)
    have hcp : pre.count 32 ≤ pre.length := List.count_le_length
    unfold lim at hl
    unfold scanJoins_l14
    rw [text_size, decide_eq_true (by omega), cond_true, text_data, show idx l (pre.length : Int) = some x by rw [hw]; exact idx_bytes pre x rest, Option.bind_some, show (((x.toNat : Int) == (32 : Int)) : Bool) = (x == 32) from u8_cast x 32, wrapN (n := (pre.length : Int) + 1) (by omega) (by omega), wrapN (by omega) (by omega), show ((pre.length : Int) + 1) = ((pre ++ [x]).length : Int) by simp]
    by_cases h : x = 32
    · subst h
      rw [beq_self_eq_true, cond_true, show ((pre.count 32 : Int) + 1) = ((pre ++ [32]).count 32 : Int) by simp, ih]
    · rw [show (x == 32) = false by simpa using h, cond_false, show (pre.count 32 : Int) = ((pre ++ [x]).count 32 : Int) by simp [List.count_append, List.count_cons, h], ih]
def wordOk (w : List UInt8) : Prop := w ≠ [] ∧ (∀ b ∈ w, b ≠ 32) ∧ w.length ≤ lim
theorem scanJoins_words {R : Type} {W : List (List UInt8)} (hl : W.length ≤ lim) (hs : sumLen W ≤ lim) (hW : ∀ w ∈ W, wordOk w) (a b : ByteArray) (k0 : Bool → Option R) (k1 : ByteArray → ByteArray → Int → Option R) : ∀ (rest pre : List (List UInt8)) (n : Nat), W = pre ++ rest → rest.length < n →
    scanJoins_l6 n a b (sumLen pre : Int) (W.length : Int) (pre.length : Int) (sRow (W.map text)) k0 k1 = k1 a b (sumLen W : Int)
  | [], pre, n, hw, hn => by
    obtain ⟨m, rfl⟩ : ∃ m, n = m + 1 := ⟨n - 1, by omega⟩
    simp only [List.append_nil] at hw
    subst hw
    unfold scanJoins_l6
    rw [decide_eq_false (by omega), cond_false]
  | x :: rest, pre, n, hw, hn => by
    obtain ⟨m, rfl⟩ : ∃ m, n = m + 1 := ⟨n - 1, by omega⟩
    have hlen : W.length = pre.length + (rest.length + 1) := by rw [hw]; simp
    have ih := scanJoins_words hl hs hW a b k0 k1 rest (pre ++ [x]) m (by rw [hw]; simp) (by simp at hn; omega)
    obtain ⟨x1, x2, x3⟩ := hW x (by rw [hw]; simp)
    have hsum : sumLen W = sumLen pre + (x.length + sumLen rest) := by rw [hw]; simp [sumLen]
    have hx : (sRow (W.map text))[Int.toNat (pre.length : Int)]? = some [PV.str (text x)] := by
      rw [hw, Int.toNat_natCast, sRow, List.map_map, List.map_append, List.map_cons, List.getElem?_append_right (by simp)]
      simp
    have hww : sWords (text x) = some (sRow [text x]) := by
      rw [sWords_text x3, words_one x1 x2]
      rfl
    have hne : (x == []) = false := by
      cases x with
      | nil => exact absurd rfl x1
      | cons => rfl
    unfold scanJoins_l6
    rw [decide_eq_true (by omega), cond_true, sRow_length, List.length_map, if_pos (by omega), hx]
    simp only [Option.bind_some, List.getElem?_cons_zero, PV.asS]
    rw [mk_nil, text_toList, text_toList, hne, cond_false, hww, Option.bind_some, show (((sRow [text x]).length : Int) != 1) = false from rfl, cond_false, text_size]
    unfold lim at hl hs
    rw [wrapN (n := (pre.length : Int) + 1) (by omega) (by omega), wrapN (by omega) (by omega), show ((pre.length : Int) + 1) = ((pre ++ [x]).length : Int) by simp, show ((sumLen pre : Int) + (x.length : Int)) = (sumLen (pre ++ [x]) : Int) by simp [sumLen], ih]
theorem scanJoins_ok : ∀ (s1 t2 : ByteArray) (y : Bool), sScanJoins s1 t2 = some y → ∃ n, ∀ (R : Type) (k : Bool → Option R), scanJoins_b n s1 t2 k = k y := by
  intro s t y h
  unfold sScanJoins at h
  split at h
  case isFalse => cases h
  rename_i hh
  cases h
  obtain ⟨a, rfl⟩ : ∃ a, s = text a := ⟨_, (text_of s).symm⟩
  obtain ⟨b, rfl⟩ : ∃ b, t = text b := ⟨_, (text_of t).symm⟩
  rw [text_size, text_size] at hh
  unfold mega at hh
  obtain ⟨ha, hb⟩ := hh
  have hab : (a ++ 32 :: b).length = a.length + (b.length + 1) := by simp
  have hwa := words_length a
  have hwb := words_length b
  have hsum := words_sum (a ++ 32 :: b)
  have hcnt : (a ++ 32 :: b).count 32 = (a ++ b).count 32 + 1 := by simp [List.count_append]; omega
  have hlen : (words (a ++ 32 :: b)).length = (words a).length + (words b).length := by rw [words_join]; simp
  refine ⟨a.length + b.length + 10, fun R k => ?_⟩
  unfold scanJoins_b
  rw [show ByteArray.mk #[32] = text [32] from rfl, text_append, text_append, text_size, text_size, text_size, text_size, if_pos (by simp; omega), if_pos (by simp; omega), show (a ++ [32]) ++ b = a ++ 32 :: b by simp, sWords_text (by rw [hab]; unfold lim; omega), sWords_text (l := a) (by unfold lim; omega), sWords_text (l := b) (by unfold lim; omega)]
  simp only [Option.bind_some]
  rw [if_pos (by rw [sRow_length, sRow_length, List.length_map, List.length_map]; unfold maxBytes; omega), ← sRow_append, ← List.map_append, ← words_join, sSame_of (by rw [List.length_map]; unfold big; omega), Option.bind_some, decide_eq_true rfl, Bool.not_true, cond_false, sRow_length, List.length_map]
  have w := fun k1 => scanJoins_words (R := R) (W := words (a ++ 32 :: b)) (by unfold lim; omega) (by unfold lim; omega) (fun w hw => by
    obtain ⟨h1, h2, h3⟩ := words_mem hw
    exact ⟨h1, h2, by unfold lim; omega⟩) (text a) (text b) k k1 (words (a ++ 32 :: b)) [] (a.length + b.length + 10) rfl (by omega)
  refine (w _).trans ?_
  rw [text_append, text_size, text_size, if_pos (by omega)]
  have c := fun k0 => scanJoins_count (R := R) (l := a ++ b) (by simp; unfold lim; omega) (text a) (text b) (sumLen (words (a ++ 32 :: b)) : Int) k0 (a ++ b) [] (a.length + b.length + 10) rfl (by rw [List.length_append]; omega)
  refine (c _).trans ?_
  have hcl : (a ++ b).count 32 ≤ (a ++ b).length := List.count_le_length
  have hl2 : (a ++ b).length = a.length + b.length := by simp
  rw [text_size, text_size, wrapN (n := (a.length : Int) + b.length) (by omega) (by omega), wrapN (by omega) (by omega), show (((sumLen (words (a ++ 32 :: b)) : Int) + ((a ++ b).count 32 : Int) == (a.length : Int) + (b.length : Int)) : Bool) = true by rw [beq_iff_eq]; omega, cond_true, wakes02_ok]
  rfl

/-! ScanTells. -/
theorem scanTells_rounds {R : Type} (a : Int) {L : List (List UInt8)} (hl : L.length ≤ 100) (hs : ∀ l ∈ L, l.length ≤ 2 * mega) (k0 : Bool → Option R) (k1 : Int → Option R) : ∀ (rest pre : List (List UInt8)) (n : Nat), L = pre ++ rest → rest.length < n →
    scanTells_l2 n a (L.length : Int) (pre.length : Int) (sRow (L.map text)) k0 k1 = k1 a
  | [], pre, n, hw, hn => by
    obtain ⟨m, rfl⟩ : ∃ m, n = m + 1 := ⟨n - 1, by omega⟩
    simp only [List.append_nil] at hw
    subst hw
    unfold scanTells_l2
    rw [decide_eq_false (by omega), cond_false]
  | x :: rest, pre, n, hw, hn => by
    obtain ⟨m, rfl⟩ : ∃ m, n = m + 1 := ⟨n - 1, by omega⟩
    have hlen : L.length = pre.length + (rest.length + 1) := by rw [hw]; simp
    have ih := scanTells_rounds a hl hs k0 k1 rest (pre ++ [x]) m (by rw [hw]; simp) (by simp at hn; omega)
    have hx := hs x (by rw [hw]; simp)
    have hget : (sRow (L.map text))[Int.toNat (pre.length : Int)]? = some [PV.str (text x)] := by
      rw [hw, Int.toNat_natCast, sRow, List.map_map, List.map_append, List.map_cons, List.getElem?_append_right (by simp)]
      simp
    unfold mega at hx
    have hxl : x.length ≤ lim := by unfold lim; omega
    have hi : sRInt (text x) = some (intV x) := by unfold sRInt; rw [text_size, if_pos hxl, text_data]
    have hwl := words_length x
    unfold scanTells_l2
    rw [decide_eq_true (by omega), cond_true, sRow_length, List.length_map, if_pos (by omega), hget]
    simp only [Option.bind_some, List.getElem?_cons_zero, PV.asS, sRWords]
    rw [sInt_ok hxl, hi, sWords_text hxl]
    simp only [Option.bind_some, bne_self_eq_false, cond_false]
    rw [sSame_of (by rw [List.length_map]; unfold big; omega), Option.bind_some, decide_eq_true rfl, Bool.not_true, cond_false, wrapN (by omega) (by omega), show ((pre.length : Int) + 1) = ((pre ++ [x]).length : Int) by simp, ih]
theorem scanTells_ok : ∀ (s1 : ByteArray) (n2 : Int) (y : Bool), sScanTells s1 n2 = some y → ∃ n, ∀ (R : Type) (k : Bool → Option R), scanTells_b n s1 n2 k = k y := by
  intro s n y h
  unfold sScanTells at h
  split at h
  case isFalse => cases h
  rename_i hh
  cases h
  obtain ⟨a, rfl⟩ : ∃ a, s = text a := ⟨_, (text_of s).symm⟩
  rw [text_size] at hh
  obtain ⟨ha, hn⟩ := hh
  have hdl := dig_length hn
  have ha' : a.length ≤ 1048576 := ha
  refine ⟨10, fun R k => ?_⟩
  unfold scanTells_b
  have hd : sRDigits n = some (text (dig n)) := sItoa_in hn
  rw [hd, Option.bind_some, show ByteArray.mk #[45] = text [45] from rfl, show ByteArray.mk #[48] = text [48] from rfl, text_append, text_append, text_size, text_size, text_size, if_pos (by simp; omega), if_pos (by simp; omega)]
  have t := fun k1 => scanTells_rounds (R := R) n (L := [a, dig n, [45] ++ a, a ++ [48]]) (by simp) (fun l hl => by
    unfold mega
    simp only [List.mem_cons, List.not_mem_nil, or_false] at hl
    rcases hl with rfl | rfl | rfl | rfl <;> simp <;> omega) k k1 [a, dig n, [45] ++ a, a ++ [48]] [] 10 rfl (by simp)
  refine (t _).trans ?_
  rw [digits_ok hn, hd, Option.bind_some, Option.bind_some, beq_self_eq_true, cond_true, wakes02_ok]
  rfl

/-! ScanBack. -/
/-- What a text adds to every text behind it. -/
def adds (t : List UInt8) (E : List (List UInt8)) : Prop := ∀ x, words (t ++ x) = E ++ words x
theorem adds_nil : adds [] [] := fun _ => rfl
theorem adds_blank {t : List UInt8} {E : List (List UInt8)} (h : adds t E) : adds (t ++ [32]) E := fun x => by
  rw [List.append_assoc, h]
  exact congrArg (E ++ ·) (words_blank x)
theorem adds_word {t w : List UInt8} {E : List (List UInt8)} (h : adds t E) (h0 : w ≠ []) (h1 : ∀ b ∈ w, b ≠ 32) : adds (t ++ (w ++ [32])) (E ++ [w]) := fun x => by
  rw [List.append_assoc, h, List.append_assoc, List.append_assoc]
  refine congrArg (E ++ ·) ?_
  show words (w ++ 32 :: x) = _
  rw [words_join, words_one h0 h1]
theorem adds_all {t : List UInt8} {E : List (List UInt8)} (h : adds t E) : words t = E := by
  have := h []
  simpa [words, splitOn] using this
theorem scanBack_blanks {R : Type} {l : List (List PV)} {k i : Int} {E : List (List PV)} (k0 : List (List PV) → Int → ByteArray → Int → List (List PV) → Option R) (b : Int) (hb : 0 ≤ b ∧ b < 3) (he : (Option.bind (within_d k 3) fun y => some (Int.tmod (IntKind.i64.wrap (y + i)) 3)) = some b) : ∀ (f : Nat) (t : List UInt8) (j : Int) (n : Nat), 0 ≤ j → b - j ≤ f → t.length + f < lim → f < n →
    ∃ c : Nat, c ≤ f ∧ scanBack_l13 n l k (text t) i j E k0 = k0 l k (text (t ++ List.replicate c 32)) i E
  | f, t, j, n, h0, hf, ht, hn => by
    obtain ⟨m, rfl⟩ : ∃ m, n = m + 1 := ⟨n - 1, by omega⟩
    obtain ⟨y, hy, e⟩ := Option.bind_eq_some_iff.1 he
    have e' := Option.some.inj e
    unfold scanBack_l13
    rw [hy, Option.bind_some, e']
    by_cases hj : j < b
    · cases f with
      | zero => omega
      | succ f =>
        rw [decide_eq_true hj, cond_true, show ByteArray.mk #[32] = text [32] from rfl, text_append, text_size, text_size]
        unfold lim at ht
        rw [if_pos (by simp; omega), wrapN (by omega) (by omega)]
        obtain ⟨c, hc, hr⟩ := scanBack_blanks k0 b hb he f (t ++ [32]) (j + 1) m (by omega) (by omega) (by unfold lim; simp; omega) (by omega)
        refine ⟨c + 1, by omega, hr.trans ?_⟩
        rw [List.append_assoc, List.replicate_succ]
        rfl
    · rw [decide_eq_false hj, cond_false]
      exact ⟨0, Nat.zero_le _, by simp⟩
theorem adds_blanks {t : List UInt8} {E : List (List UInt8)} (h : adds t E) : ∀ c : Nat, adds (t ++ List.replicate c 32) E
  | 0 => by simpa using h
  | c + 1 => by
    rw [show List.replicate (c + 1) (32 : UInt8) = [32] ++ List.replicate c 32 from rfl, ← List.append_assoc]
    exact adds_blanks (adds_blank h) c
theorem scanBack_words {R : Type} {l : List (List PV)} {k i : Int} {W : List (List UInt8)} (hl : W.length ≤ lim) (hW : ∀ w ∈ W, w ≠ [] ∧ ∀ b ∈ w, b ≠ 32) (k0 : List (List PV) → Int → ByteArray → Int → List (List PV) → Option R) : ∀ (rest pre : List (List UInt8)) (t : List UInt8) (E : List (List UInt8)) (n : Nat), W = pre ++ rest → rest.length < n → adds t E → t.length + sumLen rest + rest.length ≤ lim → E.length + rest.length ≤ lim →
    ∃ (t' : List UInt8) (E' : List (List UInt8)), adds t' E' ∧ t'.length = t.length + sumLen rest + rest.length ∧ E'.length = E.length + rest.length ∧
    scanBack_l17 n l k (text t) i (W.length : Int) (pre.length : Int) (sRow (E.map text)) (sRow (W.map text)) k0 = k0 l k (text t') i (sRow (E'.map text))
  | [], pre, t, E, n, hw, hn, hadd, ht, hE => by
    obtain ⟨m, rfl⟩ : ∃ m, n = m + 1 := ⟨n - 1, by omega⟩
    simp only [List.append_nil] at hw
    subst hw
    refine ⟨t, E, hadd, by simp [sumLen], by simp, ?_⟩
    unfold scanBack_l17
    rw [decide_eq_false (by omega), cond_false]
  | x :: rest, pre, t, E, n, hw, hn, hadd, ht, hE => by
    obtain ⟨m, rfl⟩ : ∃ m, n = m + 1 := ⟨n - 1, by omega⟩
    have hlen : W.length = pre.length + (rest.length + 1) := by rw [hw]; simp
    obtain ⟨x1, x2⟩ := hW x (by rw [hw]; simp)
    have hsum : sumLen (x :: rest) = x.length + sumLen rest := by simp [sumLen]
    rw [hsum, List.length_cons] at ht
    rw [List.length_cons] at hE
    have hcat : (t ++ (x ++ [32])).length = t.length + x.length + 1 := by simp; omega
    have hcatE : (E ++ [x]).length = E.length + 1 := by simp
    obtain ⟨t', E', a1, a2, a3, a4⟩ := scanBack_words (l := l) (k := k) (i := i) hl hW k0 rest (pre ++ [x]) (t ++ (x ++ [32])) (E ++ [x]) m (by rw [hw]; simp) (by simp at hn; omega) (adds_word hadd x1 x2) (by omega) (by omega)
    refine ⟨t', E', a1, by rw [a2, hsum, hcat, List.length_cons]; omega, by rw [a3, hcatE, List.length_cons]; omega, ?_⟩
    have hget : (sRow (W.map text))[Int.toNat (pre.length : Int)]? = some [PV.str (text x)] := by
      rw [hw, Int.toNat_natCast, sRow, List.map_map, List.map_append, List.map_cons, List.getElem?_append_right (by simp)]
      simp
    unfold lim at hl ht hE
    unfold scanBack_l17
    rw [decide_eq_true (by omega), cond_true, sRow_length, List.length_map, if_pos (by omega), hget]
    simp only [Option.bind_some, List.getElem?_cons_zero, PV.asS]
    rw [show ByteArray.mk #[32] = text [32] from rfl, text_append, text_size, text_size, text_size, text_size, if_pos (by simp; omega), if_pos (by simp; omega), sRow_length, List.length_map, if_pos (by simp; unfold maxBytes; omega), text_append, wrapN (by omega) (by omega), show ((pre.length : Int) + 1) = ((pre ++ [x]).length : Int) by simp]
    have hrow : sRow (E.map text) ++ [[PV.str (text x)]] = sRow ((E ++ [x]).map text) := by rw [List.map_append, sRow_append]; rfl
    rw [hrow]
    exact a4
theorem mega_is : mega = 1048576 := rfl
theorem scanBack_lines {R : Type} {L : List ByteArray} {k : Int} (hL : L.length ≤ mega) (hs : ∀ s ∈ L, s.size ≤ mega) (k0 : ByteArray → List (List PV) → Option R) : ∀ (rest pre : List ByteArray) (t : List UInt8) (E : List (List UInt8)) (n : Nat), L = pre ++ rest → adds t E → t.length ≤ pre.length * (2 * mega) → E.length ≤ pre.length * (2 * mega) → pre.length ≤ 9 → mega + 20 ≤ n + pre.length →
    ∃ (t' : List UInt8) (E' : List (List UInt8)), adds t' E' ∧ t'.length ≤ 9 * (2 * mega) ∧ E'.length ≤ 9 * (2 * mega) ∧
    scanBack_l9 n (sRow L) k (text t) (pre.length : Int) (sRow (E.map text)) k0 = k0 (text t') (sRow (E'.map text)) := by
  intro rest
  induction rest with
  | nil =>
    intro pre t E n hw hadd ht hE hp hn
    obtain ⟨m, rfl⟩ : ∃ m, n = m + 1 := ⟨n - 1, by omega⟩
    simp only [List.append_nil] at hw
    subst hw
    unfold mega at ht hE
    have w1 : t.length ≤ 9 * (2 * mega) := by have := mega_is; omega
    have w2 : E.length ≤ 9 * (2 * mega) := by have := mega_is; omega
    refine ⟨t, E, hadd, w1, w2, ?_⟩
    unfold scanBack_l9
    rw [sRow_length, decide_eq_false (by omega), cond_false]
  | cons s rest ih =>
    intro pre t E n hw hadd ht hE hp hn
    have hlen : L.length = pre.length + (rest.length + 1) := by rw [hw]; simp
    unfold mega at hL ht hE hn
    obtain ⟨m, rfl⟩ : ∃ m, n = m + 1 := ⟨n - 1, by omega⟩
    unfold scanBack_l9
    rw [sRow_length, decide_eq_true (by omega), cond_true]
    by_cases h9 : pre.length < 9
    · rw [decide_eq_true (by omega), cond_true, show ByteArray.mk #[32] = text [32] from rfl, text_append, text_size, text_size, if_pos (by simp; omega)]
      obtain ⟨y, hy, e⟩ := within_ok k (m := 3) (by omega) (by omega)
      obtain ⟨c, hc, hr⟩ := scanBack_blanks (l := sRow L) (k := k) (i := (pre.length : Int)) (E := sRow (E.map text)) (R := R) (k0 := fun (l13 : List (List PV)) (k14 : Int) (t15 : ByteArray) (i16 : Int) (es17 : List (List PV)) =>
              Option.bind (idx l13 i16) fun e18 =>
              if e18.length = 1 then
                Option.bind (e18[0]?) fun c19 =>
                Option.bind (PV.asS c19) fun s20 =>
                Option.bind (sRWords s20) fun y21 =>
                scanBack_l17 m l13 k14 t15 i16 (y21.length : Int) 0 es17 y21
                  (fun (l22 : List (List PV)) (k23 : Int) (t24 : ByteArray) (i25 : Int) (es26 : List (List PV)) =>
                    scanBack_l9 m l22 k23 t24 (IntKind.i64.wrap (i25 + (1 : Int))) es26 k0)
              else none) (((y + pre.length) % 3 : Nat) : Int) (by omega) (by
          rw [show (3 : Int) = ((3 : Nat) : Int) from rfl, e, Option.bind_some, wrapN (by omega) (by omega), ← Int.natCast_add, Int.tmod_eq_emod_of_nonneg (by omega)]
          rfl) 3 (t ++ [32]) 0 m (by omega) (by omega) (by unfold lim; simp; omega) (by omega)
      rw [hr, hw, idx_sRow pre s rest]
      simp only [Option.bind_some, List.length_singleton, if_true, List.getElem?_cons_zero, PV.asS]
      obtain ⟨a, rfl⟩ : ∃ a, s = text a := ⟨_, (text_of s).symm⟩
      have ha := hs (text a) (by rw [hw]; simp)
      rw [text_size] at ha
      unfold mega at ha
      have hroom := words_room a
      have hrw : sRWords (text a) = some (sRow ((words a).map text)) := sWords_text (by unfold lim; omega)
      rw [hrw, Option.bind_some, sRow_length, List.length_map]
      have hcat : ((t ++ [32]) ++ List.replicate c 32).length = t.length + 1 + c := by simp only [List.length_append, List.length_singleton, List.length_replicate]
      obtain ⟨t', E', a1, a2, a3, a4⟩ := scanBack_words (R := R) (l := sRow (pre ++ text a :: rest)) (k := k) (i := (pre.length : Int)) (W := words a) (by unfold lim; omega) (fun w hw => ⟨(words_mem hw).1, (words_mem hw).2.1⟩) (k0 := fun (l22 : List (List PV)) (k23 : Int) (t24 : ByteArray) (i25 : Int) (es26 : List (List PV)) =>
                    scanBack_l9 m l22 k23 t24 (IntKind.i64.wrap (i25 + (1 : Int))) es26 k0) (words a) [] ((t ++ [32]) ++ List.replicate c 32) E m rfl (by omega) (adds_blanks (adds_blank hadd) c) (by unfold lim; omega) (by unfold lim; omega)
      obtain ⟨t2, E2, b1, b2, b3, b4⟩ := ih (pre ++ [text a]) t' E' m (by rw [hw]; simp) a1 (by rw [a2, hcat]; unfold mega; simp; omega) (by rw [a3]; unfold mega; simp; omega) (by simp; omega) (by unfold mega; simp; omega)
      refine ⟨t2, E2, b1, b2, b3, ?_⟩
      refine a4.trans ?_
      rw [wrapN (by omega) (by omega), show ((pre.length : Int) + 1) = ((pre ++ [text a]).length : Int) by simp, ← hw]
      exact b4
    · rw [decide_eq_false (by omega), cond_false]
      have w1 : t.length ≤ 9 * (2 * mega) := by have := mega_is; omega
      have w2 : E.length ≤ 9 * (2 * mega) := by have := mega_is; omega
      exact ⟨t, E, hadd, w1, w2, rfl⟩
theorem scanBack_q7_ok {R : Type} {L : List ByteArray} {k : Int} (hL : L.length ≤ mega) (hs : ∀ s ∈ L, s.size ≤ mega) (k0 : Bool → Option R) : scanBack_q7 (mega + 30) (sRow L) k k0 = k0 true := by
  unfold scanBack_q7
  have r := fun k1 => scanBack_lines (R := R) (k := k) hL hs k1 L [] [] [] (mega + 30) rfl adds_nil (by simp) (by simp) (by simp) (by simp)
  obtain ⟨t, E, h1, h2, h3, h4⟩ := r _
  refine h4.trans ?_
  unfold mega at h2 h3
  rw [sWords_text (by unfold lim; omega), adds_all h1, Option.bind_some, sSame_of (by rw [List.length_map]; unfold big; omega), Option.bind_some, decide_eq_true rfl, cond_true, wakes02_ok]
  rfl
theorem scanBack_ok : ∀ (n1 : Int) (l2 : List (List PV)) (k3 : Int) (y : Bool), sScanBack n1 l2 k3 = some y → ∃ n, ∀ (R : Type) (k : Bool → Option R), scanBack_b n n1 l2 k3 k = k y := by
  intro n es k y h
  simp only [sScanBack, Option.bind_eq_some_iff] at h
  obtain ⟨L, h1, h2⟩ := h
  split at h2
  case isFalse => cases h2
  rename_i hh
  cases h2
  obtain ⟨hn, hk, hL, hs⟩ := hh
  rw [unS_inv h1]
  refine ⟨mega + 30, fun R k0 => ?_⟩
  have q := scanBack_q7_ok (R := R) (k := k) hL hs k0
  have hdl := dig_length hn
  unfold scanBack_b scanBack_q5
  rw [digits_ok hn, Option.bind_some, sInt_ok (by unfold lim; omega), Option.bind_some, intV_dig hn]
  simp only [q]
  have hsm : small18 n = (decide (-1000000000000000000 < n) && decide (n < 1000000000000000000)) := by
    unfold small18
    rw [Bool.decide_and]
  by_cases c1 : -1000000000000000000 < n <;> by_cases c2 : n < 1000000000000000000 <;> simp [hsm, c1, c2]
end Go.Proofs.YtkeklbicmfhemaaDoorV
