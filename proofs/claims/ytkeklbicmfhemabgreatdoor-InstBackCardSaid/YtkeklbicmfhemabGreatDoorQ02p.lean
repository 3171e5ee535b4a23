/- Words and digits: plain. -/
import Derived.Test.YtkeklbicmfhemabGreatDoorQ02
namespace Go.Proofs.YtkeklbicmfhemabGreatDoorV
open Go
set_option maxRecDepth 20000
set_option linter.unusedSimpArgs false

/-! Texts. -/
theorem intV_bad {l : List UInt8} {c : UInt8} (hc : c ∈ l) (h1 : isDig c = false) (h2 : c ≠ 45) : intV l = (0, false) := by
  unfold intV
  cases h : intOf l with
  | none => rfl
  | some n =>
    exfalso
    obtain ⟨e, hn⟩ := dig_intOf h
    rcases dig_chars (small18_inI hn) c (e ▸ hc) with h' | h'
    · rw [h1] at h'; cases h'
    · exact h2 h'
theorem intV_dig {n : Int} (h : inI n = true) : intV (dig n) = if small18 n = true then (n, true) else (0, false) := by
  unfold intV
  rw [intOf_dig h]
  cases small18 n <;> rfl
theorem dig_pos {n : Int} (h : inI n = true) (h0 : 0 ≤ n) : dig n = Lib.decDigits n.natAbs := by
  unfold dig
  rw [if_neg (by omega), decL_dec h]
theorem dig_neg {n : Int} (h : inI n = true) (h0 : n < 0) : dig n = 45 :: Lib.decDigits n.natAbs := by
  unfold dig
  rw [if_pos h0, decL_dec h]
theorem dec_init {u : Nat} (h : 9 < u) : Lib.decDigits u = Lib.decDigits (u / 10) ++ [UInt8.ofNat (48 + u % 10)] := by
  rw [Lib.decDigits.eq_1 u, dif_neg (by omega)]
theorem tdiv10 {n : Int} (h : inI n = true) : inI (Int.tdiv n 10) = true ∧ (Int.tdiv n 10).natAbs = n.natAbs / 10 ∧ (0 ≤ n → 0 ≤ Int.tdiv n 10) ∧ (n < -9 → Int.tdiv n 10 < 0) := by
  have h' := (inI_iff n).1 h
  have e1 := Int.tmod_add_mul_tdiv n 10
  have e2 := Int.natAbs_tmod n 10
  have e3 : (Int.tdiv n 10).natAbs = n.natAbs / 10 := Int.natAbs_tdiv n 10
  have e2' : (Int.tmod n 10).natAbs = n.natAbs % 10 := e2
  refine ⟨(inI_iff _).2 (by omega), e3, fun h => ?_, fun h => ?_⟩
  · exact Int.tdiv_nonneg h (by omega)
  · omega
theorem dig_init {n : Int} (h : inI n = true) (h9 : 9 < n.natAbs) : dig n = dig (Int.tdiv n 10) ++ [UInt8.ofNat (48 + n.natAbs % 10)] := by
  obtain ⟨t1, t2, t3, t4⟩ := tdiv10 h
  by_cases h0 : 0 ≤ n
  · rw [dig_pos h h0, dig_pos t1 (t3 h0), t2, dec_init h9]
  · rw [dig_neg h (by omega), dig_neg t1 (t4 (by omega)), t2, dec_init h9]
    rfl
theorem dig_but_last {n : Int} (h : inI n = true) (h9 : 9 < n.natAbs) : (text (dig n)).extract 0 (Int.toNat (((dig n).length : Int) - 1)) = text (dig (Int.tdiv n 10)) := by
  have hl := dig_length h
  rw [text_extract, List.drop_zero, show Int.toNat (((dig n).length : Int) - 1) = (dig n).length - 1 by omega]
  congr 1
  conv => lhs; rw [dig_init h h9]
  simp

theorem sWords_at {l : List UInt8} (hl : l.length ≤ lim) : sWords (ByteArray.mk l.toArray) = some (sRow ((words l).map text)) := by
  rw [mk_text]
  unfold sWords
  rw [text_size, if_pos hl, text_data]
theorem sWords_text {l : List UInt8} (hl : l.length ≤ lim) : sWords (text l) = some (sRow ((words l).map text)) := sWords_at hl
theorem mk_toList (l : List UInt8) : ByteArray.toList (ByteArray.mk l.toArray) = l := text_toList l
/-! Words. -/
theorem splitOn_join (c : UInt8) (b : List UInt8) : ∀ a : List UInt8, splitOn c (a ++ c :: b) = splitOn c a ++ splitOn c b
  | [] => by rw [List.nil_append, splitOn_same]; rfl
  | x :: a => by
    have ih := splitOn_join c b a
    by_cases h : x = c
    · subst h
      rw [List.cons_append, splitOn_same, splitOn_same, ih]
      rfl
    · rw [List.cons_append, splitOn_byte h, splitOn_byte h, ih]
      cases hs : splitOn c a with
      | nil => exact absurd hs (splitOn_ne c a)
      | cons w ws => rfl
theorem words_join (a b : List UInt8) : words (a ++ 32 :: b) = words a ++ words b := by
  unfold words
  rw [splitOn_join, List.filter_append]
theorem words_blank (b : List UInt8) : words (32 :: b) = words b := by
  have := words_join [] b
  exact this
theorem splitOn_none {c : UInt8} : ∀ {w : List UInt8}, (∀ b ∈ w, b ≠ c) → splitOn c w = [w]
  | [], _ => rfl
  | x :: w, h => by
    rw [splitOn_byte (h x (by simp)), splitOn_none (fun b hb => h b (by simp [hb]))]
theorem words_mem {l w : List UInt8} (h : w ∈ words l) : w ≠ [] ∧ (∀ b ∈ w, b ≠ 32) ∧ w.length ≤ l.length := by
  unfold words at h
  obtain ⟨h1, h2⟩ := List.mem_filter.1 h
  have := splitOn_bytes 32 l w h1
  refine ⟨?_, this⟩
  rintro rfl
  simp at h2
theorem words_one {w : List UInt8} (h0 : w ≠ []) (h : ∀ b ∈ w, b ≠ 32) : words w = [w] := by
  unfold words
  rw [splitOn_none h, List.filter_cons_of_pos]
  · rfl
  · cases w with
    | nil => exact absurd rfl h0
    | cons => rfl
def sumLen (ws : List (List UInt8)) : Nat := (ws.map List.length).sum
theorem splitOn_sum (c : UInt8) : ∀ l : List UInt8, sumLen (splitOn c l) + l.count c = l.length
  | [] => by simp [splitOn, sumLen]
  | x :: l => by
    have ih := splitOn_sum c l
    by_cases h : x = c
    · subst h
      rw [splitOn_same, List.count_cons_self]
      simp only [sumLen, List.map_cons, List.sum_cons, List.length_nil, List.length_cons] at ih ⊢
      omega
    · rw [splitOn_byte h, List.count_cons_of_ne h]
      cases hs : splitOn c l with
      | nil => exact absurd hs (splitOn_ne c l)
      | cons w ws =>
        rw [hs] at ih
        simp only [sumLen, List.map_cons, List.sum_cons, List.length_cons] at ih ⊢
        omega
theorem splitOn_count (c : UInt8) : ∀ l : List UInt8, (splitOn c l).length = l.count c + 1
  | [] => by simp [splitOn]
  | x :: l => by
    have ih := splitOn_count c l
    by_cases h : x = c
    · subst h
      rw [splitOn_same, List.count_cons_self, List.length_cons, ih]
    · rw [splitOn_byte h, List.count_cons_of_ne h]
      cases hs : splitOn c l with
      | nil => exact absurd hs (splitOn_ne c l)
      | cons w ws =>
        rw [hs] at ih
        simpa using ih
theorem filter_sum : ∀ ws : List (List UInt8), sumLen (ws.filter fun w => !w.isEmpty) = sumLen ws
  | [] => rfl
  | [] :: ws => by
    rw [List.filter_cons_of_neg (by simp)]
    simpa [sumLen] using filter_sum ws
  | (x :: w) :: ws => by
    have := filter_sum ws
    rw [List.filter_cons_of_pos (by simp)]
    simp only [sumLen, List.map_cons, List.sum_cons] at this ⊢
    omega
theorem words_sum (l : List UInt8) : sumLen (words l) + l.count 32 = l.length := by
  unfold words
  rw [filter_sum]
  exact splitOn_sum 32 l
theorem words_length (l : List UInt8) : (words l).length ≤ l.length + 1 := Nat.le_trans (List.length_filter_le _ _) (splitOn_length 32 l)
theorem words_room (l : List UInt8) : sumLen (words l) + (words l).length ≤ l.length + 1 := by
  have h1 := words_sum l
  have h2 := splitOn_count 32 l
  have h3 : (words l).length ≤ (splitOn 32 l).length := List.length_filter_le _ _
  omega

def wordOk (w : List UInt8) : Prop := w ≠ [] ∧ (∀ b ∈ w, b ≠ 32) ∧ w.length ≤ lim
/-! ScanBack. -/
/-- What a text adds to every text behind it. -/
def adds (t : List UInt8) (E : List (List UInt8)) : Prop := ∀ x, words (t ++ x) = E ++ words x
theorem adds_nil : adds [] [] := fun _ => rfl
theorem adds_blank {t : List UInt8} {E : List (List UInt8)} (h : adds t E) : adds (t ++ [32]) E := fun x => by
  rw [List.append_assoc, h]
  exact congrArg (E ++ ·) (words_blank x)
theorem adds_word {t w : List UInt8} {E : List (List UInt8)} (h : adds t E) (h0 : w ≠ []) (h1 : ∀ b ∈ w, b ≠ 32) : adds (t ++ (w ++ [32])) (E ++ [w]) := fun x => by
  rw [List.append_assoc, h, List.append_assoc, List.append_assoc]
  refine congrArg (E ++ ·) ?_
  show words (w ++ 32 :: x) = _
  rw [words_join, words_one h0 h1]
theorem adds_all {t : List UInt8} {E : List (List UInt8)} (h : adds t E) : words t = E := by
  have := h []
  simpa [words, splitOn] using this
theorem adds_blanks {t : List UInt8} {E : List (List UInt8)} (h : adds t E) : ∀ c : Nat, adds (t ++ List.replicate c 32) E
  | 0 => by simpa using h
  | c + 1 => by
    rw [show List.replicate (c + 1) (32 : UInt8) = [32] ++ List.replicate c 32 from rfl, ← List.append_assoc]
    exact adds_blanks (adds_blank h) c
/-- Numbers behind a word. -/
def tailW (ns : List Int) : List UInt8 := (ns.map fun n => 32 :: dig n).flatten
theorem tailW_len {ns : List Int} (h : ∀ n ∈ ns, inI n = true) : (tailW ns).length ≤ 21 * ns.length := by
  induction ns with
  | nil => simp [tailW]
  | cons n ns ih =>
    have h1 := dig_length (h n (by simp))
    have h2 := ih fun m hm => h m (by simp [hm])
    simp only [tailW, List.map_cons, List.flatten_cons, List.length_append, List.length_cons] at h2 ⊢
    omega
/-! Lines as words. -/
theorem dig_word {n : Int} (h : inI n = true) : dig n ≠ [] ∧ ∀ b ∈ dig n, b ≠ 32 := by
  have hl := dig_length h
  refine ⟨fun e => by rw [e] at hl; simp at hl, fun b hb e => ?_⟩
  subst e
  rcases dig_chars h 32 hb with h' | h'
  · revert h'; decide
  · revert h'; decide
theorem words_line : ∀ {w : List UInt8} {ns : List Int}, w ≠ [] → (∀ b ∈ w, b ≠ 32) → (∀ n ∈ ns, inI n = true) → words (w ++ tailW ns) = w :: ns.map dig
  | w, [], h0, h1, _ => by
    simp only [tailW, List.map_nil, List.flatten_nil, List.append_nil]
    exact words_one h0 h1
  | w, n :: ns, h0, h1, h => by
    obtain ⟨d0, d1⟩ := dig_word (h n (by simp))
    have ih := words_line (ns := ns) d0 d1 fun m hm => h m (by simp [hm])
    have e : w ++ tailW (n :: ns) = w ++ 32 :: (dig n ++ tailW ns) := by simp [tailW]
    rw [e, words_join, words_one h0 h1, ih]
    rfl
/-- Words with a blank between. -/
def joinB : List (List UInt8) → List UInt8
  | [] => []
  | x :: r => x ++ (r.map fun y => 32 :: y).flatten
theorem join_blank (ws : List (List UInt8)) : Lib.join ws [32] = joinB ws := by
  cases ws with
  | nil => rfl
  | cons x r => rw [Lib.join_cons]; rfl
theorem joinB_digs (w : List UInt8) (ns : List Int) : joinB (w :: ns.map dig) = w ++ tailW ns := by
  simp [joinB, tailW, List.map_map, Function.comp_def]
theorem joinB_len (ws : List (List UInt8)) : (joinB ws).length + 1 = sumLen ws + ws.length ∨ ws = [] := by
  cases ws with
  | nil => exact .inr rfl
  | cons x r =>
    refine .inl ?_
    have h : ∀ r : List (List UInt8), (r.map fun y => 32 :: y).flatten.length = sumLen r + r.length := by
      intro r
      induction r with
      | nil => rfl
      | cons y r ih => simp only [List.map_cons, List.flatten_cons, List.length_append, ih, List.length_cons, sumLen, List.sum_cons]; omega
    simp only [joinB, List.length_append, h, sumLen, List.map_cons, List.sum_cons, List.length_cons]
    omega
/-- Words as numbers, if each is one. -/
def numsV : List (List UInt8) → Option (List Int)
  | [] => some []
  | w :: ws => if (intV w).2 = true then (numsV ws).bind fun ns => some ((intV w).1 :: ns) else none
theorem numsV_dig : ∀ {ns : List Int}, (∀ n ∈ ns, inI n = true) → numsV (ns.map dig) = if ns.all small18 = true then some ns else none
  | [], _ => rfl
  | n :: ns, h => by
    rw [List.map_cons, numsV, intV_dig (h n (by simp)), numsV_dig fun m hm => h m (by simp [hm]), List.all_cons]
    cases small18 n with
    | false => simp
    | true => cases ns.all small18 <;> simp
theorem numsV_inv : ∀ {ws : List (List UInt8)} {ns : List Int}, numsV ws = some ns → ws = ns.map dig ∧ ∀ n ∈ ns, inI n = true
  | [], ns, h => by cases h; exact ⟨rfl, by simp⟩
  | w :: ws, ns, h => by
    rw [numsV] at h
    split at h
    case isFalse => cases h
    rename_i hv
    obtain ⟨ms, h1, h2⟩ := bind_inv h
    cases h2
    obtain ⟨e, hi⟩ := numsV_inv h1
    unfold intV at hv ⊢
    cases hw : intOf w with
    | none => rw [hw] at hv; cases hv
    | some n =>
      obtain ⟨d1, d2⟩ := dig_intOf hw
      refine ⟨by rw [List.map_cons, d1, ← e], fun m hm => ?_⟩
      rcases List.mem_cons.1 hm with rfl | hm
      · exact small18_inI d2
      · exact hi m hm
theorem bind_at {α β : Type} {o o' : Option α} (h : o = o') (f : α → Option β) : Option.bind o f = Option.bind o' f := by rw [h]
/-! Cut and joined. -/
theorem cutAt_length (c : UInt8) : ∀ l : List UInt8, (cutAt c l).1.length ≤ l.length ∧ (cutAt c l).2.1.length ≤ l.length
  | [] => by simp [cutAt]
  | b :: l => by
    have := cutAt_length c l
    unfold cutAt
    split
    · simp
    · simp; omega
theorem cutAt_short {c : UInt8} : ∀ {l : List UInt8}, (cutAt c l).2.2 = true → (cutAt c l).2.1.length < l.length
  | [], h => by simp [cutAt] at h
  | b :: l, h => by
    unfold cutAt at h ⊢
    split at h
    · rename_i hb; rw [if_pos hb]; simp
    · rename_i hb
      rw [if_neg hb]
      have := cutAt_short h
      simp
      omega
theorem sCut_one {l : List UInt8} (c : UInt8) (h : l.length ≤ lim) : sCut (text l) (ByteArray.mk #[c]) = some (text (cutAt c l).1, text (cutAt c l).2.1, (cutAt c l).2.2) := by
  unfold sCut
  rw [text_size, if_pos h, text_data, ← cut_one]
theorem sJoin_blank {ws : List (List UInt8)} (h1 : ws.length ≤ 140737488355328) (h2 : (joinB ws).length ≤ 140737488355328) : sJoin (sRow (ws.map text)) (ByteArray.mk #[32]) = some (text (joinB ws)) := by
  have hmap : (ws.map text).map (fun s : ByteArray => s.data.toList) = ws := by
    rw [List.map_map, show ((fun w : ByteArray => w.data.toList) ∘ text) = id from funext fun l => text_data l, List.map_id]
  unfold sJoin
  rw [unS_row, Option.bind_some, hmap, show (ByteArray.mk #[32]).data.toList = [32] from rfl, join_blank, if_pos ⟨by simp; omega, h2⟩]
theorem cutAt_line {c : UInt8} : ∀ {a : List UInt8} (b : List UInt8), (∀ x ∈ a, x ≠ c) → cutAt c (a ++ c :: b) = (a, b, true)
  | [], b, _ => by simp [cutAt]
  | x :: a, b, h => by
    rw [List.cons_append, cutAt, cutAt_line b fun y hy => h y (by simp [hy]), if_neg (h x (by simp))]
end Go.Proofs.YtkeklbicmfhemabGreatDoorV
