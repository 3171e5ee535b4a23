/- Texts as lists of bytes; numbers as texts; words: plain. -/
import Derived.Test.YtpaifgipdhgfkaaGreatDoorPK
import Derived.Test.YtpaifgipdhgfkaaGreatDoorInt
import Derived.Lib.ItoaNum
import Derived.Lib.AtoiAllCases
import Derived.Lib.IndexMore
import Derived.Lib.SlTrimSet
import Derived.Lib.SplitLaws
import Derived.Lib.Split
import Derived.Lib.Join
namespace Go.Proofs.YtpaifgipdhgfkaaGreatDoorV
open Go

def text (f : List UInt8) : ByteArray := ⟨f.toArray⟩
theorem text_data (l : List UInt8) : (text l).data.toList = l := by simp [text]
theorem text_of (s : ByteArray) : text s.data.toList = s := by cases s; simp [text]
theorem text_size (l : List UInt8) : (text l).size = l.length := by simp [text, ByteArray.size]
theorem size_data (s : ByteArray) : s.data.toList.length = s.size := Array.length_toList
theorem text_inj {a b : List UInt8} (h : text a = text b) : a = b := by
  have := congrArg (fun s => s.data.toList) h
  simpa only [text_data] using this
theorem text_eq (a b : List UInt8) : (text a = text b) = (a = b) := propext ⟨text_inj, fun h => h ▸ rfl⟩
theorem text_toList (l : List UInt8) : (text l).toList = l := by rw [bytes_toList, text_data]
theorem text_append (a b : List UInt8) : text a ++ text b = text (a ++ b) := by
  apply bytes_ext
  simp [text, ByteArray.data_append]
theorem text_extract (l : List UInt8) (i j : Nat) : (text l).extract i j = text ((l.take j).drop i) := by
  apply bytes_ext
  simp [text, ByteArray.data_extract, List.extract_eq_take_drop, List.drop_take]
theorem mk_text (l : List UInt8) : ByteArray.mk l.toArray = text l := rfl
theorem mk_nil : ByteArray.mk #[] = text [] := rfl

/-! Numbers as texts. -/
def decL : Nat → Nat → List UInt8
  | 0, _ => []
  | f + 1, u => if u < 10 then [UInt8.ofNat (48 + u)] else decL f (u / 10) ++ [UInt8.ofNat (48 + u % 10)]
theorem decL_eq : ∀ (f u : Nat), u < 10 ^ f → 0 < f → decL f u = Lib.decDigits u
  | 0, u, _, h => by omega
  | f + 1, u, h, _ => by
    rw [Lib.decDigits]
    unfold decL
    split
    · rfl
    · rename_i h10
      cases f with
      | zero => simp at h; omega
      | succ f =>
        rw [decL_eq (f + 1) (u / 10) (by rw [Nat.pow_succ] at h; omega) (by omega)]
/-- A number's digits, a sign ahead if it is below 0. -/
def dig (n : Int) : List UInt8 := if n < 0 then 45 :: decL 20 n.natAbs else decL 20 n.natAbs
theorem dig_itoa {n : Int} (h : inI n = true) : Lib.itoa n = dig n := by
  simp only [inI, decide_eq_true_eq] at h
  unfold Lib.itoa dig
  split
  · rw [decL_eq 20 _ (by omega) (by omega)]
  · rw [decL_eq 20 _ (by omega) (by omega)]
    congr 1
    omega

def isDig (c : UInt8) : Bool := decide (48 ≤ c.toNat ∧ c.toNat ≤ 57)
def valOf (l : List UInt8) : Nat := l.foldl (fun n c => 10 * n + (c.toNat - 48)) 0
theorem valOf_snoc (l : List UInt8) (c : UInt8) : valOf (l ++ [c]) = 10 * valOf l + (c.toNat - 48) := by simp [valOf]
theorem isDig_iff {c : UInt8} : isDig c = true ↔ 48 ≤ c.toNat ∧ c.toNat ≤ 57 := by simp [isDig]
theorem digit_back {c : UInt8} (h : isDig c = true) : UInt8.ofNat (48 + (c.toNat - 48)) = c := by
  have h := isDig_iff.1 h
  have e : 48 + (c.toNat - 48) = c.toNat := by omega
  rw [e]
  simp
theorem digit_toNat {d : Nat} (h : d < 10) : (UInt8.ofNat (48 + d)).toNat = 48 + d := by
  rw [UInt8.toNat_ofNat']
  omega
theorem digit_is {d : Nat} (h : d < 10) : isDig (UInt8.ofNat (48 + d)) = true := by
  rw [isDig_iff, digit_toNat h]
  omega

/-- A list from its end. -/
theorem snoc_ind {α : Type} {p : List α → Prop} (h0 : p []) (h1 : ∀ l a, p l → p (l ++ [a])) : ∀ l, p l := by
  intro l
  have : ∀ r : List α, p r.reverse := by
    intro r
    induction r with
    | nil => simpa using h0
    | cons a r ih => rw [List.reverse_cons]; exact h1 _ _ ih
  simpa using this l.reverse

theorem valOf_lt (l : List UInt8) : l.all isDig = true → valOf l < 10 ^ l.length := by
  induction l using snoc_ind with
  | h0 => intro _; simp [valOf]
  | h1 l c ih =>
    intro h
    simp only [List.all_append, List.all_cons, List.all_nil, Bool.and_true, Bool.and_eq_true] at h
    have h1 := ih h.1
    have h2 := isDig_iff.1 h.2
    rw [valOf_snoc, List.length_append, List.length_singleton, Nat.pow_succ]
    omega
theorem valOf_pos (l : List UInt8) : l.all isDig = true → l ≠ [] → l.head? ≠ some 48 → 1 ≤ valOf l := by
  induction l using snoc_ind with
  | h0 => intro _ h; exact absurd rfl h
  | h1 l c ih =>
    intro h _ hh
    simp only [List.all_append, List.all_cons, List.all_nil, Bool.and_true, Bool.and_eq_true] at h
    rw [valOf_snoc]
    cases l with
    | nil =>
      simp only [List.nil_append, List.head?_cons, ne_eq, Option.some.injEq] at hh
      have h2 := isDig_iff.1 h.2
      have : c.toNat ≠ 48 := fun e => hh (UInt8.toNat_inj.1 (by rw [e]; rfl))
      omega
    | cons b l =>
      have := ih h.1 (by simp) (by simpa using hh)
      omega
/-- Digits without a 0 ahead are those of their number. -/
theorem dec_val (l : List UInt8) : l.all isDig = true → l ≠ [] → (l.head? ≠ some 48 ∨ l.length = 1) → Lib.decDigits (valOf l) = l := by
  induction l using snoc_ind with
  | h0 => intro _ h; exact absurd rfl h
  | h1 l c ih =>
    intro h _ hh
    simp only [List.all_append, List.all_cons, List.all_nil, Bool.and_true, Bool.and_eq_true] at h
    have h2 := isDig_iff.1 h.2
    rw [valOf_snoc]
    cases l with
    | nil =>
      have e : 10 * valOf [] + (c.toNat - 48) = c.toNat - 48 := by simp [valOf]
      rw [e, Lib.decDigits_one (by omega), digit_back h.2, List.nil_append]
    | cons b l =>
      have hh' : (b :: l).head? ≠ some 48 := by
        rcases hh with hh | hh
        · simpa using hh
        · simp at hh
      have h3 := valOf_pos _ h.1 (by simp) hh'
      rw [Lib.decDigits, dif_neg (by omega)]
      have e1 : (10 * valOf (b :: l) + (c.toNat - 48)) / 10 = valOf (b :: l) := by omega
      have e2 : (10 * valOf (b :: l) + (c.toNat - 48)) % 10 = c.toNat - 48 := by omega
      rw [e1, e2, ih h.1 (by simp) (.inl hh'), digit_back h.2]
/-- A number's digits: what they are. -/
theorem dec_all : ∀ u : Nat, (Lib.decDigits u).all isDig = true ∧ valOf (Lib.decDigits u) = u ∧ Lib.decDigits u ≠ [] ∧ ((Lib.decDigits u).head? ≠ some 48 ∨ (Lib.decDigits u).length = 1) ∧ (1 ≤ u → (Lib.decDigits u).head? ≠ some 48) := by
  intro u
  induction u using Nat.strongRecOn with
  | ind u ih =>
    by_cases h : u < 10
    · rw [Lib.decDigits_one h]
      refine ⟨by rw [List.all_cons, digit_is h]; rfl, ?_, by simp, .inr rfl, fun h1 => ?_⟩
      · show 10 * 0 + ((UInt8.ofNat (48 + u)).toNat - 48) = u
        rw [digit_toNat h]; omega
      · simp only [List.head?_cons, ne_eq, Option.some.injEq]
        intro e
        have := congrArg UInt8.toNat e
        rw [digit_toNat h] at this
        simp at this
        omega
    · obtain ⟨i1, i2, i3, i4, i5⟩ := ih (u / 10) (by omega)
      rw [Lib.decDigits, dif_neg h]
      have h10 : u % 10 < 10 := Nat.mod_lt _ (by omega)
      have hd : (Lib.decDigits (u / 10) ++ [UInt8.ofNat (48 + u % 10)]).head? ≠ some 48 := by
        have := i5 (by omega)
        cases hl : Lib.decDigits (u / 10) with
        | nil => exact absurd hl i3
        | cons b l => rw [hl] at this; simpa using this
      refine ⟨by rw [List.all_append, i1, List.all_cons, digit_is h10]; rfl, ?_, by simp, .inl hd, fun _ => hd⟩
      rw [valOf_snoc, i2, digit_toNat h10]
      omega

/-- The number of a text: at most 18 digits, no 0 ahead, a sign just where it is below 0. -/
def intOf (l : List UInt8) : Option Int :=
  match l with
  | 45 :: d => if 1 ≤ d.length ∧ d.length ≤ 18 ∧ d.all isDig = true ∧ d.head? ≠ some 48 then some (-(valOf d : Int)) else none
  | d => if 1 ≤ d.length ∧ d.length ≤ 18 ∧ d.all isDig = true ∧ (d.head? ≠ some 48 ∨ d.length = 1) then some (valOf d : Int) else none
theorem intOf_minus (d : List UInt8) : intOf (45 :: d) = if 1 ≤ d.length ∧ d.length ≤ 18 ∧ d.all isDig = true ∧ d.head? ≠ some 48 then some (-(valOf d : Int)) else none := rfl
theorem intOf_plain {d : List UInt8} (h : d.head? ≠ some 45) : intOf d = if 1 ≤ d.length ∧ d.length ≤ 18 ∧ d.all isDig = true ∧ (d.head? ≠ some 48 ∨ d.length = 1) then some (valOf d : Int) else none := by
  unfold intOf
  split
  · simp at h
  · rfl
theorem isDig_45 : isDig 45 = false := by decide
theorem head_all {d : List UInt8} (h : d.all isDig = true) : d.head? ≠ some 45 := by
  cases d with
  | nil => simp
  | cons b d =>
    simp only [List.all_cons, Bool.and_eq_true] at h
    simp only [List.head?_cons, ne_eq, Option.some.injEq]
    rintro rfl
    rw [isDig_45] at h
    cases h.1
theorem decL_dec {n : Int} (h : inI n = true) : decL 20 n.natAbs = Lib.decDigits n.natAbs := by
  simp only [inI, decide_eq_true_eq] at h
  exact decL_eq 20 _ (by omega) (by omega)
theorem nDig_le {u k : Nat} (hk : 1 ≤ k) : Lib.nDigits u ≤ k ↔ u < 10 ^ k := by
  constructor
  · intro h
    exact Nat.lt_of_lt_of_le (Lib.lt_pow_nDigits u) (Nat.pow_le_pow_right (by omega) h)
  · intro h
    cases hn : Nat.decLe (Lib.nDigits u) k with
    | isTrue h => exact h
    | isFalse h1 =>
      exfalso
      have h2 : ¬ Lib.nDigits u ≤ k := h1
      by_cases h10 : u < 10
      · rw [Lib.nDigits_small h10] at h2; omega
      · obtain ⟨m, hm⟩ : ∃ m, Lib.nDigits u = m + 1 := ⟨Lib.nDigits u - 1, by have := Lib.nDigits_pos u; omega⟩
        have h3 : 10 ^ m ≤ u := by
          have hd := dec_all u
          have h4 : (Lib.decDigits u).length = m + 1 := by rw [Lib.decDigits_length, hm]
          -- its first digit is no 0
          cases hl : Lib.decDigits u with
          | nil => exact absurd hl hd.2.2.1
          | cons b l =>
            have hne : b ≠ 48 := by have := hd.2.2.2.2 (by omega); rw [hl] at this; simpa using this
            have hb : isDig b = true := by have := hd.1; rw [hl] at this; simp only [List.all_cons, Bool.and_eq_true] at this; exact this.1
            have hb' := isDig_iff.1 hb
            have hb48 : b.toNat ≠ 48 := fun e => hne (UInt8.toNat_inj.1 (by rw [e]; rfl))
            have hv := hd.2.1
            rw [hl] at hv h4
            have key : ∀ (l : List UInt8) (a : Nat), a * 10 ^ l.length ≤ l.foldl (fun n c => 10 * n + (c.toNat - 48)) a := by
              intro l
              induction l with
              | nil => intro a; simp
              | cons c l ih =>
                intro a
                simp only [List.foldl_cons, List.length_cons]
                refine Nat.le_trans ?_ (ih _)
                rw [Nat.pow_succ, Nat.mul_comm (10 ^ l.length) 10, ← Nat.mul_assoc]
                exact Nat.mul_le_mul_right _ (by omega)
            have := key l (b.toNat - 48)
            have hv' : List.foldl (fun n c => 10 * n + (c.toNat - 48)) (b.toNat - 48) l = u := by
              rw [← hv]; simp [valOf]
            rw [hv'] at this
            have hl' : l.length = m := by simpa using h4
            rw [hl'] at this
            refine Nat.le_trans ?_ this
            calc 10 ^ m = 1 * 10 ^ m := by omega
              _ ≤ (b.toNat - 48) * 10 ^ m := Nat.mul_le_mul_right _ (by omega)
        have h5 : 10 ^ k ≤ 10 ^ m := Nat.pow_le_pow_right (by omega) (by omega)
        omega
def small18 (n : Int) : Bool := decide (-1000000000000000000 < n ∧ n < 1000000000000000000)
/-- A number is read of its digits, if these are not too many. -/
theorem intOf_dig {n : Int} (h : inI n = true) : intOf (dig n) = if small18 n = true then some n else none := by
  have hs : small18 n = true ↔ Lib.nDigits n.natAbs ≤ 18 := by
    rw [nDig_le (by omega)]
    simp only [small18, decide_eq_true_eq]
    omega
  obtain ⟨i1, i2, i3, i4, i5⟩ := dec_all n.natAbs
  have hl : (Lib.decDigits n.natAbs).length = Lib.nDigits n.natAbs := Lib.decDigits_length _
  have hp := Lib.nDigits_pos n.natAbs
  unfold dig
  rw [decL_dec h]
  split
  · rename_i hn
    rw [intOf_minus, i2]
    by_cases hd : Lib.nDigits n.natAbs ≤ 18
    · rw [if_pos ⟨by omega, by omega, i1, i5 (by omega)⟩, if_pos (hs.2 hd)]
      congr 1
      omega
    · rw [if_neg (fun e => hd (by omega)), if_neg (fun e => hd (hs.1 e))]
  · rename_i hn
    rw [intOf_plain (head_all i1), i2]
    by_cases hd : Lib.nDigits n.natAbs ≤ 18
    · rw [if_pos ⟨by omega, by omega, i1, i4⟩, if_pos (hs.2 hd)]
      congr 1
      omega
    · rw [if_neg (fun e => hd (by omega)), if_neg (fun e => hd (hs.1 e))]
/-- A text that is a number is its digits. -/
theorem dig_intOf {l : List UInt8} {n : Int} (h : intOf l = some n) : dig n = l ∧ small18 n = true := by
  have key : ∀ d : List UInt8, 1 ≤ d.length → d.length ≤ 18 → d.all isDig = true → (d.head? ≠ some 48 ∨ d.length = 1) → decL 20 (valOf d) = d ∧ valOf d < 1000000000000000000 := by
    intro d h1 h2 h3 h4
    have h5 := valOf_lt d h3
    have h6 : 10 ^ d.length ≤ 10 ^ 18 := Nat.pow_le_pow_right (by omega) h2
    have h7 : valOf d < 1000000000000000000 := by omega
    refine ⟨?_, h7⟩
    rw [decL_eq 20 _ (by omega) (by omega)]
    exact dec_val d h3 (by intro e; rw [e] at h1; simp at h1) h4
  unfold intOf at h
  split at h
  · rename_i d
    split at h
    · rename_i hh
      cases h
      obtain ⟨h1, h2, h3, h4⟩ := hh
      obtain ⟨k1, k2⟩ := key d h1 h2 h3 (.inl h4)
      have hp := valOf_pos d h3 (by intro e; rw [e] at h1; simp at h1) h4
      refine ⟨?_, by simp only [small18, decide_eq_true_eq]; omega⟩
      unfold dig
      rw [if_pos (by omega), Int.natAbs_neg, Int.natAbs_natCast, k1]
    · cases h
  · split at h
    · rename_i hh
      cases h
      obtain ⟨h1, h2, h3, h4⟩ := hh
      obtain ⟨k1, k2⟩ := key l h1 h2 h3 h4
      refine ⟨?_, by simp only [small18, decide_eq_true_eq]; omega⟩
      unfold dig
      rw [if_neg (by omega), Int.natAbs_natCast, k1]
    · cases h
theorem small18_inI {n : Int} (h : small18 n = true) : inI n = true := by
  simp only [small18, inI, decide_eq_true_eq] at *
  omega
theorem intOf_inI {l : List UInt8} {n : Int} (h : intOf l = some n) : inI n = true := small18_inI (dig_intOf h).2
theorem dig_inj {a b : Int} (ha : inI a = true) (hb : inI b = true) (h : dig a = dig b) : a = b := by
  have h1 := dec_all a.natAbs
  have h2 := dec_all b.natAbs
  unfold dig at h
  rw [decL_dec ha, decL_dec hb] at h
  have ne : ∀ x y : Nat, (45 :: Lib.decDigits x) ≠ Lib.decDigits y := fun x y e => head_all (dec_all y).1 (by rw [← e]; rfl)
  split at h <;> split at h
  · simp only [List.cons.injEq, true_and] at h
    have := h1.2.1
    rw [h, h2.2.1] at this
    omega
  · exact absurd h (ne _ _)
  · exact absurd h.symm (ne _ _)
  · have := h1.2.1
    rw [h, h2.2.1] at this
    omega
theorem dig_length {n : Int} (h : inI n = true) : 1 ≤ (dig n).length ∧ (dig n).length ≤ 20 := by
  have hp := Lib.nDigits_pos n.natAbs
  have hle : Lib.nDigits n.natAbs ≤ 19 := by
    rw [nDig_le (by omega)]
    simp only [inI, decide_eq_true_eq] at h
    omega
  unfold dig
  rw [decL_dec h]
  split <;> simp [Lib.decDigits_length] <;> omega
theorem dig_chars {n : Int} (h : inI n = true) : ∀ c ∈ dig n, isDig c = true ∨ c = 45 := by
  have := (dec_all n.natAbs).1
  simp only [List.all_eq_true] at this
  unfold dig
  rw [decL_dec h]
  split
  · intro c hc
    rcases List.mem_cons.1 hc with rfl | hc
    · exact .inr rfl
    · exact .inl (this c hc)
  · exact fun c hc => .inl (this c hc)

/-! strconv.Atoi at digits. -/
theorem parse_digits : ∀ (l : List UInt8) (acc : Nat), l.all isDig = true → (acc + 1) * 10 ^ l.length ≤ 10 ^ 19 → Lib.parseUint10 acc l = .ok (l.foldl (fun n c => 10 * n + (c.toNat - 48)) acc)
  | [], acc, _, _ => rfl
  | c :: l, acc, h, hb => by
    simp only [List.all_cons, Bool.and_eq_true] at h
    have h1 := isDig_iff.1 h.1
    simp only [List.length_cons, Nat.pow_succ] at hb
    have hp : 1 ≤ 10 ^ l.length := Nat.pos_of_ne_zero (by simp)
    have h2 : (acc + 1) * 10 ≤ 10 ^ 19 := by
      refine Nat.le_trans ?_ hb
      rw [Nat.mul_comm (10 ^ l.length) 10, ← Nat.mul_assoc]
      exact Nat.le_mul_of_pos_right _ hp
    have h3 : (10 * acc + (c.toNat - 48) + 1) * 10 ^ l.length ≤ 10 ^ 19 := by
      refine Nat.le_trans ?_ hb
      rw [Nat.mul_comm (10 ^ l.length) 10, ← Nat.mul_assoc]
      exact Nat.mul_le_mul_right _ (by omega)
    unfold Lib.parseUint10
    rw [if_pos h1, if_neg (by omega), if_neg (by omega), List.foldl_cons, Nat.mul_comm acc 10]
    exact parse_digits l _ h.2 h3
theorem atoi_digits {d : List UInt8} (h1 : d ≠ []) (h2 : d.length ≤ 18) (h3 : d.all isDig = true) : Lib.atoiAll d = .ok (valOf d : Int) ∧ Lib.atoiAll (45 :: d) = .ok (-(valOf d : Int)) := by
  have hb : (0 + 1) * 10 ^ d.length ≤ 10 ^ 19 := by
    rw [Nat.zero_add, Nat.one_mul]
    exact Nat.pow_le_pow_right (by omega) (by omega)
  have hp : Lib.parseMag d = .ok (valOf d) := by
    unfold Lib.parseMag
    rw [if_neg h1]
    exact parse_digits d 0 h3 hb
  have hv := valOf_lt d h3
  have h6 : 10 ^ d.length ≤ 10 ^ 18 := Nat.pow_le_pow_right (by omega) h2
  constructor
  · cases d with
    | nil => exact absurd rfl h1
    | cons c r =>
      simp only [List.all_cons, Bool.and_eq_true] at h3
      have hc := isDig_iff.1 h3.1
      rw [Lib.atoiAll_plain c r (by omega) (by omega), hp]
      unfold Lib.signless
      simp only
      rw [if_neg (by omega)]
  · rw [Lib.atoiAll_minus, hp]
    unfold Lib.signed
    simp only
    rw [if_neg (by omega)]

/-! Words. -/
def splitOn (c : UInt8) : List UInt8 → List (List UInt8)
  | [] => [[]]
  | b :: l => if b = c then [] :: splitOn c l else match splitOn c l with | [] => [[b]] | w :: ws => (b :: w) :: ws
theorem splitOn_byte {b c : UInt8} (h : b ≠ c) (l : List UInt8) : splitOn c (b :: l) = match splitOn c l with | [] => [[b]] | w :: ws => (b :: w) :: ws := by rw [splitOn, if_neg h]
theorem splitOn_same (c : UInt8) (l : List UInt8) : splitOn c (c :: l) = [] :: splitOn c l := by rw [splitOn, if_pos rfl]
theorem splitOn_ne (c : UInt8) (l : List UInt8) : splitOn c l ≠ [] := by
  cases l with
  | nil => simp [splitOn]
  | cons b l =>
    unfold splitOn
    split
    · simp
    · split <;> simp
/-- The parts between blanks. -/
def words (l : List UInt8) : List (List UInt8) := (splitOn 32 l).filter fun w => !w.isEmpty
theorem splitOn_length (c : UInt8) : ∀ l : List UInt8, (splitOn c l).length ≤ l.length + 1
  | [] => by simp [splitOn]
  | b :: l => by
    have ih := splitOn_length c l
    unfold splitOn
    split
    · simpa using ih
    · split
      · simp
      · rename_i w ws e; rw [e] at ih; simp at ih ⊢; omega
theorem splitOn_bytes (c : UInt8) : ∀ (l w : List UInt8), w ∈ splitOn c l → (∀ b ∈ w, b ≠ c) ∧ w.length ≤ l.length
  | [], w, h => by simp [splitOn] at h; subst h; simp
  | b :: l, w, h => by
    unfold splitOn at h
    split at h
    · rcases List.mem_cons.1 h with rfl | h
      · simp
      · have := splitOn_bytes c l w h; exact ⟨this.1, by simp; omega⟩
    · rename_i hb
      split at h
      · simp only [List.mem_singleton] at h; subst h; simp [hb]
      · rename_i v vs e
        rcases List.mem_cons.1 h with rfl | h
        · have := splitOn_bytes c l v (by rw [e]; simp)
          refine ⟨fun x hx => ?_, by simpa using this.2⟩
          rcases List.mem_cons.1 hx with rfl | hx
          · exact hb
          · exact this.1 x hx
        · have := splitOn_bytes c l w (by rw [e]; simp [h]); exact ⟨this.1, by simp; omega⟩
theorem index_one (l : List UInt8) (c : UInt8) : ∀ b, Lib.index (b :: l) [c] = if b = c then 0 else if Lib.index l [c] == -1 then -1 else Lib.index l [c] + 1 := by
  intro b
  rw [Lib.index]
  by_cases h : b = c
  · subst h; simp
  · rw [if_neg h, if_neg]
    have : ¬ c = b := fun e => h e.symm
    simp [this]
theorem splitK_cons {c b : UInt8} (hb : b ≠ c) : ∀ (k : Nat) (l : List UInt8), Lib.splitK [c] 0 k (b :: l) = match Lib.splitK [c] 0 k l with | [] => [[b]] | w :: ws => (b :: w) :: ws
  | 0, l => rfl
  | k + 1, l => by
    have hi := index_one l c b
    rw [if_neg hb] at hi
    unfold Lib.splitK
    rw [hi]
    have hg := Lib.index_ge l [c]
    by_cases h1 : (Lib.index l [c] == -1) = true
    · rw [if_pos h1, if_pos h1]; simp
    · rw [if_neg h1, if_neg h1]
      have h2 : Lib.index l [c] ≠ -1 := by simpa using h1
      have h3 : ¬ ((Lib.index l [c] + 1 == -1) = true) := by simp; omega
      rw [if_neg h3]
      have e : (Lib.index l [c] + 1).toNat = (Lib.index l [c]).toNat + 1 := by omega
      simp only [e, Nat.add_zero, List.take_succ_cons]
      have e2 : (b :: l).drop ((Lib.index l [c]).toNat + 1 + [c].length) = l.drop ((Lib.index l [c]).toNat + [c].length) := by
        simp only [List.length_singleton]
        rfl
      rw [e2]
theorem splitK_one (c : UInt8) : ∀ (k : Nat) (l : List UInt8), l.count c = k → Lib.splitK [c] 0 k l = splitOn c l
  | k, [], h => by
    simp at h
    subst h
    rfl
  | k, b :: l, h => by
    unfold splitOn
    by_cases hb : b = c
    · subst hb
      rw [if_pos rfl]
      rw [List.count_cons_self] at h
      obtain ⟨k', rfl⟩ : ∃ k', k = k' + 1 := ⟨k - 1, by omega⟩
      unfold Lib.splitK
      have hi := index_one l b b
      rw [if_pos rfl] at hi
      rw [hi]
      simp only [show ((0 : Int) == -1) = false from rfl, Bool.false_eq_true, if_false]
      show List.take 0 (b :: l) :: Lib.splitK [b] 0 k' l = _
      rw [splitK_one b k' l (by omega)]
      rfl
    · rw [if_neg hb]
      rw [List.count_cons_of_ne (by simpa using hb)] at h
      rw [splitK_cons hb, splitK_one c k l h]
theorem split_text (s : ByteArray) (c : UInt8) : Lib.splitB ⟨#[c]⟩ 0 (Lib.countB s ⟨#[c]⟩) s = (splitOn c s.data.toList).map text := by
  have h1 := Lib.splitB_data ⟨#[c]⟩ 0 (Lib.countB s ⟨#[c]⟩) s
  have h2 : Lib.countB s ⟨#[c]⟩ = s.data.toList.count c := Lib.count_one c s.data.toList
  have h3 := splitK_one c (Lib.countB s ⟨#[c]⟩) s.data.toList h2.symm
  have h4 : (Lib.splitB ⟨#[c]⟩ 0 (Lib.countB s ⟨#[c]⟩) s).map (·.data.toList) = splitOn c s.data.toList := h1.trans h3
  rw [← h4, List.map_map]
  conv => lhs; rw [← List.map_id (Lib.splitB ⟨#[c]⟩ 0 (Lib.countB s ⟨#[c]⟩) s)]
  exact List.map_congr_left fun x _ => (text_of x).symm

/-- What stands ahead of the first such byte, what behind it, and whether there is one. -/
def cutAt (c : UInt8) : List UInt8 → List UInt8 × List UInt8 × Bool
  | [] => ([], [], false)
  | b :: l => if b = c then ([], l, true) else (b :: (cutAt c l).1, (cutAt c l).2.1, (cutAt c l).2.2)
theorem cut_one (c : UInt8) : ∀ l : List UInt8, Lib.cut l [c] = cutAt c l
  | [] => by simp [Lib.cut, Lib.index, cutAt]
  | b :: l => by
    have ih := cut_one c l
    unfold cutAt
    have hi := index_one l c b
    have hg := Lib.index_ge l [c]
    unfold Lib.cut at ih ⊢
    rw [hi]
    by_cases hb : b = c
    · rw [if_pos hb, if_pos (by omega), if_pos hb]; simp
    · rw [if_neg hb, if_neg hb, ← ih]
      by_cases h1 : (Lib.index l [c] == -1) = true
      · have h1' : Lib.index l [c] = -1 := by simpa using h1
        rw [if_pos h1, if_neg (by omega), if_neg (by omega)]
      · have h1' : Lib.index l [c] ≠ -1 := by simpa using h1
        rw [if_neg h1, if_pos (by omega), if_pos (by omega)]
        have e : (Lib.index l [c] + 1).toNat = (Lib.index l [c]).toNat + 1 := by omega
        rw [e]
        simp
theorem contains_one (c : UInt8) (l : List UInt8) : Lib.contains l [c] = l.contains c := by
  induction l with
  | nil => simp [Lib.contains, Lib.index]
  | cons b l ih =>
    have hi := index_one l c b
    have hg := Lib.index_ge l [c]
    unfold Lib.contains at ih ⊢
    rw [hi, List.contains_cons, ← ih]
    by_cases hb : b = c
    · subst hb; simp
    · rw [if_neg hb]
      have hb' : (c == b) = false := by simpa using fun e : c = b => hb e.symm
      rw [hb', Bool.false_or]
      by_cases h1 : (Lib.index l [c] == -1) = true
      · have h1' : Lib.index l [c] = -1 := by simpa using h1
        rw [if_pos h1, h1']
      · have h1' : Lib.index l [c] ≠ -1 := by simpa using h1
        rw [if_neg h1]
        rw [decide_eq_decide]
        omega
end Go.Proofs.YtpaifgipdhgfkaaGreatDoorV
