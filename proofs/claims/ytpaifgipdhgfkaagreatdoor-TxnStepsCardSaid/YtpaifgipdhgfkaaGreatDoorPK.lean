/- Rows of bytes, numbers, texts: as plain lists and back. -/
import Derived.Test.YtpaifgipdhgfkaaGreatDoorVA
namespace Go.Proofs.YtpaifgipdhgfkaaGreatDoorV
open Go

/-- Bytes as a row. -/
def bRow (l : List UInt8) : List (List PV) := l.map fun b => [.int .u8 (b.toNat : Int)]
def unB1 : List PV → Option UInt8
  | [.int .u8 n] => if 0 ≤ n ∧ n < 256 then some (UInt8.ofNat n.toNat) else none
  | _ => none
def unB : List (List PV) → Option (List UInt8)
  | [] => some []
  | e :: es => (unB1 e).bind fun b => (unB es).bind fun l => some (b :: l)
/-- Numbers of 64 bits as a row. -/
def iRow (l : List Int) : List (List PV) := l.map fun n => [.int .i64 n]
def inI (n : Int) : Bool := decide (-9223372036854775808 ≤ n ∧ n < 9223372036854775808)
def unI1 : List PV → Option Int
  | [.int .i64 n] => if inI n = true then some n else none
  | _ => none
def unI : List (List PV) → Option (List Int)
  | [] => some []
  | e :: es => (unI1 e).bind fun b => (unI es).bind fun l => some (b :: l)
/-- Texts as a row. -/
def sRow (l : List ByteArray) : List (List PV) := l.map fun s => [.str s]
def unS1 : List PV → Option ByteArray
  | [.str s] => some s
  | _ => none
def unS : List (List PV) → Option (List ByteArray)
  | [] => some []
  | e :: es => (unS1 e).bind fun b => (unS es).bind fun l => some (b :: l)

theorem unB1_inv {e : List PV} {b : UInt8} (h : unB1 e = some b) : e = [.int .u8 (b.toNat : Int)] := by
  unfold unB1 at h
  split at h
  · rename_i n
    split at h
    · rename_i hn
      cases h
      have h1 : (UInt8.ofNat n.toNat).toNat = n.toNat := by
        rw [UInt8.toNat_ofNat']
        omega
      rw [h1, Int.toNat_of_nonneg hn.1]
    · cases h
  · cases h
theorem unB_inv : ∀ {es : List (List PV)} {l : List UInt8}, unB es = some l → es = bRow l
  | [], l, h => by cases h; rfl
  | e :: es, l, h => by
    simp only [unB, Option.bind_eq_some_iff] at h
    obtain ⟨b, h1, l', h2, h3⟩ := h
    cases h3
    rw [unB1_inv h1, unB_inv h2]
    rfl
theorem unB1_mk (b : UInt8) : unB1 [.int .u8 (b.toNat : Int)] = some b := by
  have := UInt8.toNat_lt b
  show (if 0 ≤ (b.toNat : Int) ∧ (b.toNat : Int) < 256 then some (UInt8.ofNat (b.toNat : Int).toNat) else none) = some b
  rw [if_pos (by omega)]
  simp
theorem unB_row : ∀ l : List UInt8, unB (bRow l) = some l
  | [] => rfl
  | b :: l => by
    have := unB_row l
    simp only [bRow, List.map_cons, unB] at this ⊢
    rw [unB1_mk, this]
    rfl
theorem unI_inv : ∀ {es : List (List PV)} {l : List Int}, unI es = some l → es = iRow l ∧ ∀ n ∈ l, -9223372036854775808 ≤ n ∧ n < 9223372036854775808
  | [], l, h => by cases h; exact ⟨rfl, by simp⟩
  | e :: es, l, h => by
    simp only [unI, Option.bind_eq_some_iff] at h
    obtain ⟨b, h1, l', h2, h3⟩ := h
    cases h3
    obtain ⟨h4, h5⟩ := unI_inv h2
    unfold unI1 at h1
    split at h1
    · rename_i n
      split at h1
      · rename_i hn
        cases h1
        simp only [inI, decide_eq_true_eq] at hn
        subst h4
        refine ⟨rfl, fun m hm => ?_⟩
        simp only [List.mem_cons] at hm
        rcases hm with rfl | hm
        · exact hn
        · exact h5 m hm
      · cases h1
    · cases h1
theorem unI_row : ∀ {l : List Int}, (∀ n ∈ l, -9223372036854775808 ≤ n ∧ n < 9223372036854775808) → unI (iRow l) = some l
  | [], _ => rfl
  | b :: l, h => by
    have ih := unI_row (l := l) fun n hn => h n (by simp [hn])
    simp only [iRow, List.map_cons, unI] at ih ⊢
    have h1 : unI1 [.int .i64 b] = some b := by
      show (if inI b = true then some b else none) = some b
      rw [if_pos (by simpa [inI] using h b (by simp))]
    rw [h1, ih]
    rfl
theorem unS_inv : ∀ {es : List (List PV)} {l : List ByteArray}, unS es = some l → es = sRow l
  | [], l, h => by cases h; rfl
  | e :: es, l, h => by
    simp only [unS, Option.bind_eq_some_iff] at h
    obtain ⟨b, h1, l', h2, h3⟩ := h
    cases h3
    unfold unS1 at h1
    split at h1
    · cases h1
      rw [unS_inv h2]
      rfl
    · cases h1
theorem unS_row : ∀ l : List ByteArray, unS (sRow l) = some l
  | [] => rfl
  | b :: l => by
    have := unS_row l
    simp only [sRow, List.map_cons, unS, unS1] at this ⊢
    rw [this]
    rfl
theorem bRow_length (l : List UInt8) : (bRow l).length = l.length := by simp [bRow]
theorem iRow_length (l : List Int) : (iRow l).length = l.length := by simp [iRow]
theorem sRow_length (l : List ByteArray) : (sRow l).length = l.length := by simp [sRow]
theorem bRow_append (a b : List UInt8) : bRow (a ++ b) = bRow a ++ bRow b := by simp [bRow]
theorem sRow_append (a b : List ByteArray) : sRow (a ++ b) = sRow a ++ sRow b := by simp [sRow]
theorem bRow_take (l : List UInt8) (n : Nat) : (bRow l).take n = bRow (l.take n) := by simp [bRow, List.map_take]
theorem bRow_drop (l : List UInt8) (n : Nat) : (bRow l).drop n = bRow (l.drop n) := by simp [bRow, List.map_drop]
theorem bRow_all : ∀ l : List UInt8, allLen 1 (bRow l) = true
  | [] => rfl
  | b :: l => by simp [bRow, allLen]
theorem iRow_all : ∀ l : List Int, allLen 1 (iRow l) = true
  | [] => rfl
  | b :: l => by simp [iRow, allLen]
theorem strOf_row : ∀ l : List UInt8, strOf (bRow l) = some l
  | [] => rfl
  | b :: l => by
    have := strOf_row l
    simp only [bRow, List.map_cons, strOf] at this ⊢
    rw [this]
    simp
theorem bytesOf_row (s : ByteArray) : bytesOf s = bRow s.data.toList := rfl
theorem idx_nat {α : Type} (es : List α) (j : Nat) : idx es (j : Int) = es[j]? := by
  unfold idx
  rw [if_pos (by omega)]
  simp
theorem idx_at {α : Type} (a : List α) (x : α) (b : List α) : idx (a ++ x :: b) (a.length : Int) = some x := by
  rw [idx_nat]; simp
theorem get_at {α : Type} (a : List α) (x : α) (b : List α) : (a ++ x :: b)[a.length]? = some x := by simp
theorem bytes_toList (s : ByteArray) : s.toList = s.data.toList := ByteArray.toList_eq s
theorem bytes_ext {a b : ByteArray} (h : a.data.toList = b.data.toList) : a = b := by
  cases a; cases b
  simp only [ByteArray.mk.injEq]
  exact Array.toList_inj.1 h
theorem str_eq (a b : ByteArray) : (a.toList == b.toList) = decide (a = b) := by
  rw [bytes_toList, bytes_toList]
  by_cases h : a = b
  · subst h; simp
  · have : a.data.toList ≠ b.data.toList := fun e => h (bytes_ext e)
    rw [decide_eq_false h]
    simpa using fun e => this (by rw [e])
end Go.Proofs.YtpaifgipdhgfkaaGreatDoorV
