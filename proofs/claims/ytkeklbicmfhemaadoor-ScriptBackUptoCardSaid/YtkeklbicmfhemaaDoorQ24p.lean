/- Lines made of numbers: whatever the numbers, there is one, of few bytes. -/
import Derived.Test.YtkeklbicmfhemaaDoorQI3
import Derived.Test.YtkeklbicmfhemaaDoorQ24b
import Derived.Test.YtkeklbicmfhemaaDoorD24p
namespace Go.Proofs.YtkeklbicmfhemaaDoorV
open Go
set_option maxRecDepth 20000
set_option linter.unusedSimpArgs false

/-! Texts of few bytes, without a line's end. -/
def okT (n : Nat) (t : ByteArray) : Prop := t.size ≤ n ∧ 10 ∉ t.data.toList
theorem okT_mono {n m : Nat} {t : ByteArray} (h : okT n t) (hm : n ≤ m) : okT m t := ⟨Nat.le_trans h.1 hm, h.2⟩
theorem okT_text {n : Nat} {l : List UInt8} (h : l.length ≤ n) (h10 : 10 ∉ l) : okT n (text l) := ⟨by rw [text_size]; exact h, by rw [text_data]; exact h10⟩
theorem okT_add {n m : Nat} {s t : ByteArray} (h : okT n s) (k : okT m t) : okT (n + m) (s ++ t) := by
  refine ⟨by rw [ByteArray.size_append]; have := h.1; have := k.1; omega, ?_⟩
  rw [ByteArray.data_append, Array.toList_append, List.mem_append]
  exact fun e => e.elim h.2 k.2
theorem okT_dig {x : Int} (h : inI x = true) : okT 20 (text (dig x)) := by
  refine okT_text (dig_length h).2 fun e => ?_
  rcases dig_chars h 10 e with h' | h'
  · exact absurd h' (by decide)
  · exact absurd h' (by decide)
theorem okT_beside {n : Nat} {s t : ByteArray} (h : okT n t) (hn : n ≤ 400) : beside s t := ⟨by have := h.1; omega, fun e => absurd e h.2⟩
theorem okT_room {n m : Nat} {s t : ByteArray} (h : okT n s) (k : okT m t) (hn : n + m ≤ 100000) : s.size + t.size ≤ 140737488355328 := by
  have := h.1
  have := k.1
  omega
theorem rdig {x : Int} (h : inI x = true) : sRDigits x = some (text (dig x)) := sItoa_in h
theorem inI_of {n : Int} (h1 : -9223372036854775808 ≤ n) (h2 : n < 9223372036854775808) : inI n = true := (inI_iff n).2 ⟨h1, h2⟩
theorem inI_wrapped (n : Int) : inI (IntKind.i64.wrap n) = true := by
  have h1 := Int.emod_nonneg n (b := 18446744073709551616) (by omega)
  have h2 := Int.emod_lt_of_pos n (b := 18446744073709551616) (by omega)
  rw [inI_iff, wrap_i64_eq]
  split <;> omega
def lineTab : List (List UInt8) := [[], [32], [97, 100, 100], [100, 101, 108], [100, 101, 108, 32, 120], [100, 101, 108, 32, 45, 49], [100, 101, 108, 32, 48, 49], [100, 101, 108, 32, 49, 48, 48, 48], [108, 111, 99, 107, 32, 49, 32, 50], [111, 112, 116, 32, 48, 32, 49, 32, 48], [111, 112, 116, 32, 50, 49, 32, 49, 32, 48], [117, 110, 100, 111, 32, 49], [80, 111, 111, 108], [32, 32, 99, 111, 115, 116, 32], [115, 104, 111, 119, 32, 32, 48], [109, 111, 118, 32, 49, 32, 48, 32, 48, 32, 48, 32, 48], [119, 104, 97, 116]]
theorem lineTab_ok : ∀ l ∈ lineTab, l.length ≤ 20 ∧ 10 ∉ l := by decide
theorem lineQ51 (n car i : Int) (s : ByteArray) (b : Bool) (hc : inI car = true) : ∃ t, beside s t ∧ ∀ (R : Type) (k0 : ByteArray → Option R), pLine_q51 n s car i b k0 k0 = k0 t := by
  unfold pLine_q51
  cases b with
  | true => exact ⟨_, okT_beside (n := 20) (okT_text (l := [114, 101, 100, 111]) (by decide) (by decide)) (by omega), fun R k0 => rfl⟩
  | false =>
    by_cases h1 : i = 25
    · subst h1
      have o : okT 5 (ByteArray.mk #[115, 104, 111, 119, 32]) := okT_text (l := [115, 104, 111, 119, 32]) (by decide) (by decide)
      refine ⟨_, okT_beside (okT_add o (okT_dig hc)) (by omega), fun R k0 => ?_⟩
      rw [cond_false, beq_self_eq_true, cond_true, rdig hc, Option.bind_some, if_pos (okT_room o (okT_dig hc) (by omega))]
    by_cases h2 : i = 26
    · subst h2
      exact ⟨_, okT_beside (n := 20) (okT_text (l := [112, 111, 111, 108]) (by decide) (by decide)) (by omega), fun R k0 => rfl⟩
    by_cases h3 : i = 27
    · subst h3
      exact ⟨_, okT_beside (n := 20) (okT_text (l := [99, 111, 115, 116]) (by decide) (by decide)) (by omega), fun R k0 => rfl⟩
    have e1 : (i == 25) = false := by simpa using h1
    have e2 : (i == 26) = false := by simpa using h2
    have e3 : (i == 27) = false := by simpa using h3
    by_cases h4 : i = 28
    · have hb := wn_bounds n (m := 17) (by omega)
      have hj : (wn n 17).toNat < lineTab.length := by show (wn n 17).toNat < 17; omega
      have hm := lineTab_ok _ (List.getElem_mem hj)
      refine ⟨text lineTab[(wn n 17).toNat], okT_beside (okT_text hm.1 hm.2) (by omega), fun R k0 => ?_⟩
      have ht : ∀ j : Nat, j < 17 → ([[(PV.str (ByteArray.mk #[]))], [(PV.str (ByteArray.mk #[32]))], [(PV.str (ByteArray.mk #[97, 100, 100]))], [(PV.str (ByteArray.mk #[100, 101, 108]))], [(PV.str (ByteArray.mk #[100, 101, 108, 32, 120]))], [(PV.str (ByteArray.mk #[100, 101, 108, 32, 45, 49]))], [(PV.str (ByteArray.mk #[100, 101, 108, 32, 48, 49]))], [(PV.str (ByteArray.mk #[100, 101, 108, 32, 49, 48, 48, 48]))], [(PV.str (ByteArray.mk #[108, 111, 99, 107, 32, 49, 32, 50]))], [(PV.str (ByteArray.mk #[111, 112, 116, 32, 48, 32, 49, 32, 48]))], [(PV.str (ByteArray.mk #[111, 112, 116, 32, 50, 49, 32, 49, 32, 48]))], [(PV.str (ByteArray.mk #[117, 110, 100, 111, 32, 49]))], [(PV.str (ByteArray.mk #[80, 111, 111, 108]))], [(PV.str (ByteArray.mk #[32, 32, 99, 111, 115, 116, 32]))], [(PV.str (ByteArray.mk #[115, 104, 111, 119, 32, 32, 48]))], [(PV.str (ByteArray.mk #[109, 111, 118, 32, 49, 32, 48, 32, 48, 32, 48, 32, 48]))], [(PV.str (ByteArray.mk #[119, 104, 97, 116]))]] : List (List PV))[j]? = some [PV.str (text (lineTab.getD j []))] := by
        intro j hj
        have : j = 0 ∨ j = 1 ∨ j = 2 ∨ j = 3 ∨ j = 4 ∨ j = 5 ∨ j = 6 ∨ j = 7 ∨ j = 8 ∨ j = 9 ∨ j = 10 ∨ j = 11 ∨ j = 12 ∨ j = 13 ∨ j = 14 ∨ j = 15 ∨ j = 16 := by omega
        rcases this with rfl | rfl | rfl | rfl | rfl | rfl | rfl | rfl | rfl | rfl | rfl | rfl | rfl | rfl | rfl | rfl | rfl <;> rfl
      have e4 : (i == 28) = true := by simpa using h4
      rw [cond_false, e1, cond_false, e2, cond_false, e3, cond_false, e4, cond_true, w_17, Option.bind_some, if_pos (by omega), ht _ hj]
      have hg : lineTab.getD (wn n 17).toNat [] = lineTab[(wn n 17).toNat] := by rw [List.getD_eq_getElem?_getD, List.getElem?_eq_getElem hj]; rfl
      rw [hg]
      rfl
    · have e4 : (i == 28) = false := by simpa using h4
      refine ⟨s, ⟨by omega, id⟩, fun R k0 => ?_⟩
      rw [cond_false, e1, cond_false, e2, cond_false, e3, cond_false, e4, cond_false]
theorem lineQ48 (n car i : Int) (s : ByteArray) (b : Bool) (hc : inI car = true) : ∃ t, beside s t ∧ ∀ (R : Type) (k0 : ByteArray → Option R), pLine_q48 n s car i b k0 k0 = k0 t := by
  unfold pLine_q48
  cases b with
  | true => exact ⟨_, okT_beside (n := 20) (okT_text (l := [117, 110, 100, 111]) (by decide) (by decide)) (by omega), fun R k0 => rfl⟩
  | false =>
    cases h : (i == 23) with
    | true => exact lineQ51 n car i s true hc
    | false => exact lineQ51 n car i s (i == 24) hc
theorem lineQ41 (n m car i : Int) (s : ByteArray) (b : Bool) (cs : List Car) (hcs : cs.length ≤ big) (a2 a3 a4 : List (List PV)) (hc : inI car = true) : ∃ t, beside s t ∧ ∀ (R : Type) (k0 : ByteArray → Option R), pLine_q41 n m s car i b (carRow cs) a2 a3 a4 k0 k0 = k0 t := by
  unfold pLine_q41
  cases b with
  | true =>
    unfold big at hcs
    have o1 : okT 4 (ByteArray.mk #[111, 112, 116, 32]) := okT_text (l := [111, 112, 116, 32]) (by decide) (by decide)
    have o2 : okT 1 (ByteArray.mk #[32]) := okT_text (l := [32]) (by decide) (by decide)
    have b1 := wn_bounds n (m := 12) (by omega)
    have b2 := wn_bounds m (m := 1000) (by omega)
    have i1 : inI (IntKind.i64.wrap (1 + wn n 12)) = true := inI_wrapped _
    have i2 : inI (wn m 1000) = true := inI_of (by omega) (by omega)
    have w4 : within_d (IntKind.i64.wrap (Int.tdiv m 7)) (IntKind.i64.wrap ((cs.length : Int) + 1)) = some (IntKind.i64.wrap (Int.tdiv m 7) % ((cs.length : Int) + 1)) := by
      rw [wrapN (n := (cs.length : Int) + 1) (by omega) (by omega)]
      exact within_val _ (by omega) (by omega)
    have b4 := Int.emod_nonneg (IntKind.i64.wrap (Int.tdiv m 7)) (b := (cs.length : Int) + 1) (by omega)
    have b5 := Int.emod_lt_of_pos (IntKind.i64.wrap (Int.tdiv m 7)) (b := (cs.length : Int) + 1) (by omega)
    have i4 : inI (IntKind.i64.wrap (Int.tdiv m 7) % ((cs.length : Int) + 1)) = true := inI_of (by omega) (by omega)
    have t1 := okT_add o1 (okT_dig i1)
    have t2 := okT_add t1 o2
    have t3 := okT_add t2 (okT_dig i2)
    have t4 := okT_add t3 o2
    have t5 := okT_add t4 (okT_dig hc)
    have t6 := okT_add o2 (okT_dig i4)
    have t7 := okT_add t5 t6
    by_cases h : wn n 3 > 0
    · refine ⟨_, okT_beside t7 (by omega), fun R k0 => ?_⟩
      rw [cond_true, w_12, Option.bind_some, rdig i1, Option.bind_some, if_pos (okT_room o1 (okT_dig i1) (by omega)), if_pos (okT_room t1 o2 (by omega)), w_1000, Option.bind_some, rdig i2, Option.bind_some, if_pos (okT_room t2 (okT_dig i2) (by omega)), if_pos (okT_room t3 o2 (by omega)), rdig hc, Option.bind_some, if_pos (okT_room t4 (okT_dig hc) (by omega)), w_3, Option.bind_some, decide_eq_true h, cond_true, carRow_length, w4, Option.bind_some, rdig i4, Option.bind_some, if_pos (okT_room o2 (okT_dig i4) (by omega)), if_pos (okT_room t5 t6 (by omega))]
    · refine ⟨_, okT_beside t5 (by omega), fun R k0 => ?_⟩
      rw [cond_true, w_12, Option.bind_some, rdig i1, Option.bind_some, if_pos (okT_room o1 (okT_dig i1) (by omega)), if_pos (okT_room t1 o2 (by omega)), w_1000, Option.bind_some, rdig i2, Option.bind_some, if_pos (okT_room t2 (okT_dig i2) (by omega)), if_pos (okT_room t3 o2 (by omega)), rdig hc, Option.bind_some, if_pos (okT_room t4 (okT_dig hc) (by omega)), w_3, Option.bind_some, decide_eq_false h, cond_false]
  | false =>
    cases h1 : (i == 20) with
    | true => exact lineQ48 n car i s true hc
    | false =>
      cases h2 : (i == 21) with
      | true => exact lineQ48 n car i s true hc
      | false => exact lineQ48 n car i s (i == 22) hc
theorem lineQ29 (n m stop car i : Int) (s place : ByteArray) (b : Bool) (cs : List Car) (hcs : cs.length ≤ big) (a2 a3 a4 : List (List PV)) (hst : inI stop = true) (hc : inI car = true) (hp : okT 200 place) : ∃ t, beside s t ∧ ∀ (R : Type) (k0 : ByteArray → Option R), pLine_q29 n m s stop car place i b (carRow cs) a2 a3 a4 k0 k0 = k0 t := by
  unfold pLine_q29
  have one : ∀ (l : List UInt8) (x : Int), l.length ≤ 10 → 10 ∉ l → inI x = true → ∃ t, beside s t ∧ ∀ (R : Type) (k0 : ByteArray → Option R), (Option.bind (sRDigits x) fun y => if (text l).size + y.size ≤ 140737488355328 then k0 (text l ++ y) else none) = k0 t := by
    intro l x hl h10 hx
    have o : okT 10 (text l) := okT_text hl h10
    exact ⟨_, okT_beside (okT_add o (okT_dig hx)) (by omega), fun R k0 => by rw [rdig hx, Option.bind_some, if_pos (okT_room o (okT_dig hx) (by omega))]⟩
  cases b with
  | true =>
    have o : okT 3 (ByteArray.mk #[109, 111, 118]) := okT_text (l := [109, 111, 118]) (by decide) (by decide)
    exact ⟨_, okT_beside (okT_add o hp) (by omega), fun R k0 => by rw [cond_true, if_pos (okT_room o hp (by omega))]⟩
  | false =>
    cases h1 : (i == 13) with
    | true => exact one [108, 111, 99, 107, 32] stop (by decide) (by decide) hst
    | false =>
      cases h2 : (i == 14) with
      | true => exact one [102, 114, 101, 101, 32] stop (by decide) (by decide) hst
      | false =>
        cases h3 : (i == 15) with
        | true => exact one [105, 99, 101, 32] car (by decide) (by decide) hc
        | false =>
          cases h4 : (i == 16) with
          | true => exact one [116, 104, 97, 119, 32] car (by decide) (by decide) hc
          | false =>
            cases h5 : (i == 17) with
            | true => exact lineQ41 n m car i s true cs hcs a2 a3 a4 hc
            | false =>
              cases h6 : (i == 18) with
              | true => exact lineQ41 n m car i s true cs hcs a2 a3 a4 hc
              | false => exact lineQ41 n m car i s (i == 19) cs hcs a2 a3 a4 hc
theorem lineQ25 (n m stop car i : Int) (s place : ByteArray) (b : Bool) (cs : List Car) (hcs : cs.length ≤ big) (a2 a3 a4 : List (List PV)) (hst : inI stop = true) (hc : inI car = true) (hp : okT 200 place) : ∃ t, beside s t ∧ ∀ (R : Type) (k0 : ByteArray → Option R), pLine_q25 n m s stop car place i b (carRow cs) a2 a3 a4 k0 k0 = k0 t := by
  unfold pLine_q25
  cases b with
  | true =>
    have o : okT 4 (ByteArray.mk #[100, 101, 108, 32]) := okT_text (l := [100, 101, 108, 32]) (by decide) (by decide)
    exact ⟨_, okT_beside (okT_add o (okT_dig hst)) (by omega), fun R k0 => by rw [cond_true, rdig hst, Option.bind_some, if_pos (okT_room o (okT_dig hst) (by omega))]⟩
  | false =>
    cases h1 : (i == 10) with
    | true => exact lineQ29 n m stop car i s place true cs hcs a2 a3 a4 hst hc hp
    | false =>
      cases h2 : (i == 11) with
      | true => exact lineQ29 n m stop car i s place true cs hcs a2 a3 a4 hst hc hp
      | false => exact lineQ29 n m stop car i s place (i == 12) cs hcs a2 a3 a4 hst hc hp
theorem lineQ22 (n m stop car i : Int) (s place : ByteArray) (b : Bool) (cs : List Car) (hcs : cs.length ≤ big) (a2 a3 a4 : List (List PV)) (hst : inI stop = true) (hc : inI car = true) (hp : okT 200 place) : ∃ t, beside s t ∧ ∀ (R : Type) (k0 : ByteArray → Option R), pLine_q22 n m s stop car place i b (carRow cs) a2 a3 a4 k0 k0 = k0 t := by
  unfold pLine_q22
  cases b with
  | true =>
    have o : okT 3 (ByteArray.mk #[97, 100, 100]) := okT_text (l := [97, 100, 100]) (by decide) (by decide)
    exact ⟨_, okT_beside (okT_add o hp) (by omega), fun R k0 => by rw [cond_true, if_pos (okT_room o hp (by omega))]⟩
  | false =>
    cases h1 : (i == 8) with
    | true => exact lineQ25 n m stop car i s place true cs hcs a2 a3 a4 hst hc hp
    | false => exact lineQ25 n m stop car i s place (i == 9) cs hcs a2 a3 a4 hst hc hp
theorem lineQ13 (k n m stop car : Int) (s place : ByteArray) (cs : List Car) (hcs : cs.length ≤ big) (a2 a3 a4 : List (List PV)) (hst : inI stop = true) (hc : inI car = true) (hp : okT 200 place) : ∃ t, beside s t ∧ ∀ (R : Type) (k0 : ByteArray → Option R), pLine_q13 k n m s stop car place (carRow cs) a2 a3 a4 k0 = k0 t := by
  unfold pLine_q13
  simp only [w_30, Option.bind_some]
  generalize wn k 30 = y
  have q := fun b => lineQ22 n m stop car y s place b cs hcs a2 a3 a4 hst hc hp
  cases y == (0 : Int) with
  | true => exact q true
  | false =>
    cases y == (1 : Int) with
    | true => exact q true
    | false =>
      cases y == (2 : Int) with
      | true => exact q true
      | false =>
        cases y == (3 : Int) with
        | true => exact q true
        | false =>
          cases y == (4 : Int) with
          | true => exact q true
          | false =>
            cases y == (5 : Int) with
            | true => exact q true
            | false =>
              cases y == (6 : Int) with
              | true => exact q true
              | false => exact q (y == 7)
theorem within_size (n : Int) {size : Int} (h0 : 0 ≤ size) (h1 : size ≤ 1099511627776) : within_d n (IntKind.i64.wrap (size + 1)) = some (n % (size + 1)) ∧ 0 ≤ n % (size + 1) ∧ n % (size + 1) ≤ size := by
  have b1 := Int.emod_nonneg n (b := size + 1) (by omega)
  have b2 := Int.emod_lt_of_pos n (b := size + 1) (by omega)
  refine ⟨?_, b1, by omega⟩
  rw [wrapN (n := size + 1) (by omega) (by omega)]
  exact within_val n (by omega) (by omega)
theorem lineQ12 (k n m stop car size : Int) (s place : ByteArray) (a1 a2 a3 a4 : List (List PV)) (h0 : 0 ≤ size) (h1 : size ≤ 1099511627776) (hp : okT 150 place) : ∃ p, okT 200 p ∧ ∀ (R : Type) (k0 : Int → Int → Int → ByteArray → Int → Int → ByteArray → List (List PV) → List (List PV) → List (List PV) → List (List PV) → Option R), pLine_q12 k n m s stop car size place a1 a2 a3 a4 k0 = k0 k n m s stop car p a1 a2 a3 a4 := by
  unfold pLine_q12
  have o2 : okT 1 (ByteArray.mk #[32]) := okT_text (l := [32]) (by decide) (by decide)
  obtain ⟨w1, _, _⟩ := within_size (IntKind.i64.wrap (Int.tdiv n 11)) h0 h1
  obtain ⟨w2, _, _⟩ := within_size (IntKind.i64.wrap (Int.tdiv m 5)) h0 h1
  have hz := inI_wrapped (IntKind.i64.wrap (IntKind.i64.wrap (Int.tdiv n 11) % (size + 1) + 1) + IntKind.i64.wrap (Int.tdiv (IntKind.i64.wrap (Int.tdiv m 5) % (size + 1)) 2))
  have t1 := okT_add o2 (okT_dig hz)
  have t2 := okT_add hp t1
  refine ⟨_, okT_mono t2 (by omega), fun R k0 => ?_⟩
  rw [w1, Option.bind_some, w2, Option.bind_some, rdig hz, Option.bind_some, if_pos (okT_room o2 (okT_dig hz) (by omega)), if_pos (okT_room hp t1 (by omega))]
/-- A problem's rows, each number of 64 bits, none too long. -/
structure Given (i : Inst) (a b c d : List (List PV)) : Prop where
  un : unInst a b c d = some i
  small : smallI i = true
theorem Given.mate {i : Inst} {a b c d : List (List PV)} (h : Given i a b c d) (s : Int) : sMate a b c d s = some (mateOf i.pairs s) := by
  unfold sMate
  rw [h.un, Option.bind_some, if_pos h.small]
theorem Given.first {i : Inst} {a b c d : List (List PV)} (h : Given i a b c d) (s : Int) : sFirst a b c d s = some (firstOf i.pairs s) := by
  unfold sFirst
  rw [h.un, Option.bind_some, if_pos h.small]
theorem mateOf_in : ∀ {l : List (Int × Int)} {s : Int}, (∀ c ∈ l, inI c.1 = true ∧ inI c.2 = true) → inI (mateOf l s) = true
  | [], _, _ => rfl
  | p :: r, s, h => by
    unfold mateOf
    split
    · exact (h p (by simp)).2
    · split
      · exact (h p (by simp)).1
      · exact mateOf_in fun c hc => h c (by simp [hc])
theorem lineQ10 (k n m stop car size : Int) (s place : ByteArray) (b : Bool) {i : Inst} {a1 a2 a3 a4 : List (List PV)} (g : Given i a1 a2 a3 a4) (h0 : 0 ≤ size) (h1 : size ≤ 1099511627776) (hc : inI car = true) (hp : okT 100 place) : ∃ p, okT 200 p ∧ ∀ (R : Type) (k0 : Int → Int → Int → ByteArray → Int → Int → ByteArray → List (List PV) → List (List PV) → List (List PV) → List (List PV) → Option R), pLine_q10 k n m s stop car size place b a1 a2 a3 a4 k0 = k0 k n m s stop car p a1 a2 a3 a4 := by
  unfold pLine_q10
  cases b with
  | false => exact ⟨place, okT_mono hp (by omega), fun R k0 => rfl⟩
  | true =>
    cases hf : firstOf i.pairs stop with
    | true =>
      obtain ⟨p, p1, p2⟩ := lineQ12 k n m stop car size s place a1 a2 a3 a4 h0 h1 (okT_mono hp (by omega))
      refine ⟨p, p1, fun R k0 => ?_⟩
      rw [cond_true, g.first, Option.bind_some, hf, Bool.not_true, cond_false]
      exact p2 R k0
    | false =>
      have hm : inI (mateOf i.pairs stop) = true := mateOf_in (unInst_inv g.un).2.2.2.2.2.2.1
      have o2 : okT 1 (ByteArray.mk #[32]) := okT_text (l := [32]) (by decide) (by decide)
      obtain ⟨w1, b1, b2⟩ := within_size (IntKind.i64.wrap (Int.tdiv n 11)) h0 h1
      have hz : inI (IntKind.i64.wrap (Int.tdiv n 11) % (size + 1)) = true := inI_of (by omega) (by omega)
      have t1 := okT_add o2 (okT_dig hm)
      have t2 := okT_add t1 o2
      have t3 := okT_add t2 (okT_dig hc)
      have t4 := okT_add t3 o2
      have t5 := okT_add t4 (okT_dig hz)
      obtain ⟨p, p1, p2⟩ := lineQ12 k n m stop car size s _ a1 a2 a3 a4 h0 h1 (okT_mono t5 (by omega))
      refine ⟨p, p1, fun R k0 => ?_⟩
      rw [cond_true, g.first, Option.bind_some, hf, Bool.not_false, cond_true, g.mate, Option.bind_some, rdig hm, Option.bind_some, if_pos (okT_room o2 (okT_dig hm) (by omega)), if_pos (okT_room t1 o2 (by omega)), rdig hc, Option.bind_some, if_pos (okT_room t2 (okT_dig hc) (by omega)), if_pos (okT_room t3 o2 (by omega)), w1, Option.bind_some, rdig hz, Option.bind_some, if_pos (okT_room t4 (okT_dig hz) (by omega))]
      exact p2 R k0
theorem lineQ8 (k n m stop car size : Int) (s : ByteArray) {i : Inst} {a1 a2 a3 a4 : List (List PV)} (g : Given i a1 a2 a3 a4) (h0 : 0 ≤ size) (h1 : size ≤ 1099511627776) (hst : inI stop = true) (hc : inI car = true) : ∃ t, beside s t ∧ ∀ (R : Type) (k0 : ByteArray → Option R), pLine_q8 k n m s stop car size a1 a2 a3 a4 k0 = k0 t := by
  unfold pLine_q8
  have o2 : okT 1 (ByteArray.mk #[32]) := okT_text (l := [32]) (by decide) (by decide)
  obtain ⟨w1, _, _⟩ := within_size (IntKind.i64.wrap (Int.tdiv n 11)) h0 h1
  have hz := inI_wrapped (IntKind.i64.wrap (Int.tdiv n 11) % (size + 1) + IntKind.i64.wrap (Int.tdiv (wn (IntKind.i64.wrap (Int.tdiv n 67)) 20) 19))
  have t1 := okT_add o2 (okT_dig hst)
  have t2 := okT_add t1 o2
  have t3 := okT_add t2 (okT_dig hc)
  have t4 := okT_add t3 o2
  have t5 := okT_add t4 (okT_dig hz)
  have hcs : i.cars.length ≤ big := by
    have := g.small
    simp only [smallI, Bool.and_eq_true, decide_eq_true_eq] at this
    exact this.1
  have hrow : a1 = carRow i.cars := (unInst_inv g.un).1
  have fin : ∀ b, ∃ t, beside s t ∧ ∀ (R : Type) (k0 : ByteArray → Option R), pLine_q10 k n m s stop car size (ByteArray.mk #[32] ++ text (dig stop) ++ ByteArray.mk #[32] ++ text (dig car) ++ ByteArray.mk #[32] ++ text (dig (IntKind.i64.wrap (IntKind.i64.wrap (Int.tdiv n 11) % (size + 1) + IntKind.i64.wrap (Int.tdiv (wn (IntKind.i64.wrap (Int.tdiv n 67)) 20) 19))))) b a1 a2 a3 a4
      (fun (k : Int) (n : Int) (m : Int) (s : ByteArray) (stop : Int) (car : Int) (place : ByteArray) (e1 e2 e3 e4 : List (List PV)) => pLine_q13 k n m s stop car place e1 e2 e3 e4 k0) = k0 t := by
    intro b
    obtain ⟨p, p1, p2⟩ := lineQ10 k n m stop car size s _ b g h0 h1 hc (okT_mono t5 (by omega))
    obtain ⟨t, q1, q2⟩ := lineQ13 k n m stop car s p i.cars hcs a2 a3 a4 hst hc p1
    refine ⟨t, q1, fun R k0 => ?_⟩
    rw [p2 R]
    rw [hrow]
    exact q2 R k0
  have pre : ∀ (R : Type) (K : ByteArray → Option R), (Option.bind (sRDigits stop) fun y78 =>
      if ((ByteArray.mk #[32])).size + (y78).size ≤ 140737488355328 then
        if (((ByteArray.mk #[32]) ++ y78)).size + ((ByteArray.mk #[32])).size ≤ 140737488355328 then
          Option.bind (sRDigits car) fun y79 =>
          if ((((ByteArray.mk #[32]) ++ y78) ++ (ByteArray.mk #[32]))).size + (y79).size ≤ 140737488355328 then
            if (((((ByteArray.mk #[32]) ++ y78) ++ (ByteArray.mk #[32])) ++ y79)).size + ((ByteArray.mk #[32])).size ≤ 140737488355328 then
              Option.bind (within_d (IntKind.i64.wrap (Int.tdiv n (11 : Int))) (IntKind.i64.wrap (size + (1 : Int)))) fun y80 =>
              Option.bind (within_d (IntKind.i64.wrap (Int.tdiv n (67 : Int))) 20) fun y81 =>
              Option.bind (sRDigits (IntKind.i64.wrap (y80 + (IntKind.i64.wrap (Int.tdiv y81 (19 : Int)))))) fun y82 =>
              if ((((((ByteArray.mk #[32]) ++ y78) ++ (ByteArray.mk #[32])) ++ y79) ++ (ByteArray.mk #[32]))).size + (y82).size ≤ 140737488355328 then K ((((((ByteArray.mk #[32]) ++ y78) ++ (ByteArray.mk #[32])) ++ y79) ++ (ByteArray.mk #[32])) ++ y82) else none
            else none
          else none
        else none
      else none) = K (ByteArray.mk #[32] ++ text (dig stop) ++ ByteArray.mk #[32] ++ text (dig car) ++ ByteArray.mk #[32] ++ text (dig (IntKind.i64.wrap (IntKind.i64.wrap (Int.tdiv n 11) % (size + 1) + IntKind.i64.wrap (Int.tdiv (wn (IntKind.i64.wrap (Int.tdiv n 67)) 20) 19))))) := by
    intro R K
    rw [rdig hst, Option.bind_some, if_pos (okT_room o2 (okT_dig hst) (by omega)), if_pos (okT_room t1 o2 (by omega)), rdig hc, Option.bind_some, if_pos (okT_room t2 (okT_dig hc) (by omega)), if_pos (okT_room t3 o2 (by omega)), w1, Option.bind_some, w_20, Option.bind_some, rdig hz, Option.bind_some, if_pos (okT_room t4 (okT_dig hz) (by omega))]
  by_cases hm : mateOf i.pairs stop > 0
  · obtain ⟨t, f1, f2⟩ := fin (decide (wn (IntKind.i64.wrap (Int.tdiv n 5)) 9 < 8))
    refine ⟨t, f1, fun R k0 => ?_⟩
    have := pre R (fun y => Option.bind (sMate a1 a2 a3 a4 stop) fun y83 =>
            cond (decide (y83 > (0 : Int))) (
              Option.bind (within_d (IntKind.i64.wrap (Int.tdiv n (5 : Int))) 9) fun y84 =>
              pLine_q10 k n m s stop car size y (decide (y84 < (8 : Int))) a1 a2 a3 a4
                (fun (k85 : Int) (n86 : Int) (m87 : Int) (s88 : ByteArray) (stop89 : Int) (car90 : Int) (place91 : ByteArray) (es92 : List (List PV)) (es93 : List (List PV)) (es94 : List (List PV)) (es95 : List (List PV)) =>
                  pLine_q13 k85 n86 m87 s88 stop89 car90 place91 es92 es93 es94 es95 k0)) (
              pLine_q10 k n m s stop car size y false a1 a2 a3 a4
                (fun (k97 : Int) (n98 : Int) (m99 : Int) (s100 : ByteArray) (stop101 : Int) (car102 : Int) (place103 : ByteArray) (es104 : List (List PV)) (es105 : List (List PV)) (es106 : List (List PV)) (es107 : List (List PV)) =>
                  pLine_q13 k97 n98 m99 s100 stop101 car102 place103 es104 es105 es106 es107 k0)))
    refine this.trans ?_
    rw [g.mate, Option.bind_some, decide_eq_true hm, cond_true, w_9, Option.bind_some]
    exact f2 R k0
  · obtain ⟨t, f1, f2⟩ := fin false
    refine ⟨t, f1, fun R k0 => ?_⟩
    have := pre R (fun y => Option.bind (sMate a1 a2 a3 a4 stop) fun y83 =>
            cond (decide (y83 > (0 : Int))) (
              Option.bind (within_d (IntKind.i64.wrap (Int.tdiv n (5 : Int))) 9) fun y84 =>
              pLine_q10 k n m s stop car size y (decide (y84 < (8 : Int))) a1 a2 a3 a4
                (fun (k85 : Int) (n86 : Int) (m87 : Int) (s88 : ByteArray) (stop89 : Int) (car90 : Int) (place91 : ByteArray) (es92 : List (List PV)) (es93 : List (List PV)) (es94 : List (List PV)) (es95 : List (List PV)) =>
                  pLine_q13 k85 n86 m87 s88 stop89 car90 place91 es92 es93 es94 es95 k0)) (
              pLine_q10 k n m s stop car size y false a1 a2 a3 a4
                (fun (k97 : Int) (n98 : Int) (m99 : Int) (s100 : ByteArray) (stop101 : Int) (car102 : Int) (place103 : ByteArray) (es104 : List (List PV)) (es105 : List (List PV)) (es106 : List (List PV)) (es107 : List (List PV)) =>
                  pLine_q13 k97 n98 m99 s100 stop101 car102 place103 es104 es105 es106 es107 k0)))
    refine this.trans ?_
    rw [g.mate, Option.bind_some, decide_eq_false hm, cond_false]
    exact f2 R k0
theorem lineQ5 (k n m stop car : Int) (s : ByteArray) {i : Inst} {a1 a2 a3 a4 : List (List PV)} (g : Given i a1 a2 a3 a4) {routes : List (List Int)} (hr : routes.length ≤ big) (hr' : ∀ r ∈ routes, r.length ≤ big) (p6 p7 p8 p9 p10 : List (List PV)) (p11 : Int) (hst : inI stop = true) (hc : inI car = true) : ∃ t, beside s t ∧ ∀ (R : Type) (k0 : ByteArray → Option R), pLine_q5 k n m s stop car a1 a2 a3 a4 (trRow routes) p6 p7 p8 p9 p10 p11 k0 = k0 t := by
  unfold pLine_q5 pLine_q7
  rw [trRow_length]
  have zero := lineQ8 k n m stop car 0 s g (by omega) (by omega) hst hc
  by_cases h0 : car ≥ 0
  · by_cases h1 : car < (routes.length : Int)
    · have hj : car.toNat < routes.length := by omega
      have hidx : idx (trRow routes) car = some [.fs (iRow routes[car.toNat])] := by
        have e : idx (trRow routes) ((car.toNat : Nat) : Int) = some [.fs (iRow routes[car.toNat])] := by
          rw [idx_nat, trRow, List.getElem?_map, List.getElem?_eq_getElem hj]
          rfl
        rwa [show ((car.toNat : Nat) : Int) = car by omega] at e
      have hl := hr' _ (List.getElem_mem hj)
      unfold big at hl
      obtain ⟨t, f1, f2⟩ := lineQ8 k n m stop car (routes[car.toNat].length : Int) s g (by omega) (by omega) hst hc
      refine ⟨t, f1, fun R k0 => ?_⟩
      have e0 : ([PV.fs (iRow routes[car.toNat])] : List PV)[0]? = some (PV.fs (iRow routes[car.toNat])) := rfl
      rw [decide_eq_true h0, cond_true, decide_eq_true h1, cond_true, hidx]
      simp only [Option.bind_some, List.length_singleton, if_true, e0, asFs_fs, iRow_length]
      exact f2 R k0
    · obtain ⟨t, f1, f2⟩ := zero
      refine ⟨t, f1, fun R k0 => ?_⟩
      rw [decide_eq_true h0, cond_true, decide_eq_false h1, cond_false]
      exact f2 R k0
  · obtain ⟨t, f1, f2⟩ := zero
    refine ⟨t, f1, fun R k0 => ?_⟩
    rw [decide_eq_false h0, cond_false, cond_false]
    exact f2 R k0
theorem pLine_some (k n m : Int) (s : ByteArray) {i : Inst} {a1 a2 a3 a4 : List (List PV)} (g : Given i a1 a2 a3 a4) {routes : List (List Int)} (hr : routes.length ≤ big) (hr' : ∀ r ∈ routes, r.length ≤ big) (p6 p7 p8 p9 p10 : List (List PV)) (p11 : Int) (hcars : 1 ≤ i.cars.length) :
    ∃ t, sPLine a1 a2 a3 a4 (trRow routes) p6 p7 p8 p9 p10 p11 k n m s = some t ∧ beside s t := by
  refine pLine_got a1 a2 a3 a4 (trRow routes) p6 p7 p8 p9 p10 p11 k n m s ?_
  have hs := g.small
  simp only [smallI, Bool.and_eq_true, decide_eq_true_eq] at hs
  have hcs := hs.1
  have hss := hs.2.1
  unfold big at hcs hss
  have hrow1 : a1.length = i.cars.length := by rw [(unInst_inv g.un).1, carRow_length]
  have hrow2 : a2.length = i.stops.length := by rw [(unInst_inv g.un).2.1, stpRow_length]
  obtain ⟨w1, _, _⟩ := within_size n (size := (i.stops.length : Int)) (by omega) (by omega)
  have b8 := wn_bounds (IntKind.i64.wrap (Int.tdiv n 31)) (m := 8) (by omega)
  have h7 : IntKind.i64.wrap (Int.tdiv (wn (IntKind.i64.wrap (Int.tdiv n 31)) 8) 7) = Int.tdiv (wn (IntKind.i64.wrap (Int.tdiv n 31)) 8) 7 := wrapN (by rw [Int.tdiv_eq_ediv_of_nonneg (by omega)]; omega) (by rw [Int.tdiv_eq_ediv_of_nonneg (by omega)]; omega)
  have h7b : 0 ≤ Int.tdiv (wn (IntKind.i64.wrap (Int.tdiv n 31)) 8) 7 ∧ Int.tdiv (wn (IntKind.i64.wrap (Int.tdiv n 31)) 8) 7 ≤ 1 := by rw [Int.tdiv_eq_ediv_of_nonneg (by omega)]; omega
  generalize hq : Int.tdiv (wn (IntKind.i64.wrap (Int.tdiv n 31)) 8) 7 = q at h7 h7b
  have w4 : within_d m (IntKind.i64.wrap ((i.cars.length : Int) + q)) = some (m % ((i.cars.length : Int) + q)) := by
    rw [wrapN (by omega) (by omega)]
    exact within_val _ (by omega) (by omega)
  have c1 := Int.emod_nonneg m (b := (i.cars.length : Int) + q) (by omega)
  have c2 := Int.emod_lt_of_pos m (b := (i.cars.length : Int) + q) (by omega)
  obtain ⟨t, f1, f2⟩ := lineQ5 k n m (IntKind.i64.wrap (n % ((i.stops.length : Int) + 1) + IntKind.i64.wrap (Int.tdiv (wn (IntKind.i64.wrap (Int.tdiv n 50)) 20) 18))) (m % ((i.cars.length : Int) + q)) s g hr hr' p6 p7 p8 p9 p10 p11 (inI_wrapped _) (inI_of (by omega) (by omega))
  refine ⟨t, f1, fun R k0 => ?_⟩
  unfold pLine_b
  rw [hrow1, hrow2]
  simp only [w1, w_20, w_8, Option.bind_some, hq, h7, w4, meet_self]
  exact f2 R k0
end Go.Proofs.YtkeklbicmfhemaaDoorV
