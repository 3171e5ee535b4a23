/- Frames: lines come in the order of their ends. -/
import Derived.Test.YtgpjnppakffoiaaM19
namespace Go.Proofs.YtgpjnppakffoiaaV
open Go

/-- What the law takes of a text. -/
def strip (s : ByteArray) : List UInt8 := (s.data.toList.take 40).filter fun c => c != 10
theorem text_append (a b : List UInt8) : text a ++ text b = text (a ++ b) := by
  apply bytes_ext
  simp [text, ByteArray.data_append]
theorem text_size (a : List UInt8) : (text a).size = a.length := by simp [text, ByteArray.size]
theorem text_extract (a : List UInt8) (i j : Nat) : ByteArray.extract (text a) i j = text ((a.take j).drop i) := by
  apply bytes_ext
  simp [text, ByteArray.data_extract, List.extract_eq_take_drop, List.drop_take]
theorem text_of (s : ByteArray) : s = text s.data.toList := by apply bytes_ext; simp [text]
theorem idx_sRow (pre : List ByteArray) (s : ByteArray) (rest : List ByteArray) : idx (sRow (pre ++ s :: rest)) (pre.length : Int) = some [PV.str s] := by
  have := idx_at (sRow pre) [PV.str s] (sRow rest)
  rw [sRow_length] at this
  simpa [sRow] using this

theorem bytes_size (s : ByteArray) : s.size = s.data.toList.length := by rw [Array.length_toList]; rfl
theorem u8_ne (c : UInt8) : (((c.toNat : Int) != 10) : Bool) = !decide (c = 10) := by rw [bne, u8_eq]
theorem order_inner {R : Type} {l : List (List PV)} {cut i : Int} {t : ByteArray} {s : ByteArray} (hi : idx l i = some [PV.str s]) (es es' : List (List PV)) (k0 : List (List PV) → Int → ByteArray → Int → ByteArray → List (List PV) → List (List PV) → Option R) :
    ∀ (d : Nat) (rest pre acc : List UInt8) (n : Nat), s.data.toList = pre ++ rest → d = 40 - pre.length → pre.length ≤ 40 → acc.length ≤ pre.length → d < n →
      frameOrder_l11 n l cut t i (text acc) (pre.length : Int) es es' k0 = k0 l cut t i (text (acc ++ (rest.take d).filter fun c => c != 10)) es es'
  | d, [], pre, acc, n + 1, hs, hd, hp, ha, hn => by
    have hsz : s.size = pre.length := by
      rw [bytes_size, hs]
      simp
    unfold frameOrder_l11
    rw [hi]
    simp only [Option.bind_some, List.length_singleton, if_true, List.getElem?_cons_zero, PV.asS]
    rw [hsz, show decide ((pre.length : Int) < (pre.length : Int)) = false by simp, cond_false]
    simp
  | 0, c :: rest, pre, acc, n + 1, hs, hd, hp, ha, hn => by
    have hsz : s.size = pre.length + rest.length + 1 := by
      rw [bytes_size, hs]
      simp
      omega
    unfold frameOrder_l11
    rw [hi]
    simp only [Option.bind_some, List.length_singleton, if_true, List.getElem?_cons_zero, PV.asS]
    rw [hsz, show decide ((pre.length : Int) < ((pre.length + rest.length + 1 : Nat) : Int)) = true by simp; omega, cond_true, show decide ((pre.length : Int) < 40) = false by simp; omega, cond_false]
    simp
  | d + 1, c :: rest, pre, acc, n + 1, hs, hd, hp, ha, hn => by
    have hsz : s.size = pre.length + rest.length + 1 := by
      rw [bytes_size, hs]
      simp
      omega
    have hw : IntKind.i64.wrap ((pre.length : Int) + 1) = ((pre ++ [c]).length : Int) := by
      rw [wrap_i64 (by omega) (by omega)]
      simp
    have hidx : idx s.data.toList (pre.length : Int) = some c := by rw [hs]; exact idx_at _ _ _
    have hnext : s.data.toList = (pre ++ [c]) ++ rest := by rw [hs]; simp
    have hext : ByteArray.extract s (Int.toNat (pre.length : Int)) (Int.toNat ((pre ++ [c]).length : Int)) = text [c] := by
      conv => lhs; rw [text_of s]
      rw [text_extract, Int.toNat_natCast, Int.toNat_natCast, hnext, List.take_append_of_le_length (by simp), List.take_of_length_le (by simp)]
      simp
    unfold frameOrder_l11
    rw [hi]
    simp only [Option.bind_some, List.length_singleton, if_true, List.getElem?_cons_zero, PV.asS]
    rw [hsz, show decide ((pre.length : Int) < ((pre.length + rest.length + 1 : Nat) : Int)) = true by simp; omega, cond_true, show decide ((pre.length : Int) < 40) = true by simp; omega, cond_true, hidx, hw]
    simp only [Option.bind_some, u8_ne]
    by_cases hc : c = 10
    · rw [decide_eq_true hc]
      simp only [Bool.not_true, cond_false]
      refine (order_inner hi es es' k0 d rest (pre ++ [c]) acc n hnext (by simp; omega) (by simp; omega) (by simp; omega) (by omega)).trans ?_
      simp [hc]
    · rw [decide_eq_false hc]
      simp only [Bool.not_false, cond_true]
      rw [if_pos ⟨by omega, by simp; omega, by simp; omega⟩, hext, text_size, text_size, if_pos (by simp; omega), text_append]
      refine (order_inner hi es es' k0 d rest (pre ++ [c]) (acc ++ [c]) n hnext (by simp; omega) (by simp; omega) (by simp; omega) (by omega)).trans ?_
      simp [hc]

theorem strip_len (s : ByteArray) : (strip s).length ≤ 40 := by
  unfold strip
  refine Nat.le_trans (List.length_filter_le _ _) ?_
  simp
  omega
theorem strip_plain (s : ByteArray) : (10 : UInt8) ∉ strip s := by
  unfold strip
  simp
/-- All of the texts, each with its end. -/
def ends (W : List (List UInt8)) : List UInt8 := W.flatMap fun s => s ++ [10]
theorem ends_len : ∀ (W : List ByteArray), (ends (W.map strip)).length ≤ 41 * W.length
  | [] => by simp [ends]
  | s :: W => by
    have h1 := strip_len s
    have h2 := ends_len W
    simp only [ends, List.map_cons, List.flatMap_cons, List.length_append, List.length_singleton, List.length_cons, List.length_nil] at h2 ⊢
    omega

theorem order_rounds {R : Type} {l : List ByteArray} {cut : Int} (hll : l.length ≤ maxLen) (es : List (List PV)) (k0 : Int → ByteArray → List (List PV) → List (List PV) → Option R) : ∀ (d : Nat) (rest pre : List ByteArray) (T : List UInt8) (n : Nat), l = pre ++ rest → d = 10 - pre.length → pre.length ≤ 10 → d + 42 < n → T.length ≤ 41 * pre.length →
    frameOrder_l7 n (sRow l) cut (text T) (pre.length : Int) es (sRow (pre.map fun s => text (strip s))) k0 = k0 cut (text (T ++ ends ((rest.take d).map strip))) es (sRow ((pre ++ rest.take d).map fun s => text (strip s)))
  | d, [], pre, T, n + 1, hl, hd, hp, hn, hT => by
    have hlen : l.length = pre.length := by rw [hl]; simp
    unfold frameOrder_l7
    rw [sRow_length, show decide ((pre.length : Int) < (l.length : Int)) = false by simp; omega, cond_false]
    simp [ends]
  | 0, s :: rest, pre, T, n + 1, hl, hd, hp, hn, hT => by
    have hlen : l.length = pre.length + rest.length + 1 := by rw [hl]; simp; omega
    unfold frameOrder_l7
    rw [sRow_length, show decide ((pre.length : Int) < (l.length : Int)) = true by simp; omega, cond_true, show decide ((pre.length : Int) < 10) = false by simp; omega, cond_false]
    simp [ends]
  | d + 1, s :: rest, pre, T, n + 1, hl, hd, hp, hn, hT => by
    have hlen : l.length = pre.length + rest.length + 1 := by rw [hl]; simp; omega
    have hi : idx (sRow l) (pre.length : Int) = some [PV.str s] := by rw [hl]; exact idx_sRow _ _ _
    have hw : IntKind.i64.wrap ((pre.length : Int) + 1) = ((pre ++ [s]).length : Int) := by
      rw [wrap_i64 (by omega) (by omega)]
      simp
    have hnext : l = (pre ++ [s]) ++ rest := by rw [hl]; simp
    have hsl := strip_len s
    unfold frameOrder_l7
    rw [sRow_length, show decide ((pre.length : Int) < (l.length : Int)) = true by simp; omega, cond_true, show decide ((pre.length : Int) < 10) = true by simp; omega, cond_true]
    refine (order_inner hi es _ _ 40 s.data.toList [] [] n rfl rfl (by simp) (by simp) (by omega)).trans ?_
    rw [show text ([] ++ (s.data.toList.take 40).filter fun c => c != 10) = text (strip s) from rfl, show ByteArray.mk #[10] = text [10] from rfl, text_append, text_append, text_size, text_size, text_size, text_size, sRow_length, hw]
    rw [if_pos (by simp; omega), if_pos (by simp; omega), if_pos (by simp [maxBytes]; omega)]
    have e : sRow (pre.map fun s => text (strip s)) ++ [[PV.str (text (strip s))]] = sRow ((pre ++ [s]).map fun s => text (strip s)) := by simp [sRow]
    rw [e]
    refine (order_rounds hll es k0 d rest (pre ++ [s]) (T ++ (strip s ++ [10])) n hnext (by simp; omega) (by simp; omega) (by omega) (by simp; omega)).trans ?_
    simp [ends]

theorem lines_end : ∀ (s cur rest : List UInt8), (10 : UInt8) ∉ s → lines cur (s ++ 10 :: rest) = (lineOf (cur ++ s) :: (lines [] rest).1, (lines [] rest).2)
  | [], cur, rest, _ => by simp [lines]
  | c :: s, cur, rest, h => by
    simp only [List.mem_cons, not_or] at h
    simp only [List.cons_append, lines]
    rw [if_neg (fun e => h.1 e.symm), lines_end s (cur ++ [c]) rest h.2]
    simp
theorem feed_ends : ∀ (W : List ByteArray), feed [] (ends (W.map strip)) = (W.map fun s => (text (strip s), false), []) := by
  intro W
  have h : lines [] (ends (W.map strip)) = (W.map fun s => (text (strip s), false), []) := by
    induction W with
    | nil => simp [ends, lines]
    | cons s W ih =>
      have e : ends ((s :: W).map strip) = strip s ++ 10 :: ends (W.map strip) := by simp [ends]
      rw [e, lines_end _ _ _ (strip_plain s), ih]
      have := strip_len s
      simp only [List.nil_append, List.map_cons, lineOf]
      rw [if_neg (by omega)]
  have h2 := feed_lines (ends (W.map strip)) []
  simp only [List.take_nil] at h2
  rw [h2, h]
  rfl

theorem order_same {R : Type} {W : List ByteArray} (hW : W.length ≤ 10) (F : List (List PV)) (k0 : Bool → Option R) (k1 : List (List PV) → Option R) : ∀ (rest pre : List ByteArray) (n : Nat), W = pre ++ rest → rest.length < n →
    frameOrder_l22 n (W.length : Int) (pre.length : Int) F (sRow (W.map fun s => text (strip s))) (lRow (W.map fun s => (text (strip s), false))) k0 k1 = k1 F
  | [], pre, n + 1, h, _ => by
    have hl : W.length = pre.length := by rw [h]; simp
    unfold frameOrder_l22
    rw [show decide ((pre.length : Int) < (W.length : Int)) = false by simp; omega, cond_false]
  | s :: rest, pre, n + 1, h, hn => by
    have hl : W.length = pre.length + rest.length + 1 := by rw [h]; simp; omega
    have hw : IntKind.i64.wrap ((pre.length : Int) + 1) = ((pre ++ [s]).length : Int) := by
      rw [wrap_i64 (by omega) (by omega)]
      simp
    have hnext : W = (pre ++ [s]) ++ rest := by rw [h]; simp
    have h1 : (lRow (W.map fun s => (text (strip s), false)))[Int.toNat (pre.length : Int)]? = some [PV.str (text (strip s)), PV.bool false] := by
      have := idxN_lRow (l := W.map fun s => (text (strip s), false)) (pre := pre.map fun s => (text (strip s), false)) (rest := rest.map fun s => (text (strip s), false)) (x := (text (strip s), false)) (by rw [h]; simp)
      rw [List.length_map] at this
      exact this
    have h2 : (sRow (W.map fun s => text (strip s)))[Int.toNat (pre.length : Int)]? = some [PV.str (text (strip s))] := by
      rw [Int.toNat_natCast, h]
      simp [sRow]
    have h3 : ((lRow (W.map fun s => (text (strip s), false))).length : Int) = (W.length : Int) := by rw [lRow_length]; simp
    have h4 : ((sRow (W.map fun s => text (strip s))).length : Int) = (W.length : Int) := by rw [sRow_length]; simp
    unfold frameOrder_l22
    rw [show decide ((pre.length : Int) < (W.length : Int)) = true by simp; omega, cond_true, h3, h4, if_pos ⟨by omega, by omega⟩, if_pos ⟨by omega, by omega⟩, if_pos ⟨by omega, by omega⟩, h1, h2, hw]
    simp only [Option.bind_some, List.getElem?_cons_zero, List.getElem?_cons_succ, PV.asS, PV.asB, beq_self_eq_true, Bool.not_true, cond_false, meet_self]
    exact order_same hW F k0 k1 rest (pre ++ [s]) n hnext (by simpa using hn)

theorem frameOrder_ok : ∀ (l1 : List (List PV)) (cut2 : Int) (y : Bool), sFrameOrder l1 cut2 = some y → ∃ n, ∀ (R : Type) (k : Bool → Option R), frameOrder_b n l1 cut2 k = k y := by
  intro l1 cut2 y h
  simp only [sFrameOrder, Option.bind_eq_some_iff] at h
  obtain ⟨l, h1, h3⟩ := h
  split at h3
  case isFalse => cases h3
  rename_i hcut
  cases h3
  obtain rfl := unS_inv h1
  refine ⟨54, fun R k => ?_⟩
  unfold frameOrder_b
  rw [new_ok, Option.bind_some]
  refine (order_rounds hcut.1 _ _ 10 l [] [] 54 rfl rfl (by simp) (by omega) (by simp)).trans ?_
  generalize hW : l.take 10 = W
  have hWl : W.length ≤ 10 := by rw [← hW]; simp; omega
  have hE := ends_len W
  generalize hEe : ends (W.map strip) = E at hE
  have hfe : feed [] E = (W.map fun s => (text (strip s), false), []) := by rw [← hEe]; exact feed_ends W
  simp only [List.nil_append, text_size]
  have hw : IntKind.i64.wrap ((E.length : Int) + 1) = (E.length : Int) + 1 := wrap_i64 (by omega) (by omega)
  have hpos : (0 : Int) < (E.length : Int) + 1 := by omega
  have h3 := Int.emod_nonneg cut2 (show (E.length : Int) + 1 ≠ 0 by omega)
  have h4 := Int.emod_lt_of_pos cut2 hpos
  obtain ⟨m, hm⟩ := Int.eq_ofNat_of_zero_le h3
  have hmE : m ≤ E.length := by omega
  rw [hw, within_val _ hpos (by omega), Option.bind_some, hm]
  rw [if_pos ⟨by omega, by omega, by omega⟩, if_pos ⟨by omega, by omega, by omega⟩]
  have hx1 : ByteArray.extract (text E) 0 (Int.toNat (m : Int)) = text (E.take m) := by rw [text_extract, Int.toNat_natCast, List.drop_zero]
  have hx2 : ByteArray.extract (text E) (Int.toNat (m : Int)) (Int.toNat (E.length : Int)) = text (E.drop m) := by rw [text_extract, Int.toNat_natCast, Int.toNat_natCast, List.take_of_length_le (by omega)]
  rw [hx1, hx2, text_size, text_size]
  have hb1 : bytesOf (text (E.take m)) = bRow (E.take m) := by rw [bytesOf_row]; simp [text]
  have hb2 : bytesOf (text (E.drop m)) = bRow (E.drop m) := by rw [bytesOf_row]; simp [text]
  rw [hb1, hb2]
  have hleft := feed_left (E.take m) [] (by simp)
  have hs1 : sFeed ([] : List (List PV)) (bRow (E.take m)) = some (lRow (feed [] (E.take m)).1, bRow (feed [] (E.take m)).2) := sFeed_row (f := []) (by simp) (by simp only [big, List.length_take]; omega)
  have hs2 := sFeed_row (f := (feed [] (E.take m)).2) (b := E.drop m) hleft (by simp only [big, List.length_drop]; omega)
  have hboth := feed_append (E.take m) (E.drop m) []
  rw [List.take_append_drop, hfe] at hboth
  obtain ⟨hA, hL⟩ := Prod.mk.injEq .. ▸ hboth
  have hn1 := feed_len (E.take m) []
  have hn2 := feed_len (E.drop m) (feed [] (E.take m)).2
  simp only [List.length_take, List.length_drop] at hn1 hn2
  have hmax1 : (E.take m).length ≤ maxBytes := by simp [maxBytes]; omega
  have hmax2 : (E.drop m).length ≤ maxBytes := by simp [maxBytes]; omega
  have hmax3 : ((feed [] (E.take m)).1.length + (feed (feed [] (E.take m)).2 (E.drop m)).1.length) * 24 ≤ maxBytes := by simp only [maxBytes]; omega
  have hlens : ((lRow (W.map fun s => (text (strip s), false))).length : Int) = (W.length : Int) := by rw [lRow_length]; simp
  have hlens2 : ((sRow (W.map fun s => text (strip s))).length : Int) = (W.length : Int) := by rw [sRow_length]; simp
  have hfin : sFeed (bRow []) [] = some (lRow [], bRow []) := by kernel_rfl
  have hfin2 : sFeed (bRow []) [[PV.int .u8 120]] = some (lRow [], bRow [120]) := by kernel_rfl
  have hsame := order_same (R := R) hWl (bRow []) (fun b => k b) (fun es => Option.bind (sFeed es []) fun y13 =>
    cond ((y13.1.length : Int) == (0 : Int)) (
      Option.bind (sFeed y13.2 [[(PV.int .u8 120)]]) fun y14 =>
      cond ((y14.1.length : Int) == (0 : Int)) (
        Option.bind (frLeft_d y14.2) fun y15 =>
        cond (y15 == (1 : Int)) (
          Option.bind (wakes19_d) fun y16 =>
          k y16) (
          k false)) (
        k false)) (
      k false)) W [] 54 rfl (by omega)
  simp only [hs1, hs2, Option.bind_some, if_pos hmax1, if_pos hmax2, lRow_length, if_pos hmax3, ← lRow_append, ← hA, ← hL, hlens2, List.length_map, bne_self_eq_false, cond_false, meet_self]
  refine hsame.trans ?_
  rw [hfin, Option.bind_some]
  simp only [lRow_length, List.length_nil]
  rw [hfin2]
  simp only [Option.bind_some, lRow_length, List.length_nil, left_ok, wakes19_ok]
  rfl
end Go.Proofs.YtgpjnppakffoiaaV
