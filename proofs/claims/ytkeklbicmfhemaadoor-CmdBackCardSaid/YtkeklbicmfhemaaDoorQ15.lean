/- Chapter 15: commands read of words, and printed. -/
import Derived.Test.YtkeklbicmfhemaaDoorD15
import Derived.Test.YtkeklbicmfhemaaDoorQ02c
import Derived.Test.YtkeklbicmfhemaaDoorS15
namespace Go.Proofs.YtkeklbicmfhemaaDoorV
open Go
set_option maxRecDepth 20000
set_option linter.unusedSimpArgs false

theorem decode_text {l pre rest : List UInt8} {c : UInt8} (h : l = pre ++ c :: rest) (ha : c.toNat < 128) : Utf8.decode (text l) pre.length = (c.toNat, 1) := by
  have hlt : pre.length < (text l).size := by rw [text_size, h]; simp
  have he : (text l)[pre.length]'hlt = c := by
    show l.toArray[pre.length]'_ = c
    simp [h]
  rw [decode_ascii (text l) pre.length hlt (by rw [he]; exact ha), he]
theorem put_cond {R : Type} (F : Int → Int → Int → Int → Int → Int → Int → Int → Option R) (b : UInt8) (c : Cm) (n : Int) :
    (cond ((b.toNat : Int) == 115) (F c.1 n c.2.2.1 c.2.2.2.1 c.2.2.2.2.1 c.2.2.2.2.2.1 c.2.2.2.2.2.2.1 c.2.2.2.2.2.2.2)
      (cond ((b.toNat : Int) == 99) (F c.1 c.2.1 n c.2.2.2.1 c.2.2.2.2.1 c.2.2.2.2.2.1 c.2.2.2.2.2.2.1 c.2.2.2.2.2.2.2)
        (cond ((b.toNat : Int) == 97) (F c.1 c.2.1 c.2.2.1 n c.2.2.2.2.1 c.2.2.2.2.2.1 c.2.2.2.2.2.2.1 c.2.2.2.2.2.2.2)
          (cond ((b.toNat : Int) == 109) (F c.1 c.2.1 c.2.2.1 c.2.2.2.1 n c.2.2.2.2.2.1 c.2.2.2.2.2.2.1 c.2.2.2.2.2.2.2)
            (cond ((b.toNat : Int) == 98) (F c.1 c.2.1 c.2.2.1 c.2.2.2.1 c.2.2.2.2.1 n c.2.2.2.2.2.2.1 c.2.2.2.2.2.2.2)
              (cond ((b.toNat : Int) == 120) (F c.1 c.2.1 c.2.2.1 c.2.2.2.1 c.2.2.2.2.1 c.2.2.2.2.2.1 n c.2.2.2.2.2.2.2)
                (F c.1 c.2.1 c.2.2.1 c.2.2.2.1 c.2.2.2.2.1 c.2.2.2.2.2.1 c.2.2.2.2.2.2.1 n))))))) =
      F (putC c b n).1 (putC c b n).2.1 (putC c b n).2.2.1 (putC c b n).2.2.2.1 (putC c b n).2.2.2.2.1 (putC c b n).2.2.2.2.2.1 (putC c b n).2.2.2.2.2.2.1 (putC c b n).2.2.2.2.2.2.2 := by
  have e : ∀ d : UInt8, (((b.toNat : Int) == (d.toNat : Int)) : Bool) = decide (b = d) := fun d => by
    rw [u8_cast, Bool.eq_iff_iff]
    simp
  rw [show ((b.toNat : Int) == 115) = _ from e 115, show ((b.toNat : Int) == 99) = _ from e 99, show ((b.toNat : Int) == 97) = _ from e 97, show ((b.toNat : Int) == 109) = _ from e 109, show ((b.toNat : Int) == 98) = _ from e 98, show ((b.toNat : Int) == 120) = _ from e 120]
  unfold putC
  by_cases h1 : b = 115
  · rw [decide_eq_true h1, cond_true, if_pos h1]
  rw [decide_eq_false h1, cond_false, if_neg h1]
  by_cases h2 : b = 99
  · rw [decide_eq_true h2, cond_true, if_pos h2]
  rw [decide_eq_false h2, cond_false, if_neg h2]
  by_cases h3 : b = 97
  · rw [decide_eq_true h3, cond_true, if_pos h3]
  rw [decide_eq_false h3, cond_false, if_neg h3]
  by_cases h4 : b = 109
  · rw [decide_eq_true h4, cond_true, if_pos h4]
  rw [decide_eq_false h4, cond_false, if_neg h4]
  by_cases h5 : b = 98
  · rw [decide_eq_true h5, cond_true, if_pos h5]
  rw [decide_eq_false h5, cond_false, if_neg h5]
  by_cases h6 : b = 120
  · rw [decide_eq_true h6, cond_true, if_pos h6]
  rw [decide_eq_false h6, cond_false, if_neg h6]
def numR (w : List UInt8) : Int × Bool := match numW w with | some n => (n, true) | none => (0, false)
theorem cNumber_ok {w : List UInt8} (hw : w.length ≤ lim) : cNumber_d (text w) = some (numR w) := by
  unfold cNumber_d cNumber_b numR numW
  rw [sInt_ok hw, Option.bind_some]
  cases h : (intV w).2 with
  | false => rw [Bool.not_false, cond_true, if_neg (by simp)]
  | true =>
    rw [Bool.not_true, cond_false]
    by_cases h1 : (intV w).1 < 0
    · rw [decide_eq_true h1, cond_true, if_neg (by omega)]
    · rw [decide_eq_false h1, cond_false]
      by_cases h2 : (intV w).1 > 999
      · rw [decide_eq_true h2, cond_true, if_neg (by omega)]
      · rw [decide_eq_false h2, cond_false, if_pos ⟨rfl, by omega, by omega⟩]
theorem read_rounds {R : Type} {W : List (List UInt8)} {to : List UInt8} (hto : to.length ≤ 100) (ha : ∀ b ∈ to, b.toNat < 128) (hW : W.length = 1 + to.length) (hs : ∀ w ∈ W, w.length ≤ lim) (z1 z2 z3 z4 z5 z6 z7 z8 : Int)
    (k0 : Bool → Int → Int → Int → Int → Int → Int → Int → Int → Option R) (k1 : Int → Int → Int → Int → Int → Int → Int → Int → Int → Int → Int → Int → Int → Int → Int → Int → Option R) : ∀ (rest pre : List UInt8) (wr wp : List (List UInt8)) (c : Cm) (n : Nat), to = pre ++ rest → W = wp ++ wr → wp.length = 1 + pre.length → rest.length < n →
    cRead_l5 n (sRow (W.map text)) z1 z2 z3 z4 z5 z6 z7 z8 c.1 c.2.1 c.2.2.1 c.2.2.2.1 c.2.2.2.2.1 c.2.2.2.2.2.1 c.2.2.2.2.2.2.1 c.2.2.2.2.2.2.2 (text to) pre.length k0 k1 =
      match fillC rest wr c with
      | some d => k1 z1 z2 z3 z4 z5 z6 z7 z8 d.1 d.2.1 d.2.2.1 d.2.2.2.1 d.2.2.2.2.1 d.2.2.2.2.2.1 d.2.2.2.2.2.2.1 d.2.2.2.2.2.2.2
      | none => k0 false 0 0 0 0 0 0 0 0
  | [], pre, wr, wp, c, n, e, e', hl, hn => by
    obtain ⟨m, rfl⟩ : ∃ m, n = m + 1 := ⟨n - 1, by omega⟩
    simp only [List.append_nil] at e
    subst e
    unfold cRead_l5 fillC
    rw [if_neg (by rw [text_size]; omega)]
  | b :: rest, pre, wr, wp, c, n, e, e', hl, hn => by
    obtain ⟨m, rfl⟩ : ∃ m, n = m + 1 := ⟨n - 1, by omega⟩
    have hlen : to.length = pre.length + (rest.length + 1) := by rw [e]; simp
    cases wr with
    | nil => rw [List.append_nil] at e'; subst e'; omega
    | cons w wr =>
      have hw : w.length ≤ lim := hs w (by rw [e']; simp)
      have hidx : idx (sRow (W.map text)) (IntKind.i64.wrap (1 + (pre.length : Int))) = some [PV.str (text w)] := by
        rw [wrapN (by omega) (by omega), show (1 + (pre.length : Int)) = ((wp.map text).length : Int) by rw [List.length_map]; omega, e', List.map_append, List.map_cons]
        exact idx_sRow (wp.map text) (text w) (wr.map text)
      have hb : b.toNat < 128 := ha b (by rw [e]; simp)
      have hd := decode_text e hb
      unfold cRead_l5
      rw [if_pos (by rw [text_size]; omega), hidx, Option.bind_some, if_pos (show [PV.str (text w)].length = 1 from rfl), List.getElem?_cons_zero, Option.bind_some]
      simp only [PV.asS, Option.bind_some, hd]
      rw [cNumber_ok hw, Option.bind_some]
      rw [fillC]
      unfold numR
      cases hn' : numW w with
      | none => simp only [Bool.not_false, cond_true, Option.bind_none]
      | some v =>
        simp only [Bool.not_true, cond_false, Option.bind_some]
        refine (put_cond (fun a b c d e f g h => cRead_l5 m (sRow (W.map text)) z1 z2 z3 z4 z5 z6 z7 z8 a b c d e f g h (text to) (pre.length + 1) k0 k1) b c v).trans ?_
        have ih := read_rounds hto ha hW hs z1 z2 z3 z4 z5 z6 z7 z8 k0 k1 rest (pre ++ [b]) wr (wp ++ [w]) (putC c b v) m (by rw [e]; simp) (by rw [e']; simp) (by simp; omega) (by simp at hn; omega)
        rw [show (pre ++ [b]).length = pre.length + 1 by simp] at ih
        exact ih

theorem sRow_text (ws : List ByteArray) : sRow ((ws.map fun w => w.data.toList).map text) = sRow ws := by
  congr 1
  rw [List.map_map]
  refine (List.map_congr_left fun s _ => ?_).trans (List.map_id _)
  exact text_of s
/-- The form's own conditions: so few letters, each of 7 bits. -/
def okF (f : Form) : Prop := inI f.2.1 = true ∧ f.2.2.length ≤ 100 ∧ ∀ b ∈ f.2.2, b.toNat < 128
theorem read_core {f : Form} (hf : okF f) {W : List (List UInt8)} (hW : W ≠ []) (hb : W.length ≤ big) (hs : ∀ w ∈ W, w.length ≤ lim) {R : Type} (k : Int → Int → Int → Int → Int → Int → Int → Int → Bool → Option R) :
    cRead_b (f.2.2.length + 1) (text f.1) f.2.1 (text f.2.2) (sRow (W.map text)) k =
      match readC f W with
      | some c => k c.1 c.2.1 c.2.2.1 c.2.2.2.1 c.2.2.2.2.1 c.2.2.2.2.2.1 c.2.2.2.2.2.2.1 c.2.2.2.2.2.2.2 true
      | none => k 0 0 0 0 0 0 0 0 false := by
  obtain ⟨h1, h2, h3⟩ := hf
  obtain ⟨w, wr, rfl⟩ : ∃ w wr, W = w :: wr := by cases W with | nil => exact absurd rfl hW | cons w wr => exact ⟨w, wr, rfl⟩
  have hidx : idx (sRow ((w :: wr).map text)) (0 : Int) = some [PV.str (text w)] := by
    have := idx_sRow [] (text w) (wr.map text)
    simpa using this
  unfold big at hb
  have hlen : (sRow ((w :: wr).map text)).length = wr.length + 1 := by simp [sRow]
  unfold cRead_b
  rw [hidx, Option.bind_some, if_pos (show [PV.str (text w)].length = 1 from rfl), List.getElem?_cons_zero, Option.bind_some]
  simp only [PV.asS, Option.bind_some]
  rw [text_toList, text_toList, beq_list]
  unfold readC
  rw [List.head?_cons]
  by_cases hw : w = f.1
  · rw [decide_eq_true hw, Bool.not_true, cond_false]
    unfold cRead_q4
    rw [hlen, text_size, wrapN (by omega) (by omega)]
    by_cases hl : wr.length = f.2.2.length
    · have e : (((wr.length + 1 : Nat) : Int) != 1 + (f.2.2.length : Int)) = false := by simp; omega
      rw [e, cond_false, if_pos ⟨by rw [hw], by simp; omega⟩]
      unfold cRead_q5
      have := read_rounds (R := R) (W := w :: wr) (to := f.2.2) h2 h3 (by simp; omega) hs 0 0 0 0 0 0 0 0 (fun b i1 i2 i3 i4 i5 i6 i7 i8 => k i1 i2 i3 i4 i5 i6 i7 i8 b)
        (fun (i136 : Int) (i137 : Int) (i138 : Int) (i139 : Int) (i140 : Int) (i141 : Int) (i142 : Int) (i143 : Int) (i144 : Int) (i145 : Int) (i146 : Int) (i147 : Int) (i148 : Int) (i149 : Int) (i150 : Int) (i151 : Int) =>
          cond (i144 == 8) (cond (decide (i149 < 1)) (k 0 0 0 0 0 0 0 0 false) (cond (decide (i149 > 20)) (k 0 0 0 0 0 0 0 0 false) (k i144 i145 i146 i147 i148 i149 i150 i151 true))) (k i144 i145 i146 i147 i148 i149 i150 i151 true))
        f.2.2 [] wr [w] (newC f.2.1) (f.2.2.length + 1) rfl rfl rfl (by omega)
      simp only [newC, List.length_nil] at this
      unfold cRead_q13
      simp only [cond_true, cond_false]
      refine this.trans ?_
      rw [List.tail_cons]
      simp only [newC]
      cases fillC f.2.2 wr (f.2.1, 0, 0, 0, -1, 0, 0, -1) with
      | none => rfl
      | some c =>
        simp only [Option.bind_some]
        by_cases g1 : c.1 = 8
        · rw [show (c.1 == 8) = true by simp [g1], cond_true]
          by_cases g2 : c.2.2.2.2.2.1 < 1
          · rw [decide_eq_true g2, cond_true, if_pos ⟨g1, .inl g2⟩]
          · rw [decide_eq_false g2, cond_false]
            by_cases g3 : c.2.2.2.2.2.1 > 20
            · rw [decide_eq_true g3, cond_true, if_pos ⟨g1, .inr g3⟩]
            · rw [decide_eq_false g3, cond_false, if_neg (by omega)]
        · rw [show (c.1 == 8) = false by simp [g1], cond_false, if_neg (by simp [g1])]
    · have e : (((wr.length + 1 : Nat) : Int) != 1 + (f.2.2.length : Int)) = true := by simp; omega
      rw [e, cond_true, if_neg (by simp; omega)]
  · rw [decide_eq_false hw, Bool.not_false, cond_true, if_neg (by simp; intro e; exact absurd e hw)]
    unfold cRead_q4
    rw [cond_true]
theorem cRead_ok : ∀ (f1 : ByteArray) (f2 : Int) (f3 : ByteArray) (w4 : List (List PV)) (y : CmB), sCRead f1 f2 f3 w4 = some y → ∃ n, ∀ (R : Type) (k : Int → Int → Int → Int → Int → Int → Int → Int → Bool → Option R), cRead_b n f1 f2 f3 w4 k = k y.1 y.2.1 y.2.2.1 y.2.2.2.1 y.2.2.2.2.1 y.2.2.2.2.2.1 y.2.2.2.2.2.2.1 y.2.2.2.2.2.2.2.1 y.2.2.2.2.2.2.2.2 := by
  intro f1 f2 f3 w4 y h
  simp only [sCRead, Option.bind_eq_some_iff] at h
  obtain ⟨ws, h1, h2⟩ := h
  split at h2
  case isFalse => cases h2
  rename_i hh
  cases h2
  obtain ⟨g1, g2, g3, g4, g5, g6⟩ := hh
  rw [unS_inv h1]
  refine ⟨f3.data.toList.length + 1, fun R k => ?_⟩
  have := read_core (f := (f1.data.toList, f2, f3.data.toList)) ⟨g2, by rw [size_data]; exact g3, fun b hb => by simpa using List.all_eq_true.1 g4 b hb⟩ (W := ws.map fun w => w.data.toList) (by simpa using g1) (by simpa using g5) (by
    intro w hw
    obtain ⟨s, hs, rfl⟩ := List.mem_map.1 hw
    rw [size_data]
    exact g6 s hs) k
  rw [sRow_text, text_of, text_of] at this
  refine this.trans ?_
  cases readC (f1.data.toList, f2, f3.data.toList) (ws.map fun w => w.data.toList) <;> rfl
theorem cForms_ok : cForms_d = some (fRow formsL) := by kernel_rfl
theorem formsL_ok : ∀ f ∈ formsL, okF f := by
  have : ∀ f ∈ formsL, inI f.2.1 = true ∧ f.2.2.length ≤ 100 ∧ f.2.2.all (fun b => decide (b.toNat < 128)) = true := by decide
  exact fun f hf => ⟨(this f hf).1, (this f hf).2.1, fun b hb => by simpa using List.all_eq_true.1 (this f hf).2.2 b hb⟩
theorem words_len (l : List UInt8) : (words l).length ≤ l.length + 1 := Nat.le_trans (List.length_filter_le _ _) (splitOn_length 32 l)
theorem words_word {l w : List UInt8} (h : w ∈ words l) : w.length ≤ l.length := (splitOn_bytes 32 l w (List.mem_filter.1 h).1).2
theorem parse_rounds {R : Type} {W : List (List UInt8)} (hW : W ≠ []) (hb : W.length ≤ big) (hs : ∀ w ∈ W, w.length ≤ lim) {L : List Form} (hL : ∀ f ∈ L, okF f) (hl : L.length ≤ 100) (z1 z2 z3 z4 z5 z6 z7 z8 : Int)
    (k0 : Int → Int → Int → Int → Int → Int → Int → Int → Int → Option R) (k1 : Int → Int → Int → Int → Int → Int → Int → Int → Option R) : ∀ (rest pre : List Form) (n : Nat), L = pre ++ rest → rest.length < n →
    cParse_l5 n (L.length : Int) (pre.length : Int) z1 z2 z3 z4 z5 z6 z7 z8 (sRow (W.map text)) (fRow L) k0 k1 =
      match rest.findSome? fun f => readC f W with
      | some c => k0 0 c.1 c.2.1 c.2.2.1 c.2.2.2.1 c.2.2.2.2.1 c.2.2.2.2.2.1 c.2.2.2.2.2.2.1 c.2.2.2.2.2.2.2
      | none => k1 z1 z2 z3 z4 z5 z6 z7 z8
  | [], pre, n, e, hn => by
    obtain ⟨m, rfl⟩ : ∃ m, n = m + 1 := ⟨n - 1, by omega⟩
    simp only [List.append_nil] at e
    subst e
    unfold cParse_l5
    rw [decide_eq_false (by omega), cond_false]
    rfl
  | f :: rest, pre, n, e, hn => by
    obtain ⟨m, rfl⟩ : ∃ m, n = m + 1 := ⟨n - 1, by omega⟩
    have hlen : L.length = pre.length + (rest.length + 1) := by rw [e]; simp
    have hf : okF f := hL f (by rw [e]; simp)
    have hrl : (fRow L).length = L.length := by simp [fRow]
    have hget : (fRow L)[Int.toNat (pre.length : Int)]? = some [PV.str (text f.1), .int .i64 f.2.1, .str (text f.2.2)] := by
      rw [Int.toNat_natCast, e, fRow, List.map_append, List.map_cons, List.getElem?_append_right (by simp)]
      simp
    unfold cParse_l5
    rw [decide_eq_true (by omega), cond_true, hrl, if_pos (by omega), hget, Option.bind_some]
    have hsub : subAgg [PV.str (text f.1), .int .i64 f.2.1, .str (text f.2.2)] 0 3 = some (.agg [PV.str (text f.1), .int .i64 f.2.1, .str (text f.2.2)]) := rfl
    rw [hsub, Option.bind_some, if_pos (show PV.isAgg (.agg [PV.str (text f.1), .int .i64 f.2.1, .str (text f.2.2)]) 3 = true from rfl)]
    have hD : cRead_D [.agg [PV.str (text f.1), .int .i64 f.2.1, .str (text f.2.2)], (PV.fs (sRow (W.map text)))] = some (match readC f W with | some c => cmB c true | none => cmB zeroC false) := by
      show sCRead (text f.1) f.2.1 (text f.2.2) (sRow (W.map text)) = _
      unfold sCRead
      rw [unS_row, Option.bind_some, List.map_map, show ((fun w : ByteArray => w.data.toList) ∘ text) = id from funext fun l => text_data l, List.map_id, text_data, text_data, text_size]
      rw [if_pos ⟨by simpa using hW, hf.1, hf.2.1, List.all_eq_true.2 fun b hb => by simpa using hf.2.2 b hb, by simpa using hb, by
        intro s hs'
        obtain ⟨w, hw, rfl⟩ := List.mem_map.1 hs'
        rw [text_size]
        exact hs w hw⟩]
      rfl
    rw [hD, Option.bind_some, List.findSome?_cons]
    cases readC f W with
    | some c => rfl
    | none =>
      simp only [cmB, cond_false]
      rw [wrapN (by omega) (by omega), show ((pre.length : Int) + 1) = ((pre ++ [f]).length : Int) by simp]
      exact parse_rounds hW hb hs hL hl z1 z2 z3 z4 z5 z6 z7 z8 k0 k1 rest (pre ++ [f]) m (by rw [e]; simp) (by simp at hn; omega)
theorem cParse_ok : ∀ (line1 : ByteArray) (y : Cm9), sCParse line1 = some y → ∃ n, ∀ (R : Type) (k : Int → Int → Int → Int → Int → Int → Int → Int → Int → Option R), cParse_b n line1 k = k y.1 y.2.1 y.2.2.1 y.2.2.2.1 y.2.2.2.2.1 y.2.2.2.2.2.1 y.2.2.2.2.2.2.1 y.2.2.2.2.2.2.2.1 y.2.2.2.2.2.2.2.2 := by
  intro s y h
  unfold sCParse at h
  split at h
  case isFalse => cases h
  rename_i hs
  cases h
  refine ⟨17, fun R k => ?_⟩
  unfold cParse_b
  have e1 : sWords s = some (sRow ((words s.data.toList).map text)) := if_pos hs
  rw [e1, Option.bind_some, cForms_ok, Option.bind_some]
  unfold parseC parseW
  have hw := words_len s.data.toList
  rw [size_data] at hw
  unfold lim at hs
  cases hW : words s.data.toList with
  | nil =>
    rw [show (((sRow (List.map text [])).length : Int) == 0) = true from rfl, cond_true]
    have : (formsL.findSome? fun f => readC f []) = none := by decide
    rw [this]
    rfl
  | cons w wr =>
    have e2 : (((sRow (List.map text (w :: wr))).length : Int) == 0) = false := by simp [sRow]; omega
    rw [e2, cond_false]
    rw [hW] at hw
    have := parse_rounds (R := R) (W := w :: wr) (by simp) (by unfold big; omega) (fun x hx => by
      have h1 := words_word (l := s.data.toList) (w := x) (by rw [hW]; exact hx)
      rw [size_data] at h1
      unfold lim
      omega) formsL_ok (by decide) 0 0 0 0 0 0 0 0 (fun i4 i5 i6 i7 i8 i9 i10 i11 i12 => k i5 i6 i7 i8 i9 i10 i11 i12 i4) (fun _ _ _ _ _ _ _ _ => k 0 0 0 0 0 0 0 0 2) formsL [] 17 rfl (by decide)
    refine this.trans ?_
    cases (formsL.findSome? fun f => readC f (w :: wr)) <;> rfl
end Go.Proofs.YtkeklbicmfhemaaDoorV
