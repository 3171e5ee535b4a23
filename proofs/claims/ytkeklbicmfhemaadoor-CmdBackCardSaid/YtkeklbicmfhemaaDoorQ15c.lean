/- Chapter 15: the laws of forms, of lines parsed back. -/
import Derived.Test.YtkeklbicmfhemaaDoorQ15b
import Derived.Test.YtkeklbicmfhemaaDoorD15b
namespace Go.Proofs.YtkeklbicmfhemaaDoorV
open Go
set_option maxRecDepth 20000
set_option linter.unusedSimpArgs false

/-! A command of numbers. -/
theorem num15_some {zs : List Int} (hz : ∀ n ∈ zs, inI n = true) {k : Nat} (hk : k ≤ 1000) : ∃ v, 0 ≤ v ∧ v ≤ 1000 ∧ num15_d (iRow zs) (k : Int) = some v := by
  unfold num15_d num15_b
  rw [iRow_length]
  by_cases h : k < zs.length
  · rw [decide_eq_true (by omega), cond_true]
    have e : idx (iRow zs) (k : Int) = some [PV.int .i64 zs[k]] := by
      rw [idx_nat, iRow, List.getElem?_map, List.getElem?_eq_getElem h]
      rfl
    obtain ⟨j, hj, e2⟩ := within_ok zs[k] (m := 1000) (by omega) (by omega)
    have e3 : within_d zs[k] 1000 = some (j : Int) := e2
    refine ⟨(j : Int), by omega, by omega, ?_⟩
    rw [e, Option.bind_some, if_pos (show [PV.int .i64 zs[k]].length = 1 from rfl), List.getElem?_cons_zero, Option.bind_some]
    simp only [PV.asI, if_true, Option.bind_some, e3]
  · rw [decide_eq_false (by omega), cond_false]
    exact ⟨(k : Int), by omega, by omega, rfl⟩
theorem inI_small {v : Int} (h0 : 0 ≤ v) (h1 : v ≤ 1000) : inI v = true := (inI_iff v).2 (by omega)
theorem inC_mk {a b c d e f g h : Int} (h1 : inI a = true) (h2 : inI b = true) (h3 : inI c = true) (h4 : inI d = true) (h5 : inI e = true) (h6 : inI f = true) (h7 : inI g = true) (h8 : inI h = true) : inC (a, b, c, d, e, f, g, h) = true := by
  simp [inC, h1, h2, h3, h4, h5, h6, h7, h8]
theorem inC_parts {c : Cm} (h : inC c = true) : inI c.1 = true ∧ inI c.2.1 = true ∧ inI c.2.2.1 = true ∧ inI c.2.2.2.1 = true ∧ inI c.2.2.2.2.1 = true ∧ inI c.2.2.2.2.2.1 = true ∧ inI c.2.2.2.2.2.2.1 = true ∧ inI c.2.2.2.2.2.2.2 = true := by
  simp only [inC, Bool.and_eq_true] at h
  exact h
/-- What a part of 'Of' comes to: a command of numbers again. -/
abbrev Goes8 (f : (R : Type) → (List (List PV) → Int → Int → Int → Int → Int → Int → Int → Int → Int → Int → Int → Int → Int → Int → Int → Int → Int → Option R) → Option R) (es : List (List PV)) (how : Int) : Prop :=
  ∃ c : Cm, inC c = true ∧ ∀ (R : Type) (k0 : List (List PV) → Int → Int → Int → Int → Int → Int → Int → Int → Int → Int → Int → Int → Int → Int → Int → Int → Int → Option R), f R k0 = k0 es how 0 0 0 0 0 0 0 0 c.1 c.2.1 c.2.2.1 c.2.2.2.1 c.2.2.2.2.1 c.2.2.2.2.2.1 c.2.2.2.2.2.2.1 c.2.2.2.2.2.2.2
theorem of_q17 {zs : List Int} (hz : ∀ n ∈ zs, inI n = true) (how op : Int) (b : Bool) {c : Cm} (hc : inC c = true) :
    Goes8 (fun R k0 => of15_q17 (iRow zs) how op b 0 0 0 0 0 0 0 0 c.1 c.2.1 c.2.2.1 c.2.2.2.1 c.2.2.2.2.1 c.2.2.2.2.2.1 c.2.2.2.2.2.2.1 c.2.2.2.2.2.2.2 k0) (iRow zs) how := by
  obtain ⟨h1, h2, h3, h4, h5, h6, h7, h8⟩ := inC_parts hc
  obtain ⟨v0, a0, b0, e0⟩ := num15_some hz (k := 0) (by omega)
  obtain ⟨v1, a1, b1, e1⟩ := num15_some hz (k := 1) (by omega)
  obtain ⟨v2, a2, b2, e2⟩ := num15_some hz (k := 2) (by omega)
  obtain ⟨v3, a3, b3, e3⟩ := num15_some hz (k := 3) (by omega)
  obtain ⟨j, hj, ew⟩ := within_ok v0 (m := 20) (by omega) (by omega)
  have ew' : within_d v0 20 = some (j : Int) := ew
  have f0 : num15_d (iRow zs) 0 = some v0 := e0
  have f1 : num15_d (iRow zs) 1 = some v1 := e1
  have f2 : num15_d (iRow zs) 2 = some v2 := e2
  have f3 : num15_d (iRow zs) 3 = some v3 := e3
  unfold of15_q17
  simp only [f0, f1, f2, f3, ew', Option.bind_some]
  have hw : IntKind.i64.wrap (1 + (j : Int)) = 1 + (j : Int) := wrapN (by omega) (by omega)
  rw [hw]
  cases b with
  | true => exact ⟨(c.1, c.2.1, v0, c.2.2.2.1, c.2.2.2.2.1, c.2.2.2.2.2.1, c.2.2.2.2.2.2.1, c.2.2.2.2.2.2.2), inC_mk h1 h2 (inI_small a0 b0) h4 h5 h6 h7 h8, fun R k0 => rfl⟩
  | false =>
    cases op == 8 with
    | false => exact ⟨c, hc, fun R k0 => rfl⟩
    | true =>
      cases decide (((iRow zs).length : Int) > 3) with
      | true => exact ⟨(c.1, c.2.1, v2, c.2.2.2.1, c.2.2.2.2.1, 1 + (j : Int), v1, v3), inC_mk h1 h2 (inI_small a2 b2) h4 h5 (inI_small (by omega) (by omega)) (inI_small a1 b1) (inI_small a3 b3), fun R k0 => rfl⟩
      | false => exact ⟨(c.1, c.2.1, v2, c.2.2.2.1, c.2.2.2.2.1, 1 + (j : Int), v1, c.2.2.2.2.2.2.2), inC_mk h1 h2 (inI_small a2 b2) h4 h5 (inI_small (by omega) (by omega)) (inI_small a1 b1) h8, fun R k0 => rfl⟩
theorem of_q13 {zs : List Int} (hz : ∀ n ∈ zs, inI n = true) (how op : Int) (b : Bool) {c : Cm} (hc : inC c = true) :
    Goes8 (fun R k0 => of15_q13 (iRow zs) how op b 0 0 0 0 0 0 0 0 c.1 c.2.1 c.2.2.1 c.2.2.2.1 c.2.2.2.2.1 c.2.2.2.2.2.1 c.2.2.2.2.2.2.1 c.2.2.2.2.2.2.2 k0) (iRow zs) how := by
  obtain ⟨h1, h2, h3, h4, h5, h6, h7, h8⟩ := inC_parts hc
  obtain ⟨v0, a0, b0, e0⟩ := num15_some hz (k := 0) (by omega)
  have f0 : num15_d (iRow zs) 0 = some v0 := e0
  unfold of15_q13
  simp only [f0, Option.bind_some]
  cases b with
  | true => exact ⟨(c.1, v0, c.2.2.1, c.2.2.2.1, c.2.2.2.2.1, c.2.2.2.2.2.1, c.2.2.2.2.2.2.1, c.2.2.2.2.2.2.2), inC_mk h1 (inI_small a0 b0) h3 h4 h5 h6 h7 h8, fun R k0 => rfl⟩
  | false =>
    cases op == 6 with
    | true => exact of_q17 hz how op true hc
    | false =>
      cases op == 7 with
      | true => exact of_q17 hz how op true hc
      | false => exact of_q17 hz how op (op == 11) hc
theorem of_q7 {zs : List Int} (hz : ∀ n ∈ zs, inI n = true) (how op : Int) (b : Bool) {c : Cm} (hc : inC c = true) :
    Goes8 (fun R k0 => of15_q7 (iRow zs) how op b 0 0 0 0 0 0 0 0 c.1 c.2.1 c.2.2.1 c.2.2.2.1 c.2.2.2.2.1 c.2.2.2.2.2.1 c.2.2.2.2.2.2.1 c.2.2.2.2.2.2.2 k0) (iRow zs) how := by
  obtain ⟨h1, h2, h3, h4, h5, h6, h7, h8⟩ := inC_parts hc
  obtain ⟨v0, a0, b0, e0⟩ := num15_some hz (k := 0) (by omega)
  obtain ⟨v1, a1, b1, e1⟩ := num15_some hz (k := 1) (by omega)
  obtain ⟨v2, a2, b2, e2⟩ := num15_some hz (k := 2) (by omega)
  obtain ⟨v3, a3, b3, e3⟩ := num15_some hz (k := 3) (by omega)
  have f0 : num15_d (iRow zs) 0 = some v0 := e0
  have f1 : num15_d (iRow zs) 1 = some v1 := e1
  have f2 : num15_d (iRow zs) 2 = some v2 := e2
  have f3 : num15_d (iRow zs) 3 = some v3 := e3
  unfold of15_q7
  simp only [f0, f1, f2, f3, Option.bind_some]
  cases b with
  | true =>
    cases decide (((iRow zs).length : Int) > 3) with
    | true => exact ⟨(c.1, v0, v1, v2, v3, c.2.2.2.2.2.1, c.2.2.2.2.2.2.1, c.2.2.2.2.2.2.2), inC_mk h1 (inI_small a0 b0) (inI_small a1 b1) (inI_small a2 b2) (inI_small a3 b3) h6 h7 h8, fun R k0 => rfl⟩
    | false => exact ⟨(c.1, v0, v1, v2, c.2.2.2.2.1, c.2.2.2.2.2.1, c.2.2.2.2.2.2.1, c.2.2.2.2.2.2.2), inC_mk h1 (inI_small a0 b0) (inI_small a1 b1) (inI_small a2 b2) h5 h6 h7 h8, fun R k0 => rfl⟩
  | false =>
    cases op == 2 with
    | true => exact of_q13 hz how op true hc
    | false =>
      cases op == 4 with
      | true => exact of_q13 hz how op true hc
      | false => exact of_q13 hz how op (op == 5) hc
theorem of_q23 {zs : List Int} (hz : ∀ n ∈ zs, inI n = true) (how : Int) (b : Bool) (hb : b = true → 0 < zs.length) {c : Cm} (hc : inC c = true) :
    ∃ d : Cm, inC d = true ∧ ∀ (R : Type) (k0 : Int → Int → Int → Int → Int → Int → Int → Int → Int → Int → Int → Int → Int → Int → Int → Int → Option R), of15_q23 (iRow zs) how b 0 0 0 0 0 0 0 0 c.1 c.2.1 c.2.2.1 c.2.2.2.1 c.2.2.2.2.1 c.2.2.2.2.2.1 c.2.2.2.2.2.2.1 c.2.2.2.2.2.2.2 k0 = k0 0 0 0 0 0 0 0 0 d.1 d.2.1 d.2.2.1 d.2.2.2.1 d.2.2.2.2.1 d.2.2.2.2.2.1 d.2.2.2.2.2.2.1 d.2.2.2.2.2.2.2 := by
  obtain ⟨h1, h2, h3, h4, h5, h6, h7, h8⟩ := inC_parts hc
  cases b with
  | false => exact ⟨c, hc, fun R k0 => rfl⟩
  | true =>
    have hl := hb rfl
    obtain ⟨j, hj, e⟩ := within_ok (IntKind.i64.wrap (Int.tdiv how 4)) (m := 8) (by omega) (by omega)
    have e' : within_d (IntKind.i64.wrap (Int.tdiv how 4)) 8 = some (j : Int) := e
    have hx : inI zs[0] = true := hz _ (List.getElem_mem hl)
    have hi : idx (iRow zs) (0 : Int) = some [PV.int .i64 zs[0]] := by
      have : idx (iRow zs) ((0 : Nat) : Int) = some [PV.int .i64 zs[0]] := by
        rw [idx_nat, iRow, List.getElem?_map, List.getElem?_eq_getElem hl]
        rfl
      exact this
    generalize zs[0] = x at hx hi
    unfold of15_q23
    simp only [cond_true, e', Option.bind_some, hi, List.length_singleton, if_true, List.getElem?_cons_zero, PV.asI]
    cases (j : Int) == 0 with
    | true => exact ⟨(x, c.2), by simp [inC, hx, h2, h3, h4, h5, h6, h7, h8], fun R k0 => rfl⟩
    | false =>
    cases (j : Int) == 1 with
    | true => exact ⟨(c.1, x, c.2.2), by simp [inC, hx, h1, h3, h4, h5, h6, h7, h8], fun R k0 => rfl⟩
    | false =>
    cases (j : Int) == 2 with
    | true => exact ⟨(c.1, c.2.1, x, c.2.2.2), by simp [inC, hx, h1, h2, h4, h5, h6, h7, h8], fun R k0 => rfl⟩
    | false =>
    cases (j : Int) == 3 with
    | true => exact ⟨(c.1, c.2.1, c.2.2.1, x, c.2.2.2.2), by simp [inC, hx, h1, h2, h3, h5, h6, h7, h8], fun R k0 => rfl⟩
    | false =>
    cases (j : Int) == 4 with
    | true => exact ⟨(c.1, c.2.1, c.2.2.1, c.2.2.2.1, x, c.2.2.2.2.2), by simp [inC, hx, h1, h2, h3, h4, h6, h7, h8], fun R k0 => rfl⟩
    | false =>
    cases (j : Int) == 5 with
    | true => exact ⟨(c.1, c.2.1, c.2.2.1, c.2.2.2.1, c.2.2.2.2.1, x, c.2.2.2.2.2.2), by simp [inC, hx, h1, h2, h3, h4, h5, h7, h8], fun R k0 => rfl⟩
    | false =>
    cases (j : Int) == 6 with
    | true => exact ⟨(c.1, c.2.1, c.2.2.1, c.2.2.2.1, c.2.2.2.2.1, c.2.2.2.2.2.1, x, c.2.2.2.2.2.2.2), by simp [inC, hx, h1, h2, h3, h4, h5, h6, h8], fun R k0 => rfl⟩
    | false => exact ⟨(c.1, c.2.1, c.2.2.1, c.2.2.2.1, c.2.2.2.2.1, c.2.2.2.2.2.1, c.2.2.2.2.2.2.1, x), by simp [inC, hx, h1, h2, h3, h4, h5, h6, h7], fun R k0 => rfl⟩
theorem of_q22 {zs : List Int} (hz : ∀ n ∈ zs, inI n = true) (how : Int) {c : Cm} (hc : inC c = true) :
    ∃ d : Cm, inC d = true ∧ ∀ (R : Type) (k0 : Int → Int → Int → Int → Int → Int → Int → Int → Option R), of15_q22 (iRow zs) how 0 0 0 0 0 0 0 0 c.1 c.2.1 c.2.2.1 c.2.2.2.1 c.2.2.2.2.1 c.2.2.2.2.2.1 c.2.2.2.2.2.2.1 c.2.2.2.2.2.2.2 k0 = k0 d.1 d.2.1 d.2.2.1 d.2.2.2.1 d.2.2.2.2.1 d.2.2.2.2.2.1 d.2.2.2.2.2.2.1 d.2.2.2.2.2.2.2 := by
  unfold of15_q22
  cases Int.tmod how 4 == 3 with
  | true =>
    obtain ⟨d, hd, h⟩ := of_q23 hz how (decide (((iRow zs).length : Int) > 0)) (fun e => by rw [decide_eq_true_eq, iRow_length] at e; omega) hc
    refine ⟨d, hd, fun R k0 => ?_⟩
    rw [cond_true]
    exact h R _
  | false =>
    obtain ⟨d, hd, h⟩ := of_q23 hz how false (fun e => by cases e) hc
    refine ⟨d, hd, fun R k0 => ?_⟩
    rw [cond_false]
    exact h R _
theorem of15_some (op how : Int) {zs : List Int} (hz : ∀ n ∈ zs, inI n = true) : ∃ y : Cm, sOf15 op (iRow zs) how = some y ∧ inC y = true := by
  refine of15_got op (iRow zs) how ?_
  obtain ⟨j, hj, e⟩ := within_ok op (m := 13) (by omega) (by omega)
  have e' : within_d op 13 = some (j : Int) := e
  have hw : IntKind.i64.wrap (1 + (j : Int)) = 1 + (j : Int) := wrapN (by omega) (by omega)
  have hc : inC (1 + (j : Int), 0, 0, 0, -1, 0, 0, -1) = true := inC_mk (inI_small (by omega) (by omega)) rfl rfl rfl rfl rfl rfl rfl
  have go : ∀ b, ∃ y : Cm, inC y = true ∧ ∀ (R : Type) (k : Int → Int → Int → Int → Int → Int → Int → Int → Option R), of15_q7 (iRow zs) how (1 + (j : Int)) b 0 0 0 0 0 0 0 0 (1 + (j : Int)) 0 0 0 (-1) 0 0 (-1) (fun l5 how6 i7 i8 i9 i10 i11 i12 i13 i14 i15 i16 i17 i18 i19 i20 i21 i22 => of15_q22 l5 how6 i7 i8 i9 i10 i11 i12 i13 i14 i15 i16 i17 i18 i19 i20 i21 i22 k) = k y.1 y.2.1 y.2.2.1 y.2.2.2.1 y.2.2.2.2.1 y.2.2.2.2.2.1 y.2.2.2.2.2.2.1 y.2.2.2.2.2.2.2 := by
    intro b
    obtain ⟨c, hc', h⟩ := of_q7 hz how (1 + (j : Int)) b hc
    obtain ⟨d, hd, h'⟩ := of_q22 hz how hc'
    exact ⟨d, hd, fun R k => (h R _).trans (h' R k)⟩
  unfold of15_b
  simp only [e', Option.bind_some, hw]
  cases (1 + (j : Int)) == 1 with
  | true => exact go true
  | false => exact go _

/-! Parsed back. -/
theorem back_blanks {R : Type} {b : Nat} (hb : b < 3) {blanks : Int} (hw : within_d blanks 3 = some (b : Int)) {t pre rest : List UInt8} {c : UInt8} (ht : t = pre ++ c :: rest) (x1 x2 x3 x4 x5 x6 x7 x8 y1 y2 y3 y4 y5 y6 y7 y8 : Int)
    (k0 : Int → ByteArray → ByteArray → Int → Int → Int → Int → Int → Int → Int → Int → Int → Int → Int → Int → Int → Int → Int → Int → Int → Option R) : ∀ (f j : Nat) (s : List UInt8) (n : Nat), j + f = b → f < n → s.length + f ≤ 100000 →
    cmdBack_l14 n blanks (text t) (text s) (pre.length : Int) (j : Int) x1 x2 x3 x4 x5 x6 x7 x8 y1 y2 y3 y4 y5 y6 y7 y8 k0 =
      k0 blanks (text t) (text (if c = 32 then s ++ List.replicate f 32 else s)) (pre.length : Int) x1 x2 x3 x4 x5 x6 x7 x8 y1 y2 y3 y4 y5 y6 y7 y8
  | f, j, s, n, e, hn, hs => by
    obtain ⟨m, rfl⟩ : ∃ m, n = m + 1 := ⟨n - 1, by omega⟩
    unfold cmdBack_l14
    rw [hw, Option.bind_some]
    have hi : idx (text t).data.toList (pre.length : Int) = some c := by rw [text_data, ht]; exact idx_bytes pre c rest
    have hc : ((c.toNat : Int) == 32) = decide (c = 32) := by
      have := u8_cast c 32
      rw [show ((c.toNat : Int) == 32) = (c == 32) from this, Bool.eq_iff_iff]
      simp
    cases f with
    | zero =>
      rw [decide_eq_false (by omega), cond_false]
      simp
    | succ f =>
      rw [decide_eq_true (by omega), cond_true, hi, Option.bind_some, hc]
      by_cases h : c = 32
      · rw [decide_eq_true h, cond_true, show ByteArray.mk #[32] = text [32] from rfl, if_pos (by rw [text_size, text_size]; simp; omega), text_append, wrapN (by omega) (by omega)]
        have ih := back_blanks hb hw ht x1 x2 x3 x4 x5 x6 x7 x8 y1 y2 y3 y4 y5 y6 y7 y8 k0 f (j + 1) (s ++ [32]) m (by omega) (by omega) (by simp; omega)
        rw [show ((j + 1 : Nat) : Int) = (j : Int) + 1 by omega] at ih
        rw [ih, if_pos h, if_pos h]
        simp [List.replicate_succ]
      · rw [decide_eq_false h, cond_false, if_neg h]
theorem back_text {R : Type} {b : Nat} (hb : b < 3) {blanks : Int} (hw : within_d blanks 3 = some (b : Int)) {t : List UInt8} (hl : t.length ≤ 1000) (x1 x2 x3 x4 x5 x6 x7 x8 y1 y2 y3 y4 y5 y6 y7 y8 : Int)
    (k0 : ByteArray → ByteArray → Int → Int → Int → Int → Int → Int → Int → Int → Int → Int → Int → Int → Int → Int → Int → Int → Option R) : ∀ (rest pre s : List UInt8) (n : Nat), t = pre ++ rest → rest.length + 5 < n → s.length ≤ 3 * pre.length →
    cmdBack_l10 n blanks (text t) (text s) (pre.length : Int) x1 x2 x3 x4 x5 x6 x7 x8 y1 y2 y3 y4 y5 y6 y7 y8 k0 =
      k0 (text t) (text (s ++ blow b rest)) x1 x2 x3 x4 x5 x6 x7 x8 y1 y2 y3 y4 y5 y6 y7 y8
  | [], pre, s, n, e, hn, hs => by
    obtain ⟨m, rfl⟩ : ∃ m, n = m + 1 := ⟨n - 1, by omega⟩
    simp only [List.append_nil] at e
    subst e
    unfold cmdBack_l10
    rw [text_size, decide_eq_false (by omega), cond_false]
    simp [blow]
  | c :: rest, pre, s, n, e, hn, hs => by
    obtain ⟨m, rfl⟩ : ∃ m, n = m + 1 := ⟨n - 1, by omega⟩
    have hlen : t.length = pre.length + (rest.length + 1) := by rw [e]; simp
    simp only [List.length_cons] at hn
    have hw1 : IntKind.i64.wrap ((pre.length : Int) + 1) = (pre.length : Int) + 1 := wrapN (by omega) (by omega)
    unfold cmdBack_l10
    rw [text_size, decide_eq_true (by omega), cond_true, hw1, if_pos (by omega)]
    have hx : ByteArray.extract (text t) (Int.toNat (pre.length : Int)) (Int.toNat ((pre.length : Int) + 1)) = text [c] := by
      rw [show Int.toNat (pre.length : Int) = pre.length by omega, show Int.toNat ((pre.length : Int) + 1) = pre.length + 1 by omega, text_extract, e]
      congr 1
      simp [List.take_append]
    rw [hx, if_pos (by rw [text_size, text_size]; simp; omega), text_append]
    have ih := fun s' hs' => back_text hb hw hl x1 x2 x3 x4 x5 x6 x7 x8 y1 y2 y3 y4 y5 y6 y7 y8 k0 rest (pre ++ [c]) s' m (by rw [e]; simp) (by omega) hs'
    rw [show ((pre ++ [c]).length : Int) = (pre.length : Int) + 1 by simp] at ih
    refine (back_blanks hb hw e x1 x2 x3 x4 x5 x6 x7 x8 y1 y2 y3 y4 y5 y6 y7 y8 _ b 0 (s ++ [c]) m (by omega) (by omega) (by simp; omega)).trans ?_
    simp only [hw1]
    by_cases h : c = 32
    · rw [if_pos h, ih _ (by simp; omega)]
      congr 2
      simp [blow, h]
    · rw [if_neg h, ih _ (by simp; omega)]
      congr 2
      simp [blow, h]
theorem lineC_short {f : Form} (hf : f ∈ formsL) {c : Cm} (hc : inC c = true) : (lineC f c).length ≤ 200 := by
  have := tailW_len (ns := f.2.2.map (getC c)) (fun n hn => by obtain ⟨b, _, rfl⟩ := List.mem_map.1 hn; exact inC_get hc b)
  have h2 := (by decide : ∀ f ∈ formsL, f.1.length ≤ 5 ∧ f.2.2.length ≤ 4) f hf
  rw [lineC_tail, List.length_append]
  rw [List.length_map] at this
  omega
theorem cmdBack_ok : ∀ (op1 : Int) (l2 : List (List PV)) (how3 blanks4 : Int) (y : Bool), sCmdBack op1 l2 how3 blanks4 = some y → ∃ n, ∀ (R : Type) (k : Bool → Option R), cmdBack_b n op1 l2 how3 blanks4 k = k y := by
  intro op es how blanks y h
  simp only [sCmdBack, Option.bind_eq_some_iff] at h
  obtain ⟨zs, h1, h2⟩ := h
  split at h2
  case isFalse => cases h2
  cases h2
  obtain ⟨rfl, hz⟩ := unI_inv h1
  obtain ⟨c, hc, hi⟩ := of15_some op how (zs := zs) fun n hn => (inI_iff n).2 (hz n hn)
  refine ⟨1000, fun R k => ?_⟩
  unfold cmdBack_b
  rw [hc, Option.bind_some, sCPrint_of hi, Option.bind_some]
  cases hp : printC c with
  | none =>
    simp only
    rw [show ((1 : Int) != 0) = true from rfl, cond_true, mk_nil, text_toList, beq_list, decide_eq_true rfl, cond_true, show ((1 : Int) == 1) = true from rfl, cond_true, wakes15_ok, Option.bind_some]
  | some l =>
    simp only
    rw [show ((0 : Int) != 0) = false from rfl, cond_false]
    obtain ⟨f, hf, hlf, hpl⟩ := printC_form hp
    obtain ⟨m1, m2⟩ := parse_more hi hp
    have hls : l.length ≤ 200 := by rw [hlf]; exact lineC_short hf hi
    rw [sCParse_text (by unfold lim; omega), hpl, Option.bind_some]
    have ec : eqC c c = true := (eqC_iff c c).2 rfl
    have ee : ((c.1 == c.1) && ((c.2.1 == c.2.1) && ((c.2.2.1 == c.2.2.1) && ((c.2.2.2.1 == c.2.2.2.1) && ((c.2.2.2.2.1 == c.2.2.2.2.1) && ((c.2.2.2.2.2.1 == c.2.2.2.2.2.1) && ((c.2.2.2.2.2.2.1 == c.2.2.2.2.2.2.1) && ((c.2.2.2.2.2.2.2 == c.2.2.2.2.2.2.2) && true)))))))) = true := ec
    simp only [cmE]
    rw [show ((0 : Int) != 0) = false from rfl, cond_false, ee, Bool.not_true, cond_false]
    obtain ⟨b, hb, ew⟩ := within_ok blanks (m := 3) (by omega) (by omega)
    have ew' : within_d blanks 3 = some (b : Int) := ew
    have := fun k0 => back_text (R := R) hb ew' (t := l) (by omega) c.1 c.2.1 c.2.2.1 c.2.2.2.1 c.2.2.2.2.1 c.2.2.2.2.2.1 c.2.2.2.2.2.2.1 c.2.2.2.2.2.2.2 c.1 c.2.1 c.2.2.1 c.2.2.2.1 c.2.2.2.2.1 c.2.2.2.2.2.1 c.2.2.2.2.2.2.1 c.2.2.2.2.2.2.2 k0 l [] [] 1000 rfl (by omega) (by simp)
    refine (this _).trans ?_
    have hbl := blow_len b l
    have hbl2 : (b + 1) * l.length ≤ 3 * 200 := Nat.mul_le_mul (by omega) hls
    rw [show ByteArray.mk #[32, 32] = text [32, 32] from rfl, show ByteArray.mk #[32] = text [32] from rfl, show ByteArray.mk #[32, 120] = text [32, 120] from rfl, show ByteArray.mk #[120] = text [120] from rfl]
    simp only [text_append, text_size, List.nil_append, List.length_append, List.length_cons, List.length_nil]
    rw [if_pos (by omega), if_pos (by omega), sCParse_text (by simp; unfold lim; omega), parse_blow, hpl, Option.bind_some, if_pos (by omega), sCParse_text (by simp; unfold lim; omega), m1, Option.bind_some, if_pos (by omega), sCParse_text (by simp; unfold lim; omega), show [120] ++ l = 120 :: l from rfl, m2, Option.bind_some]
    simp only [cmE, zeroC]
    rw [show ((0 : Int) == 0) = true from rfl, cond_true, ee, cond_true, show ((2 : Int) == 2) = true from rfl, cond_true, wakes15_ok, Option.bind_some]
    rfl
end Go.Proofs.YtkeklbicmfhemaaDoorV
