/- Chapter 15: the law of numbers. -/
import Derived.Test.YtkeklbicmfhemaaDoorQ15d
namespace Go.Proofs.YtkeklbicmfhemaaDoorV
open Go
set_option maxRecDepth 20000
set_option linter.unusedSimpArgs false

/-- The number that is written. -/
def numN (n : Int) : Int := if Int.tmod n 5 > 0 then n % 1004 - 2 else n
theorem numN_in {n : Int} (h : inI n = true) : inI (numN n) = true := by
  unfold numN
  split
  · exact (inI_iff _).2 (by omega)
  · exact h
theorem numbers_q15 {R : Type} (n : Nat) (op : Nat) (es : List (List PV)) {s : List UInt8} (hs : s.length ≤ 1000) (ok : Bool) (cnt : Int) (k : Nat) {v : Int} (hv : inI v = true) (e1 e2 : List (List PV))
    (k0 : Int → List (List PV) → ByteArray → Bool → Int → Int → List (List PV) → List (List PV) → Option R) :
    cmdNumbers_q15 n (op : Int) es (text s) ok cnt (k : Int) v e1 e2 k0 = k0 (op : Int) es (text (s ++ 32 :: dig v)) (ok && okN op k v) cnt (k : Int) e1 e2 := by
  have hd := dig_length hv
  unfold cmdNumbers_q15
  rw [show sRDigits v = some (text (dig v)) from sItoa_in hv, Option.bind_some, show ByteArray.mk #[32] = text [32] from rfl, if_pos (by rw [text_size, text_size]; simp; omega), text_append, if_pos (by rw [text_size, text_size]; simp; omega), text_append]
  rw [show [32] ++ dig v = 32 :: dig v from rfl]
  unfold cmdNumbers_q17 cmdNumbers_q18
  have c7 : (((op : Int) == 7) : Bool) = (op == 7) := by rw [Bool.eq_iff_iff]; simp; omega
  have c0 : (((k : Int) == 0) : Bool) = (k == 0) := by rw [Bool.eq_iff_iff]; simp
  simp only [c7, c0]
  unfold okN small999
  cases ok <;> cases hop : (op == 7) <;> cases hk : (k == 0) <;> by_cases h0 : 0 ≤ v <;> by_cases h9 : v ≤ 999 <;> by_cases h1 : 1 ≤ v <;> by_cases h20 : v ≤ 20 <;> simp [h0, h9, h1, h20, ge_iff_le]
theorem numbers_rounds {R : Type} {op : Nat} {zs : List Int} (hz : ∀ n ∈ zs, inI n = true) {w : List UInt8} (hw : w.length ≤ 5) (e1 e2 : List (List PV))
    (k0 : Int → ByteArray → Bool → Int → List (List PV) → List (List PV) → Option R) : ∀ (rest pre : List Int) (n : Nat), zs.take 6 = pre ++ rest → rest.length < n → ∀ ok : Bool,
    cmdNumbers_l9 n (op : Int) (iRow zs) (text (w ++ tailW (pre.map numN))) ok ((zs.take 6).length : Int) (pre.length : Int) e1 e2 k0 =
      k0 (op : Int) (text (w ++ tailW ((pre ++ rest).map numN))) (ok && okFrom op pre.length (rest.map numN)) ((zs.take 6).length : Int) e1 e2
  | [], pre, n, e, hn, ok => by
    obtain ⟨m, rfl⟩ : ∃ m, n = m + 1 := ⟨n - 1, by omega⟩
    simp only [List.append_nil] at e
    unfold cmdNumbers_l9
    rw [e, decide_eq_false (by omega), cond_false]
    simp [okFrom]
  | v :: rest, pre, n, e, hn, ok => by
    obtain ⟨m, rfl⟩ : ∃ m, n = m + 1 := ⟨n - 1, by omega⟩
    have hlen : (zs.take 6).length = pre.length + (rest.length + 1) := by rw [e]; simp
    have h6 : (zs.take 6).length ≤ 6 := by simp; omega
    have hmem : v ∈ zs.take 6 := by rw [e]; simp
    have hv : inI v = true := hz v (List.mem_of_mem_take hmem)
    have hpre : ∀ n ∈ pre.map numN, inI n = true := by
      intro n hn
      obtain ⟨x, hx, rfl⟩ := List.mem_map.1 hn
      exact numN_in (hz x (List.mem_of_mem_take (by rw [e]; simp [hx])))
    have htl := tailW_len hpre
    rw [List.length_map] at htl
    have hidx : idx (iRow zs) (pre.length : Int) = some [PV.int .i64 v] := by
      have e3 : zs = pre ++ v :: (rest ++ zs.drop 6) := by
        conv => lhs; rw [← List.take_append_drop 6 zs, e]
        simp
      rw [e3]
      exact idx_iRow pre v _
    unfold cmdNumbers_l9
    rw [decide_eq_true (by omega), cond_true, hidx, Option.bind_some, if_pos (show [PV.int .i64 v].length = 1 from rfl), List.getElem?_cons_zero, Option.bind_some]
    simp only [PV.asI, if_true, Option.bind_some]
    have hw1 : IntKind.i64.wrap ((pre.length : Int) + 1) = (pre.length : Int) + 1 := wrapN (by omega) (by omega)
    have hstep : ∀ (k1 : Int → List (List PV) → ByteArray → Bool → Int → Int → List (List PV) → List (List PV) → Option R), (cond (decide (Int.tmod v 5 > 0)) (Option.bind (within_d v 1004) fun y70 => cmdNumbers_q15 m (op : Int) (iRow zs) (text (w ++ tailW (pre.map numN))) ok ((zs.take 6).length : Int) (pre.length : Int) (IntKind.i64.wrap (y70 - 2)) e1 e2 k1) (cmdNumbers_q15 m (op : Int) (iRow zs) (text (w ++ tailW (pre.map numN))) ok ((zs.take 6).length : Int) (pre.length : Int) v e1 e2 k1)) =
        k1 (op : Int) (iRow zs) (text (w ++ tailW ((pre ++ [v]).map numN))) (ok && okN op pre.length (numN v)) ((zs.take 6).length : Int) (pre.length : Int) e1 e2 := by
      intro k1
      have hc : ∀ (k1 : Int → List (List PV) → ByteArray → Bool → Int → Int → List (List PV) → List (List PV) → Option R), cmdNumbers_q15 m (op : Int) (iRow zs) (text (w ++ tailW (pre.map numN))) ok ((zs.take 6).length : Int) (pre.length : Int) (numN v) e1 e2 k1 = k1 (op : Int) (iRow zs) (text (w ++ tailW ((pre ++ [v]).map numN))) (ok && okN op pre.length (numN v)) ((zs.take 6).length : Int) (pre.length : Int) e1 e2 := by
        intro k1
        rw [numbers_q15 (R := R) m op (iRow zs) (s := w ++ tailW (pre.map numN)) (by simp; omega) ok _ pre.length (numN_in hv) e1 e2 k1]
        congr 2
        simp [tailW]
      by_cases h5 : Int.tmod v 5 > 0
      · rw [decide_eq_true h5, cond_true]
        have e4 : within_d v 1004 = some (v % 1004) := within_val v (by omega) (by omega)
        rw [e4, Option.bind_some, wrapN (by omega) (by omega)]
        have e5 : numN v = v % 1004 - 2 := if_pos h5
        rw [← e5]
        exact hc k1
      · rw [decide_eq_false h5, cond_false]
        have e5 : numN v = v := if_neg h5
        have := hc k1
        rw [e5] at this ⊢
        exact this
    refine (hstep _).trans ?_
    simp only [hw1]
    have ih := numbers_rounds (op := op) hz hw e1 e2 k0 rest (pre ++ [v]) m (by rw [e]; simp) (by simp at hn; omega) (ok && okN op pre.length (numN v))
    rw [show ((pre ++ [v]).length : Int) = (pre.length : Int) + 1 by simp] at ih
    rw [ih]
    congr 1
    · simp
    · simp only [List.map_cons, okFrom, List.length_append, List.length_singleton, Bool.and_assoc]
theorem op_idx {l : List Int} {j : Nat} (h : j < l.length) : (l.map fun v => [PV.int .i64 v])[Int.toNat (j : Int)]? = some [PV.int .i64 (l.getD j 0)] := by
  rw [Int.toNat_natCast, List.getElem?_map, List.getElem?_eq_getElem h, List.getD_eq_getElem?_getD, List.getElem?_eq_getElem h]
  rfl
theorem numbers_end {R : Type} (n : Nat) {op : Nat} (ho : op < 13) {ns : List Int} (hi : ∀ n ∈ ns, inI n = true) (hl : ns.length ≤ 6) (y : Cm9) (hy : sCParse (text (opWords.getD op [] ++ tailW ns)) = some y) (ok : Bool)
    (hok : ok = decide (okFrom op 0 ns = true ∧ opLeast.getD op 0 ≤ ns.length ∧ (ns.length : Int) ≤ opMost.getD op 0)) (k : Bool → Option R) :
    (cmdNumbers_q21 n (op : Int) (text (opWords.getD op [] ++ tailW ns)) ok y.2.2.2.2.2.2.2.2 y.1 y.2.1 y.2.2.1 y.2.2.2.1 y.2.2.2.2.1 y.2.2.2.2.2.1 y.2.2.2.2.2.2.1 y.2.2.2.2.2.2.2.1 k fun op21 s22 e23 i24 i25 i26 i27 i28 i29 i30 i31 => cmdNumbers_q23 n op21 s22 e23 i24 i25 i26 i27 i28 i29 i30 i31 k) = k true := by
  obtain ⟨w0, w1, w2⟩ := op_word ⟨op, ho⟩
  simp only at w0 w1 w2
  have htl := tailW_len hi
  have hline := line_ok ho hi hl
  rw [sCParse_text (by rw [List.length_append]; unfold lim; omega)] at hy
  unfold cmdNumbers_q21
  by_cases hh : okFrom op 0 ns = true ∧ opLeast.getD op 0 ≤ ns.length ∧ (ns.length : Int) ≤ opMost.getD op 0
  · rw [if_pos hh] at hline
    obtain ⟨c, h1, h2, h3, h4⟩ := hline
    rw [h1] at hy
    cases hy
    rw [decide_eq_true hh] at hok
    subst hok
    rw [Bool.not_true, cond_false]
    unfold cmdNumbers_q23
    simp only [cmE]
    rw [sCPrint_of h3, h4, Option.bind_some, wrapN (by omega) (by omega), h2]
    simp only
    rw [show ((0 : Int) == 0) = true from rfl, cond_true, show (((op : Int) + 1 == (op : Int) + 1) : Bool) = true by simp, cond_true, cond_true, text_toList, beq_list, decide_eq_true rfl, cond_true, wakes15_ok, Option.bind_some]
  · rw [if_neg hh] at hline
    rw [hline] at hy
    cases hy
    rw [decide_eq_false hh] at hok
    subst hok
    rw [Bool.not_false, cond_true]
    simp only [cmE, zeroC]
    rw [show ((2 : Int) != 0) = true from rfl, cond_true, show ((0 : Int) == 0) = true from rfl, cond_true, wakes15_ok, Option.bind_some]
theorem op_table (j : Nat) (h : j < 13) : (opWords.map fun l => [PV.str (text l)])[Int.toNat (j : Int)]? = some [PV.str (text (opWords.getD j []))] := by
  have hl : j < opWords.length := h
  rw [Int.toNat_natCast, List.getElem?_map, List.getElem?_eq_getElem hl, List.getD_eq_getElem?_getD, List.getElem?_eq_getElem hl]
  rfl
theorem cmdNumbers_ok : ∀ (op1 : Int) (l2 : List (List PV)) (y : Bool), sCmdNumbers op1 l2 = some y → ∃ n, ∀ (R : Type) (k : Bool → Option R), cmdNumbers_b n op1 l2 k = k y := by
  intro op1 es y h
  simp only [sCmdNumbers, Option.bind_eq_some_iff] at h
  obtain ⟨zs, h1, h2⟩ := h
  split at h2
  case isFalse => cases h2
  rename_i hh
  cases h2
  obtain ⟨rfl, hz'⟩ := unI_inv h1
  have hz : ∀ n ∈ zs, inI n = true := fun n hn => (inI_iff n).2 (hz' n hn)
  refine ⟨20, fun R k => ?_⟩
  unfold cmdNumbers_b
  obtain ⟨op, ho, e⟩ := within_ok op1 (m := 13) (by omega) (by omega)
  have e' : within_d op1 13 = some (op : Int) := e
  rw [e', Option.bind_some, if_pos (by omega)]
  refine (bind_at (op_table op ho) _).trans ?_
  simp only [Option.bind_some, List.getElem?_cons_zero, PV.asS]
  have hcnt : (if (6 : Int) < ((iRow zs).length : Int) then (6 : Int) else ((iRow zs).length : Int)) = ((zs.take 6).length : Int) := by
    rw [iRow_length, List.length_take]
    split <;> omega
  rw [hcnt]
  obtain ⟨w0, w1, w2⟩ := op_word ⟨op, ho⟩
  simp only at w0 w1 w2
  have hr := fun e1 e2 k0 => numbers_rounds (R := R) (op := op) hz w2 e1 e2 k0 (zs.take 6) [] 20 rfl (by simp; omega) true
  simp only [List.map_nil, List.nil_append, Bool.true_and, List.length_nil] at hr
  rw [show tailW [] = [] from rfl, List.append_nil] at hr
  refine (hr _ _ _).trans ?_
  have hi : ∀ n ∈ (zs.take 6).map numN, inI n = true := by
    intro n hn
    obtain ⟨x, hx, rfl⟩ := List.mem_map.1 hn
    exact numN_in (hz x (List.mem_of_mem_take hx))
  have hl : ((zs.take 6).map numN).length ≤ 6 := by simp; omega
  rw [show (zs.take 6).length = ((zs.take 6).map numN).length by simp]
  generalize (zs.take 6).map numN = ns at hi hl
  have htl := tailW_len hi
  have hp := sCParse_text (l := opWords.getD op [] ++ tailW ns) (by rw [List.length_append]; unfold lim; omega)
  rw [hp, Option.bind_some]
  have q := fun ok hok => numbers_end (R := R) 20 ho hi hl _ hp ok hok k
  cases hok : okFrom op 0 ns with
  | false =>
    rw [cond_false]
    exact q false (by rw [hok]; simp)
  | true =>
    rw [cond_true]
    have i1 : ((opLeast.map fun v => [PV.int .i64 v]).length : Int) = 13 := rfl
    have i2 : ((opMost.map fun v => [PV.int .i64 v]).length : Int) = 13 := rfl
    have g1 := op_idx (l := opLeast) (j := op) ho
    have g2 := op_idx (l := opMost) (j := op) ho
    refine (if_pos (show 0 ≤ (op : Int) ∧ (op : Int) < ((opLeast.map fun v => [PV.int .i64 v]).length : Int) by rw [i1]; omega)).trans ?_
    refine (bind_at g1 _).trans ?_
    simp only [Option.bind_some, List.getElem?_cons_zero, PV.asI, if_true]
    by_cases c1 : (ns.length : Int) ≥ opLeast.getD op 0
    · rw [decide_eq_true c1, cond_true]
      refine (if_pos (show 0 ≤ (op : Int) ∧ (op : Int) < ((opMost.map fun v => [PV.int .i64 v]).length : Int) by rw [i2]; omega)).trans ?_
      refine (bind_at g2 _).trans ?_
      simp only [Option.bind_some, List.getElem?_cons_zero, PV.asI, if_true]
      exact q _ (by rw [hok, decide_eq_decide]; exact ⟨fun h => ⟨rfl, c1, h⟩, fun h => h.2.2⟩)
    · rw [decide_eq_false c1, cond_false]
      exact q false (by rw [hok, decide_eq_false (fun e => c1 e.2.1)])
end Go.Proofs.YtkeklbicmfhemaaDoorV
