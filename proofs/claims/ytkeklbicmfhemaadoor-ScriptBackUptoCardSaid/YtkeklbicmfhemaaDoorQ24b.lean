/- Chapter 24: the texts of acts; the law of forms. -/
import Derived.Test.YtkeklbicmfhemaaDoorQ24
namespace Go.Proofs.YtkeklbicmfhemaaDoorV
open Go
set_option maxRecDepth 20000
set_option linter.unusedSimpArgs false

/-! An act's line. -/
theorem kindWords_short : ∀ w ∈ kindWords, w.length ≤ 5 := by decide
theorem lineV_in {a1 a2 : Int} {a3 : ByteArray} (h : 1 ≤ a1 ∧ a1 ≤ 6) : lineV (a1, a2, a3) = (kindWords.getD (a1 - 1).toNat []) ++ 32 :: dig a2 ++ (if textK a1 = true then 32 :: a3.data.toList else []) := if_pos h
theorem kind_at {j : Nat} (h : j < 6) : (sRow (kindWords.map text))[j]? = some [PV.str (text (kindWords.getD j []))] ∧ (kindWords.getD j []).length ≤ 5 := by
  have hl : j < kindWords.length := h
  have e : kindWords.getD j [] = kindWords[j] := by rw [List.getD_eq_getElem?_getD, List.getElem?_eq_getElem hl]; rfl
  rw [e]
  refine ⟨?_, kindWords_short _ (List.getElem_mem hl)⟩
  simp only [sRow, List.map_map, List.getElem?_map, List.getElem?_eq_getElem hl, Option.map_some]
  rfl
theorem sScLine_in {a1 a2 : Int} {a3 : ByteArray} (h2 : inI a2 = true) (h3 : a3.size ≤ 2 * mega) : sScLine a1 a2 a3 = some (text (lineV (a1, a2, a3))) := if_pos ⟨h2, h3⟩
theorem scLine_ok : ∀ (a1 a2 : Int) (a3 : ByteArray) (y : ByteArray), sScLine a1 a2 a3 = some y → ∀ (R : Type) (k : ByteArray → Option R), scLine_b a1 a2 a3 k = k y := by
  intro a1 a2 a3 y h R k
  unfold sScLine at h
  split at h
  case isFalse => cases h
  rename_i hh
  cases h
  obtain ⟨h2, h3⟩ := hh
  unfold scLine_b
  by_cases c1 : a1 < 1
  · rw [decide_eq_true c1, cond_true]
    unfold lineV
    rw [if_neg (by simp only; omega)]
    rfl
  rw [decide_eq_false c1, cond_false]
  by_cases c2 : a1 > 6
  · rw [decide_eq_true c2, cond_true]
    unfold lineV
    rw [if_neg (by simp only; omega)]
    rfl
  rw [decide_eq_false c2, cond_false, lineV_in (by omega)]
  have hw : IntKind.i64.wrap (a1 - 1) = a1 - 1 := wrapN (by omega) (by omega)
  obtain ⟨hget, hwl⟩ := kind_at (j := Int.toNat (a1 - 1)) (by omega)
  generalize kindWords.getD (a1 - 1).toNat [] = w at hget hwl
  have hl : ((sRow (kindWords.map text)).length : Int) = 6 := rfl
  have hin : 0 ≤ a1 - 1 ∧ a1 - 1 < 6 := by omega
  have hd := dig_length h2
  unfold mega at h3
  have hs3 : (ByteArray.mk #[32]).size = 1 := rfl
  have p1 : (text w).size + (ByteArray.mk #[32]).size ≤ 140737488355328 := by rw [text_size, hs3]; omega
  have q1 : (text w ++ ByteArray.mk #[32]).size = w.length + 1 := by rw [ByteArray.size_append, text_size, hs3]
  have p2 : (text w ++ ByteArray.mk #[32]).size + (text (dig a2)).size ≤ 140737488355328 := by rw [q1, text_size]; omega
  have q2 : ((text w ++ ByteArray.mk #[32]) ++ text (dig a2)).size = w.length + 1 + (dig a2).length := by rw [ByteArray.size_append, q1, text_size]
  have p3 : ((text w ++ ByteArray.mk #[32]) ++ text (dig a2)).size + (ByteArray.mk #[32]).size ≤ 140737488355328 := by rw [q2, hs3]; omega
  have p4 : (((text w ++ ByteArray.mk #[32]) ++ text (dig a2)) ++ ByteArray.mk #[32]).size + a3.size ≤ 140737488355328 := by rw [ByteArray.size_append, q2, hs3]; omega
  have e0 : ∀ s : ByteArray, ([PV.str s] : List PV)[0]? = some (PV.str s) := fun _ => rfl
  have eS : ∀ s : ByteArray, PV.asS (PV.str s) = some s := fun _ => rfl
  simp only [scWords_ok, Option.bind_some, hw, hl, hget, e0, eS, digits_ok h2, scText_ok, and_self, hin.1, hin.2, p1, p2, p3, p4, if_true, meet_self]
  have e3 : text a3.data.toList = a3 := text_of a3
  cases textK a1 with
  | true =>
    rw [cond_true, if_pos rfl]
    congr 1
    conv => lhs; rw [← e3]
    rw [show ByteArray.mk #[32] = text [32] from rfl]
    simp only [text_append, List.append_assoc, List.singleton_append, List.cons_append, List.nil_append]
  | false =>
    rw [cond_false, if_neg (by simp)]
    congr 1
    rw [show ByteArray.mk #[32] = text [32] from rfl]
    simp only [text_append, List.append_assoc, List.singleton_append, List.append_nil, List.cons_append, List.nil_append]
theorem lineV_length {a : Act} (h : okA a = true) : (lineV a).length ≤ 2 * mega + 40 := by
  obtain ⟨a1, a2, a3⟩ := a
  simp only [okA, Bool.and_eq_true, decide_eq_true_eq] at h
  obtain ⟨h1, h2, h3⟩ := h
  have hd := dig_length h2
  by_cases hk : 1 ≤ a1 ∧ a1 ≤ 6
  · obtain ⟨_, hwl⟩ := kind_at (j := Int.toNat (a1 - 1)) (by omega)
    rw [lineV_in hk]
    have hsz := size_data a3
    split
    · simp only [List.length_append, List.length_cons]; omega
    · simp only [List.length_append, List.length_cons, List.length_nil]; omega
  · unfold lineV
    rw [if_neg (by simpa using hk)]
    simp

/-! Acts as a text. -/
theorem sContains_one {l : List UInt8} (c : UInt8) (h : l.length ≤ lim) : sContains (text l) (ByteArray.mk #[c]) = some (l.contains c) := by
  unfold sContains
  rw [text_size, if_pos h, text_data]
  exact congrArg some (contains_one c l)
theorem print_rounds {R : Type} {l : List Act} (hl : l.length ≤ 1000) (hk : l.all okA = true) (k0 : ByteArray → Int → Option R) (k1 : ByteArray → Option R) : ∀ (rest pre : List Act) (out : List UInt8) (n : Nat), l = pre ++ rest → rest.length < n → out.length ≤ pre.length * 2097300 →
    scPrint_l3 n (text out) (aRow l) (l.length : Int) (pre.length : Int) k0 k1 = match printF rest out with | some o => k1 (text o) | none => k0 (text []) 1
  | [], pre, out, n, hw, hn, _ => by
    obtain ⟨m, rfl⟩ : ∃ m, n = m + 1 := ⟨n - 1, by omega⟩
    simp only [List.append_nil] at hw
    subst hw
    unfold scPrint_l3 printF
    rw [decide_eq_false (by omega), cond_false]
  | x :: rest, pre, out, n, hw, hn, ho => by
    obtain ⟨m, rfl⟩ : ∃ m, n = m + 1 := ⟨n - 1, by omega⟩
    have hlen : l.length = pre.length + (rest.length + 1) := by rw [hw]; simp
    have hx : okA x = true := List.all_eq_true.1 hk x (by rw [hw]; simp)
    have hx' := hx
    simp only [okA, Bool.and_eq_true, decide_eq_true_eq] at hx'
    have hll := lineV_length hx
    unfold mega at hll
    have hidx : idx (aRow l) (pre.length : Int) = some [.int .i64 x.1, .int .i64 x.2.1, .str x.2.2] := by rw [hw]; exact idx_aRow pre x rest
    have hline : scLine_D [PV.agg [.int .i64 x.1, .int .i64 x.2.1, .str x.2.2]] = some (text (lineV x)) := sScLine_in hx'.2.1 hx'.2.2
    have hact : sScAct (text (lineV x)) = some ((actV (lineV x)).1.1, (actV (lineV x)).1.2.1, (actV (lineV x)).1.2.2, (actV (lineV x)).2) := by
      unfold sScAct
      rw [text_size, if_pos (by unfold lim; omega), text_data]
    have hsub : subAgg [.int .i64 x.1, .int .i64 x.2.1, .str x.2.2] 0 3 = some (.agg [.int .i64 x.1, .int .i64 x.2.1, .str x.2.2]) := rfl
    have hagg : PV.isAgg (.agg [.int .i64 x.1, .int .i64 x.2.1, .str x.2.2]) 3 = true := rfl
    have hg : PV.asAgg (.agg [.int .i64 x.1, .int .i64 x.2.1, .str x.2.2]) = some [.int .i64 x.1, .int .i64 x.2.1, .str x.2.2] := rfl
    have hl3 : ([.int .i64 x.1, .int .i64 x.2.1, .str x.2.2] : List PV).length = 3 := rfl
    unfold scPrint_l3 printF
    rw [decide_eq_true (by omega), cond_true, hidx]
    simp only [Option.bind_some, hl3, if_true, hsub, hagg, hline, hact, hg, eqA]
    unfold goodA
    generalize actV (lineV x) = v
    obtain ⟨v, ok⟩ := v
    cases ok with
    | false => rw [Bool.not_false, cond_true, if_neg (by simp)]; rfl
    | true =>
      rw [Bool.not_true, cond_false]
      by_cases hv : v = x
      · rw [decide_eq_true hv, Bool.not_true, cond_false, sContains_one 10 (by unfold lim; omega), Option.bind_some]
        cases hc : (lineV x).contains 10 with
        | true => rw [cond_true, if_neg (by simp)]; rfl
        | false =>
          rw [cond_false, show ByteArray.mk #[10] = text [10] from rfl, text_append, text_append, text_size, text_size, text_size, text_size]
          rw [if_pos (by omega), if_pos (by simp; omega), if_pos (by simp), wrapN (by omega) (by omega), show ((pre.length : Int) + 1) = ((pre ++ [x]).length : Int) by simp]
          exact print_rounds hl hk k0 k1 rest (pre ++ [x]) _ m (by rw [hw]; simp) (by simp at hn; omega) (by simp; omega)
      · rw [decide_eq_false hv, Bool.not_false, cond_true, if_neg (by simp)]; rfl
theorem scPrint_ok : ∀ (l1 : List (List PV)) (y : ByteArray × Int), sScPrint l1 = some y → ∃ n, ∀ (R : Type) (k : ByteArray → Int → Option R), scPrint_b n l1 k = k y.1 y.2 := by
  intro es y h
  simp only [sScPrint, Option.bind_eq_some_iff] at h
  obtain ⟨l, h1, h2⟩ := h
  split at h2
  case isFalse => cases h2
  rename_i hh
  cases h2
  rw [unA_inv h1]
  refine ⟨l.length + 1, fun R k => ?_⟩
  unfold scPrint_b
  rw [aRow_length]
  have := print_rounds (R := R) hh.1 hh.2 k (fun o => k o 0) l [] [] (l.length + 1) rfl (by omega) (by simp)
  refine this.trans ?_
  unfold printR
  cases printF l [] <;> rfl

/-! The document's example, and the forms. -/
theorem sScParse_text {l : List UInt8} (h : l.length ≤ lim) : sScParse (text l) = some (parseR l) := by
  unfold sScParse
  rw [text_size, if_pos h, text_data]
theorem sScParse_at {l : List UInt8} (h : l.length ≤ lim) : sScParse (ByteArray.mk l.toArray) = some (parseR l) := sScParse_text h
theorem sScPrint_of {l : List Act} (h1 : l.length ≤ 1000) (h2 : l.all okA = true) : sScPrint (aRow l) = some (printR l) := by
  unfold sScPrint
  rw [unA_row, Option.bind_some, if_pos ⟨h1, h2⟩]
theorem wakes24_ok : wakes24_d = some true := by
  unfold wakes24_d wakes24_b
  rw [sScParse_at (l := []) (by decide), sScParse_at (l := [115, 97, 121, 32, 49, 32, 97, 32, 98, 10]) (by decide)]
  rw [show parseR [] = ([], 0) from rfl, show parseR [115, 97, 121, 32, 49, 32, 97, 32, 98, 10] = (aRow [(3, 1, text [97, 32, 98])], 0) from rfl]
  simp only [Option.bind_some]
  rw [show ([[PV.int .i64 3, PV.int .i64 1, PV.str (ByteArray.mk #[97, 32, 98])]] : List (List PV)) = aRow [(3, 1, text [97, 32, 98])] from rfl, sSameA_of (by decide), decide_eq_true rfl]
  rfl
def goodText : List UInt8 := [111, 112, 101, 110, 32, 51, 10, 115, 97, 121, 32, 51, 32, 97, 100, 100, 32, 49, 32, 48, 32, 48, 10, 98, 121, 116, 101, 115, 32, 51, 32, 32, 120, 10, 115, 97, 121, 32, 51, 32, 10, 112, 105, 99, 107, 32, 51, 10, 114, 117, 110, 32, 57, 57, 57, 57, 10, 99, 108, 111, 115, 101, 32, 48, 10]
def goodActs : List Act := [(1, 3, text []), (3, 3, text [97, 100, 100, 32, 49, 32, 48, 32, 48]), (4, 3, text [32, 120]), (3, 3, text []), (5, 3, text []), (6, 9999, text []), (2, 0, text [])]
def badTexts : List (List UInt8) := [[10], [111, 112, 101, 110, 10], [111, 112, 101, 110, 32, 51], [111, 112, 101, 110, 32, 51, 32, 10], [111, 112, 101, 110, 32, 32, 51, 10], [32, 111, 112, 101, 110, 32, 51, 10], [111, 112, 101, 110, 32, 48, 51, 10], [111, 112, 101, 110, 32, 45, 49, 10], [111, 112, 101, 110, 32, 49, 48, 48, 48, 48, 10], [111, 112, 101, 110, 32, 120, 10], [115, 97, 121, 32, 51, 10], [115, 97, 121, 32, 120, 32, 121, 10], [112, 105, 99, 107, 32, 51, 32, 120, 10], [79, 112, 101, 110, 32, 51, 10], [111, 112, 101, 110, 115, 32, 51, 10], [111, 112, 101, 110, 32, 51, 10, 10], [119, 104, 97, 116, 32, 51, 10]]
theorem badTexts_none : ∀ l ∈ badTexts, (parseV l).isNone = true ∧ l.length ≤ 100 := by decide +kernel
theorem good_parse : parseR goodText = (aRow goodActs, 0) := by kernel_rfl
theorem good_print : printR goodActs = (text goodText, 0) := by kernel_rfl
theorem bad_print (a : Act) (h : a ∈ ([(7, 1, text []), (1, -1, text []), (5, 1, text [120]), (3, 1, text [97, 10, 98])] : List Act)) : goodA a = false := by
  simp only [List.mem_cons, List.not_mem_nil, or_false] at h
  rcases h with rfl | rfl | rfl | rfl <;> kernel_rfl
theorem printR_bad {a : Act} (h : goodA a = false) : printR [a] = (text [], 1) := by
  unfold printR printF
  rw [h, if_neg (by simp)]
theorem bad_tab : ([[(PV.str (ByteArray.mk #[10]))], [(PV.str (ByteArray.mk #[111, 112, 101, 110, 10]))], [(PV.str (ByteArray.mk #[111, 112, 101, 110, 32, 51]))], [(PV.str (ByteArray.mk #[111, 112, 101, 110, 32, 51, 32, 10]))], [(PV.str (ByteArray.mk #[111, 112, 101, 110, 32, 32, 51, 10]))], [(PV.str (ByteArray.mk #[32, 111, 112, 101, 110, 32, 51, 10]))], [(PV.str (ByteArray.mk #[111, 112, 101, 110, 32, 48, 51, 10]))], [(PV.str (ByteArray.mk #[111, 112, 101, 110, 32, 45, 49, 10]))], [(PV.str (ByteArray.mk #[111, 112, 101, 110, 32, 49, 48, 48, 48, 48, 10]))], [(PV.str (ByteArray.mk #[111, 112, 101, 110, 32, 120, 10]))], [(PV.str (ByteArray.mk #[115, 97, 121, 32, 51, 10]))], [(PV.str (ByteArray.mk #[115, 97, 121, 32, 120, 32, 121, 10]))], [(PV.str (ByteArray.mk #[112, 105, 99, 107, 32, 51, 32, 120, 10]))], [(PV.str (ByteArray.mk #[79, 112, 101, 110, 32, 51, 10]))], [(PV.str (ByteArray.mk #[111, 112, 101, 110, 115, 32, 51, 10]))], [(PV.str (ByteArray.mk #[111, 112, 101, 110, 32, 51, 10, 10]))], [(PV.str (ByteArray.mk #[119, 104, 97, 116, 32, 51, 10]))]] : List (List PV)) = badTexts.map fun l => [PV.str (text l)] := rfl
theorem scriptForms_ok : ∀ (n1 : Int) (y : Bool), sScriptForms n1 = some y → ∀ (R : Type) (k : Bool → Option R), scriptForms_b n1 k = k y := by
  intro n y h R k
  unfold sScriptForms at h
  split at h
  case isFalse => cases h
  cases h
  unfold scriptForms_b
  have e1 : sScParse (ByteArray.mk #[111, 112, 101, 110, 32, 51, 10, 115, 97, 121, 32, 51, 32, 97, 100, 100, 32, 49, 32, 48, 32, 48, 10, 98, 121, 116, 101, 115, 32, 51, 32, 32, 120, 10, 115, 97, 121, 32, 51, 32, 10, 112, 105, 99, 107, 32, 51, 10, 114, 117, 110, 32, 57, 57, 57, 57, 10, 99, 108, 111, 115, 101, 32, 48, 10]) = some (aRow goodActs, 0) := (sScParse_text (l := goodText) (by decide)).trans (congrArg some good_parse)
  have e2 : sScPrint [[(PV.int .i64 1), (PV.int .i64 3), (PV.str (ByteArray.mk #[]))], [(PV.int .i64 3), (PV.int .i64 3), (PV.str (ByteArray.mk #[97, 100, 100, 32, 49, 32, 48, 32, 48]))], [(PV.int .i64 4), (PV.int .i64 3), (PV.str (ByteArray.mk #[32, 120]))], [(PV.int .i64 3), (PV.int .i64 3), (PV.str (ByteArray.mk #[]))], [(PV.int .i64 5), (PV.int .i64 3), (PV.str (ByteArray.mk #[]))], [(PV.int .i64 6), (PV.int .i64 9999), (PV.str (ByteArray.mk #[]))], [(PV.int .i64 2), (PV.int .i64 0), (PV.str (ByteArray.mk #[]))]] = some (text goodText, 0) := (sScPrint_of (l := goodActs) (by decide) (by decide +kernel)).trans (congrArg some good_print)
  have e3 : ([[(PV.int .i64 1), (PV.int .i64 3), (PV.str (ByteArray.mk #[]))], [(PV.int .i64 3), (PV.int .i64 3), (PV.str (ByteArray.mk #[97, 100, 100, 32, 49, 32, 48, 32, 48]))], [(PV.int .i64 4), (PV.int .i64 3), (PV.str (ByteArray.mk #[32, 120]))], [(PV.int .i64 3), (PV.int .i64 3), (PV.str (ByteArray.mk #[]))], [(PV.int .i64 5), (PV.int .i64 3), (PV.str (ByteArray.mk #[]))], [(PV.int .i64 6), (PV.int .i64 9999), (PV.str (ByteArray.mk #[]))], [(PV.int .i64 2), (PV.int .i64 0), (PV.str (ByteArray.mk #[]))]] : List (List PV)) = aRow goodActs := rfl
  have pb : ∀ a : Act, a ∈ ([(7, 1, text []), (1, -1, text []), (5, 1, text [120]), (3, 1, text [97, 10, 98])] : List Act) → okA a = true → sScPrint (aRow [a]) = some (text [], 1) := fun a ha ho => (sScPrint_of (by simp) (by simp [ho])).trans (congrArg some (printR_bad (bad_print a ha)))
  have b1 : sScPrint [[(PV.int .i64 7), (PV.int .i64 1), (PV.str (ByteArray.mk #[]))]] = some (text [], 1) := pb (7, 1, text []) (by simp) (by decide +kernel)
  have b2 : sScPrint [[(PV.int .i64 1), (PV.int .i64 (-1)), (PV.str (ByteArray.mk #[]))]] = some (text [], 1) := pb (1, -1, text []) (by simp) (by decide +kernel)
  have b3 : sScPrint [[(PV.int .i64 5), (PV.int .i64 1), (PV.str (ByteArray.mk #[120]))]] = some (text [], 1) := pb (5, 1, text [120]) (by simp) (by decide +kernel)
  have b4 : sScPrint [[(PV.int .i64 3), (PV.int .i64 1), (PV.str (ByteArray.mk #[97, 10, 98]))]] = some (text [], 1) := pb (3, 1, text [97, 10, 98]) (by simp) (by decide +kernel)
  have hsame : sSameA (aRow goodActs) (aRow goodActs) = some true := (sSameA_of (by decide)).trans (congrArg some (decide_eq_true rfl))
  rw [e1, e2, e3, bad_tab]
  obtain ⟨j, hj, e⟩ := within_ok n (m := 17) (by omega) (by omega)
  rw [show (17 : Int) = ((17 : Nat) : Int) from rfl, e]
  have hmem := badTexts_none _ (List.getElem_mem (l := badTexts) (n := j) hj)
  have hget : (badTexts.map fun l => [PV.str (text l)])[Int.toNat (j : Int)]? = some [PV.str (text badTexts[j])] := by
    rw [Int.toNat_natCast, List.getElem?_map, List.getElem?_eq_getElem (by exact hj), Option.map_some]
  have hp : sScParse (text badTexts[j]) = some ([], 2) := by
    rw [sScParse_text (by unfold lim; omega)]
    unfold parseR
    rw [Option.isNone_iff_eq_none.1 hmem.1]
  have hcond : 0 ≤ (j : Int) ∧ (j : Int) < ((17 : Nat) : Int) := by omega
  have e0 : ∀ s : ByteArray, ([PV.str s] : List PV)[0]? = some (PV.str s) := fun _ => rfl
  have eS : ∀ s : ByteArray, PV.asS (PV.str s) = some s := fun _ => rfl
  rw [Option.bind_some, Option.bind_some, bne_self_eq_false, cond_false, hsame]
  simp only [Option.bind_some, bne_self_eq_false, cond_false, Bool.not_true, if_pos hcond, hget, e0, eS, hp, b1, b2, b3, b4, wakes24_ok, text_toList]
  have hgt : ByteArray.toList (ByteArray.mk #[111, 112, 101, 110, 32, 51, 10, 115, 97, 121, 32, 51, 32, 97, 100, 100, 32, 49, 32, 48, 32, 48, 10, 98, 121, 116, 101, 115, 32, 51, 32, 32, 120, 10, 115, 97, 121, 32, 51, 32, 10, 112, 105, 99, 107, 32, 51, 10, 114, 117, 110, 32, 57, 57, 57, 57, 10, 99, 108, 111, 115, 101, 32, 48, 10]) = goodText := text_toList goodText
  rw [hgt, beq_self_eq_true]
  rfl
end Go.Proofs.YtkeklbicmfhemaaDoorV
