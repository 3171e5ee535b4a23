/- Chapter 15: the laws of forms by hand, of numbers. -/
import Derived.Test.YtkeklbicmfhemaaDoorQ15c
namespace Go.Proofs.YtkeklbicmfhemaaDoorV
open Go
set_option maxRecDepth 20000
set_option linter.unusedSimpArgs false

/-! By hand. -/
def goodTab : List (List UInt8 × Cm) := [([97, 100, 100, 32, 49, 32, 48, 32, 50], (1, 1, 0, 2, -1, 0, 0, -1)), ([97, 100, 100, 32, 49, 32, 48, 32, 50, 32, 48], (1, 1, 0, 2, 0, 0, 0, -1)), ([100, 101, 108, 32, 57, 57, 57], (2, 999, 0, 0, -1, 0, 0, -1)), ([109, 111, 118, 32, 51, 32, 50, 32, 49], (3, 3, 2, 1, -1, 0, 0, -1)), ([108, 111, 99, 107, 32, 48], (4, 0, 0, 0, -1, 0, 0, -1)), ([102, 114, 101, 101, 32, 52], (5, 4, 0, 0, -1, 0, 0, -1)), ([105, 99, 101, 32, 49], (6, 0, 1, 0, -1, 0, 0, -1)), ([116, 104, 97, 119, 32, 49], (7, 0, 1, 0, -1, 0, 0, -1)), ([111, 112, 116, 32, 50, 48, 32, 48, 32, 49], (8, 0, 1, 0, -1, 20, 0, -1)), ([111, 112, 116, 32, 49, 32, 57, 57, 57, 32, 49, 32, 48], (8, 0, 1, 0, -1, 1, 999, 0)), ([117, 110, 100, 111], (9, 0, 0, 0, -1, 0, 0, -1)), ([114, 101, 100, 111], (10, 0, 0, 0, -1, 0, 0, -1)), ([115, 104, 111, 119, 32, 50], (11, 0, 2, 0, -1, 0, 0, -1)), ([112, 111, 111, 108], (12, 0, 0, 0, -1, 0, 0, -1)), ([99, 111, 115, 116], (13, 0, 0, 0, -1, 0, 0, -1))]
def badTab : List (List UInt8) := [[], [32], [97, 100, 100], [97, 100, 100, 32, 49], [97, 100, 100, 32, 49, 32, 50], [97, 100, 100, 32, 49, 32, 50, 32, 51, 32, 52, 32, 53], [97, 100, 100, 32, 49, 48, 48, 48, 32, 48, 32, 48], [97, 100, 100, 32, 45, 49, 32, 48, 32, 48], [97, 100, 100, 32, 48, 49, 32, 48, 32, 48], [97, 100, 100, 32, 97, 32, 48, 32, 48], [65, 100, 100, 32, 49, 32, 48, 32, 48], [97, 100, 100, 49, 32, 48, 32, 48], [100, 101, 108], [100, 101, 108, 32, 49, 32, 50], [111, 112, 116, 32, 48, 32, 49, 32, 49], [111, 112, 116, 32, 50, 49, 32, 49, 32, 49], [111, 112, 116, 32, 49, 32, 49], [111, 112, 116, 32, 49, 32, 49, 32, 49, 32, 49, 32, 49], [117, 110, 100, 111, 32, 49], [112, 111, 111, 108, 32, 49], [99, 111, 115, 116, 32, 48], [115, 104, 111, 119], [97, 100, 100, 9, 49, 32, 48, 32, 48], [97, 100, 100, 32, 49, 32, 48, 32, 48, 10], [113, 117, 105, 116]]
def badCmds : List Cm := [(0, 0, 0, 0, 0, 0, 0, 0), (14, 0, 0, 0, -1, 0, 0, -1), (12, 0, 0, 0, 0, 0, 0, 0), (12, 0, 0, 0, -1, 0, 0, 0), (12, 1, 0, 0, -1, 0, 0, -1), (2, 1000, 0, 0, -1, 0, 0, -1), (2, -1, 0, 0, -1, 0, 0, -1), (1, 0, 0, 0, -2, 0, 0, -1), (1, 0, 0, 0, 1000, 0, 0, -1), (8, 0, 0, 0, -1, 0, 0, -1), (8, 0, 0, 0, -1, 21, 0, -1), (8, 0, 0, 0, 0, 1, 0, -1), (2, 0, 1, 0, -1, 0, 0, -1)]
def isGood (x : List UInt8 × Cm) : Bool := (match parseC x.1 with | some d => eqC d x.2 | none => false) && ((match printC x.2 with | some l => l == x.1 | none => false) && (decide (x.1.length ≤ 100) && inC x.2))
theorem goodTab_ok : goodTab.all isGood = true := by kernel_rfl
theorem badTab_ok : badTab.all (fun l => (parseC l).isNone && decide (l.length ≤ 100)) = true := by kernel_rfl
theorem badCmds_ok : badCmds.all (fun c => (printC c).isNone && inC c) = true := by kernel_rfl
theorem good_of {x : List UInt8 × Cm} (h : x ∈ goodTab) : parseC x.1 = some x.2 ∧ printC x.2 = some x.1 ∧ x.1.length ≤ 100 ∧ inC x.2 = true := by
  have h1 := List.all_eq_true.1 goodTab_ok x h
  simp only [isGood, Bool.and_eq_true, decide_eq_true_eq] at h1
  obtain ⟨a, b, c, d⟩ := h1
  refine ⟨?_, ?_, c, d⟩
  · split at a
    · rename_i e he
      rw [he, (eqC_iff _ _).1 a]
    · cases a
  · split at b
    · rename_i e he
      rw [he, beq_iff_eq.1 b]
    · cases b
def cRow8 (c : Cm) : List PV := [.int .i64 c.1, .int .i64 c.2.1, .int .i64 c.2.2.1, .int .i64 c.2.2.2.1, .int .i64 c.2.2.2.2.1, .int .i64 c.2.2.2.2.2.1, .int .i64 c.2.2.2.2.2.2.1, .int .i64 c.2.2.2.2.2.2.2]
def gRow (l : List (List UInt8 × Cm)) : List (List PV) := l.map fun x => .str (text x.1) :: cRow8 x.2
theorem eqvs_cm (a b : Cm) : eqvs T [(3, 0), (3, 1), (3, 2), (3, 3), (3, 4), (3, 5), (3, 6), (3, 7)] (cRow8 a) (cRow8 b) = some (eqC a b) := rfl
theorem cPrint_at {c : Cm} (h : inC c = true) : cPrint_D [.agg (cRow8 c)] = some (match printC c with | some l => (text l, 0) | none => (text [], 1)) := if_pos h
theorem forms_good {R : Type} (n1 : Int) (k0 : Bool → Option R) (k1 : Int → Option R) : ∀ (rest pre : List (List UInt8 × Cm)) (n : Nat), goodTab = pre ++ rest → rest.length < n →
    cmdForms_l2 n n1 15 (pre.length : Int) (gRow goodTab) k0 k1 = k1 n1
  | [], pre, n, e, hn => by
    obtain ⟨m, rfl⟩ : ∃ m, n = m + 1 := ⟨n - 1, by omega⟩
    have hl : pre.length = 15 := by
      have := congrArg List.length e
      simpa [goodTab] using this.symm
    unfold cmdForms_l2
    rw [decide_eq_false (by omega), cond_false]
  | x :: rest, pre, n, e, hn => by
    obtain ⟨m, rfl⟩ : ∃ m, n = m + 1 := ⟨n - 1, by omega⟩
    have hl : pre.length + (rest.length + 1) = 15 := by
      have := congrArg List.length e
      simpa [goodTab] using this.symm
    obtain ⟨g1, g2, g3, g4⟩ := good_of (x := x) (by rw [e]; simp)
    have hrl : (gRow goodTab).length = 15 := rfl
    have hget : (gRow goodTab)[Int.toNat (pre.length : Int)]? = some (.str (text x.1) :: cRow8 x.2) := by
      rw [Int.toNat_natCast, e, gRow, List.map_append, List.map_cons, List.getElem?_append_right (by simp)]
      simp
    unfold cmdForms_l2
    rw [decide_eq_true (by omega), cond_true, hrl, if_pos (by omega), hget, Option.bind_some]
    have hsub : subAgg (PV.str (text x.1) :: cRow8 x.2) 0 9 = some (.agg (PV.str (text x.1) :: cRow8 x.2)) := rfl
    rw [hsub, Option.bind_some, if_pos (show PV.isAgg (.agg (PV.str (text x.1) :: cRow8 x.2)) 9 = true from rfl)]
    have c0 : (PV.cells (.agg (PV.str (text x.1) :: cRow8 x.2)))[0]? = some (PV.str (text x.1)) := rfl
    have c1 : ((PV.cells (.agg (PV.str (text x.1) :: cRow8 x.2))).drop 1).take 8 = cRow8 x.2 := rfl
    simp only [c0, c1, Option.bind_some, PV.asS]
    rw [sCParse_text (by unfold lim; omega), g1, Option.bind_some, cPrint_at g4, g2, Option.bind_some]
    simp only [cmE]
    rw [show ((0 : Int) != 0) = false from rfl, cond_false]
    have h8 : eqvs T [(3, 0), (3, 1), (3, 2), (3, 3), (3, 4), (3, 5), (3, 6), (3, 7)] [PV.int .i64 x.2.1, PV.int .i64 x.2.2.1, PV.int .i64 x.2.2.2.1, PV.int .i64 x.2.2.2.2.1, PV.int .i64 x.2.2.2.2.2.1, PV.int .i64 x.2.2.2.2.2.2.1, PV.int .i64 x.2.2.2.2.2.2.2.1, PV.int .i64 x.2.2.2.2.2.2.2.2] (cRow8 x.2) = some true := (eqvs_cm x.2 x.2).trans (congrArg some ((eqC_iff _ _).2 rfl))
    rw [h8, Option.bind_some, Bool.not_true, cond_false, text_toList, beq_list, decide_eq_true rfl, Bool.not_true, cond_false, wrapN (by omega) (by omega)]
    have ih := forms_good n1 k0 k1 rest (pre ++ [x]) m (by rw [e]; simp) (by simp at hn; omega)
    rw [show ((pre ++ [x]).length : Int) = (pre.length : Int) + 1 by simp] at ih
    exact ih
theorem forms_bad {R : Type} (z1 z2 z3 z4 z5 z6 z7 z8 : Int) (k0 : Bool → Option R) (k1 : Int → Int → Int → Int → Int → Int → Int → Int → Option R) : ∀ (rest pre : List Cm) (n : Nat), badCmds = pre ++ rest → rest.length < n →
    cmdForms_l14 n 13 (pre.length : Int) z1 z2 z3 z4 z5 z6 z7 z8 (badCmds.map cRow8) k0 k1 = k1 z1 z2 z3 z4 z5 z6 z7 z8
  | [], pre, n, e, hn => by
    obtain ⟨m, rfl⟩ : ∃ m, n = m + 1 := ⟨n - 1, by omega⟩
    have hl : pre.length = 13 := by
      have := congrArg List.length e
      simpa [badCmds] using this.symm
    unfold cmdForms_l14
    rw [decide_eq_false (by omega), cond_false]
  | x :: rest, pre, n, e, hn => by
    obtain ⟨m, rfl⟩ : ∃ m, n = m + 1 := ⟨n - 1, by omega⟩
    have hl : pre.length + (rest.length + 1) = 13 := by
      have := congrArg List.length e
      simpa [badCmds] using this.symm
    have hx := List.all_eq_true.1 badCmds_ok x (by rw [e]; simp)
    simp only [Bool.and_eq_true, Option.isNone_iff_eq_none] at hx
    have hrl : (badCmds.map cRow8).length = 13 := rfl
    have hget : (badCmds.map cRow8)[Int.toNat (pre.length : Int)]? = some (cRow8 x) := by
      rw [Int.toNat_natCast, e, List.map_append, List.map_cons, List.getElem?_append_right (by simp)]
      simp
    unfold cmdForms_l14
    rw [decide_eq_true (by omega), cond_true, hrl, if_pos (by omega), hget, Option.bind_some]
    have hsub : subAgg (cRow8 x) 0 8 = some (.agg (cRow8 x)) := rfl
    rw [hsub, Option.bind_some, if_pos (show PV.isAgg (.agg (cRow8 x)) 8 = true from rfl), cPrint_at hx.2, hx.1, Option.bind_some]
    simp only
    rw [show ((1 : Int) != 1) = false from rfl, cond_false, mk_nil, text_toList, beq_list, decide_eq_true rfl, Bool.not_true, cond_false, wrapN (by omega) (by omega)]
    have ih := forms_bad z1 z2 z3 z4 z5 z6 z7 z8 k0 k1 rest (pre ++ [x]) m (by rw [e]; simp) (by simp at hn; omega)
    rw [show ((pre ++ [x]).length : Int) = (pre.length : Int) + 1 by simp] at ih
    exact ih
theorem bind_at {α β : Type} {o o' : Option α} (h : o = o') (f : α → Option β) : Option.bind o f = Option.bind o' f := by rw [h]
theorem last_print : printC (9, 0, 0, 0, -1, 0, 0, -1) = some [117, 110, 100, 111] := by kernel_rfl
theorem last_parse : parseC [32, 32, 32, 97, 100, 100, 32, 32, 49, 32, 48, 32, 32, 32, 50, 32] = some (1, 1, 0, 2, -1, 0, 0, -1) := by kernel_rfl
theorem cmdForms_ok : ∀ (n1 : Int) (y : Bool), sCmdForms n1 = some y → ∃ n, ∀ (R : Type) (k : Bool → Option R), cmdForms_b n n1 k = k y := by
  intro n1 y h
  unfold sCmdForms at h
  split at h
  case isFalse => cases h
  cases h
  refine ⟨100, fun R k => ?_⟩
  unfold cmdForms_b
  refine (forms_good n1 k _ goodTab [] 100 rfl (by decide)).trans ?_
  obtain ⟨j, hj, e⟩ := within_ok n1 (m := 25) (by omega) (by omega)
  have e' : within_d n1 25 = some (j : Int) := e
  rw [e', Option.bind_some, if_pos (by omega)]
  have hb : badTab.length = 25 := rfl
  have hmem := List.all_eq_true.1 badTab_ok _ (List.getElem_mem (l := badTab) (n := j) (by omega))
  simp only [Bool.and_eq_true, decide_eq_true_eq, Option.isNone_iff_eq_none] at hmem
  have hget : (badTab.map fun l => [PV.str (text l)])[Int.toNat (j : Int)]? = some [PV.str (text (badTab[j]'(by omega)))] := by
    rw [Int.toNat_natCast, List.getElem?_map, List.getElem?_eq_getElem (by omega)]
    rfl
  generalize badTab[j]'(by omega) = l at hmem hget
  refine (bind_at hget _).trans ?_
  simp only [Option.bind_some, List.getElem?_cons_zero, PV.asS]
  rw [sCParse_text (by unfold lim; omega), hmem.1, Option.bind_some]
  simp only [cmE, zeroC]
  rw [show ((2 : Int) != 2) = false from rfl, cond_false, show (!((0 : Int) == 0 && ((0 : Int) == 0 && ((0 : Int) == 0 && ((0 : Int) == 0 && ((0 : Int) == 0 && ((0 : Int) == 0 && ((0 : Int) == 0 && ((0 : Int) == 0 && true))))))))) = false from rfl, cond_false]
  refine (forms_bad 0 0 0 0 0 0 0 0 k _ badCmds [] 100 rfl (by decide)).trans ?_
  have p1 : sCPrint 9 0 0 0 (-1) 0 0 (-1) = some (text [117, 110, 100, 111], 0) := (sCPrint_of (c := (9, 0, 0, 0, -1, 0, 0, -1)) (by decide)).trans (by rw [last_print])
  have p2 : sCParse (ByteArray.mk #[32, 32, 32, 97, 100, 100, 32, 32, 49, 32, 48, 32, 32, 32, 50, 32]) = some (cmE (1, 1, 0, 2, -1, 0, 0, -1) 0) := (sCParse_text (l := [32, 32, 32, 97, 100, 100, 32, 32, 49, 32, 48, 32, 32, 32, 50, 32]) (by decide)).trans (by rw [last_parse])
  simp only [p1, p2, Option.bind_some, cmE]
  rw [show ((0 : Int) == 0) = true from rfl, cond_true, show (ByteArray.mk #[117, 110, 100, 111]) = text [117, 110, 100, 111] from rfl, text_toList, beq_list, decide_eq_true rfl, cond_true, show ((2 : Int) == 2) = true from rfl, cond_true, wakes15_ok, Option.bind_some]
  rfl

/-! Of numbers: what a line of a word and numbers is. -/
/-- Which number a letter stands for. -/
def fld (b : UInt8) : Nat := if b = 115 then 0 else if b = 99 then 1 else if b = 97 then 2 else if b = 109 then 3 else if b = 98 then 4 else if b = 120 then 5 else 6
theorem get_put (c : Cm) (b d : UInt8) (n : Int) : getC (putC c b n) d = if fld b = fld d then n else getC c d := by
  have hb : ∀ x : UInt8, fld x = 0 ∧ x = 115 ∨ fld x = 1 ∧ x = 99 ∨ fld x = 2 ∧ x = 97 ∨ fld x = 3 ∧ x = 109 ∨ fld x = 4 ∧ x = 98 ∨ fld x = 5 ∧ x = 120 ∨ fld x = 6 ∧ x ≠ 115 ∧ x ≠ 99 ∧ x ≠ 97 ∧ x ≠ 109 ∧ x ≠ 98 ∧ x ≠ 120 := by
    intro x
    unfold fld
    by_cases h1 : x = 115
    · simp [h1]
    by_cases h2 : x = 99
    · simp [h2]
    by_cases h3 : x = 97
    · simp [h3]
    by_cases h4 : x = 109
    · simp [h4]
    by_cases h5 : x = 98
    · simp [h5]
    by_cases h6 : x = 120
    · simp [h6]
    simp [h1, h2, h3, h4, h5, h6]
  obtain ⟨c1, c2, c3, c4, c5, c6, c7, c8⟩ := c
  rcases hb b with ⟨f, rfl⟩ | ⟨f, rfl⟩ | ⟨f, rfl⟩ | ⟨f, rfl⟩ | ⟨f, rfl⟩ | ⟨f, rfl⟩ | ⟨f, b1, b2, b3, b4, b5, b6⟩ <;> rcases hb d with ⟨g, rfl⟩ | ⟨g, rfl⟩ | ⟨g, rfl⟩ | ⟨g, rfl⟩ | ⟨g, rfl⟩ | ⟨g, rfl⟩ | ⟨g, d1, d2, d3, d4, d5, d6⟩ <;> simp_all [getC, putC]
theorem put_op (c : Cm) (b : UInt8) (n : Int) : (putC c b n).1 = c.1 := by
  unfold putC
  repeat' split
  all_goals rfl
def putAll : List UInt8 → List Int → Cm → Cm
  | b :: to, n :: ns, c => putAll to ns (putC c b n)
  | _, _, c => c
theorem putAll_op : ∀ (to : List UInt8) (ns : List Int) (c : Cm), (putAll to ns c).1 = c.1
  | [], _, _ => rfl
  | _ :: _, [], _ => rfl
  | b :: to, n :: ns, c => by rw [putAll, putAll_op to ns, put_op]
theorem putAll_in : ∀ {to : List UInt8} {ns : List Int} {c : Cm}, inC c = true → (∀ n ∈ ns, inI n = true) → inC (putAll to ns c) = true
  | [], _, _, h, _ => h
  | _ :: _, [], _, h, _ => h
  | b :: to, n :: ns, c, h, hn => putAll_in (to := to) (ns := ns) (inC_put h b (hn n (by simp))) fun m hm => hn m (by simp [hm])
theorem putAll_out : ∀ (to : List UInt8) (ns : List Int) (c : Cm) (d : UInt8), fld d ∉ to.map fld → getC (putAll to ns c) d = getC c d
  | [], _, _, _, _ => rfl
  | _ :: _, [], _, _, _ => rfl
  | b :: to, n :: ns, c, d, h => by
    simp only [List.map_cons, List.mem_cons, not_or] at h
    rw [putAll, putAll_out to ns _ d h.2, get_put, if_neg (fun e => h.1 e.symm)]
theorem putAll_get : ∀ (to : List UInt8) (ns : List Int) (c : Cm), to.length = ns.length → (to.map fld).Nodup → to.map (getC (putAll to ns c)) = ns
  | [], [], _, _, _ => rfl
  | [], _ :: _, _, h, _ => by simp at h
  | _ :: _, [], _, h, _ => by simp at h
  | b :: to, n :: ns, c, h, hd => by
    simp only [List.map_cons, List.nodup_cons] at hd
    rw [putAll, List.map_cons, putAll_out to ns _ b hd.1, get_put, if_pos rfl, putAll_get to ns _ (by simpa using h) hd.2]
def small999 (n : Int) : Bool := decide (0 ≤ n ∧ n ≤ 999)
theorem numW_dig {n : Int} (h : inI n = true) : numW (dig n) = if small999 n = true then some n else none := by
  unfold numW
  rw [intV_dig h]
  by_cases hs : small999 n = true
  · have h1 : 0 ≤ n ∧ n ≤ 999 := by simpa [small999] using hs
    have h2 : small18 n = true := by simp only [small18, decide_eq_true_eq]; omega
    rw [if_pos h2, if_pos ⟨rfl, h1.1, h1.2⟩, if_pos hs]
  · rw [if_neg hs]
    have h1 : ¬ (0 ≤ n ∧ n ≤ 999) := by simpa [small999] using hs
    split
    · exact if_neg (by simp only; omega)
    · exact if_neg (by simp)
theorem fillC_dig : ∀ {to : List UInt8} {ns : List Int} (c : Cm), to.length = ns.length → (∀ n ∈ ns, inI n = true) → fillC to (ns.map dig) c = if ns.all small999 = true then some (putAll to ns c) else none
  | [], [], c, _, _ => rfl
  | [], _ :: _, _, h, _ => by simp at h
  | _ :: _, [], _, h, _ => by simp at h
  | b :: to, n :: ns, c, h, hi => by
    rw [List.map_cons, fillC, numW_dig (hi n (by simp)), List.all_cons]
    cases small999 n with
    | false => rw [if_neg (by simp), if_neg (by simp)]; rfl
    | true =>
      rw [if_pos rfl, Option.bind_some, fillC_dig _ (by simpa using h) fun m hm => hi m (by simp [hm]), Bool.true_and]
      rfl
theorem forms_facts : ∀ f ∈ formsL, (f.2.2.map fld).Nodup ∧ inI f.2.1 = true ∧ (f.2.1 = 8 ↔ f.2.2.head? = some 98) := by decide
theorem forms_keyB : ∀ f ∈ formsL, ∀ g ∈ formsL, f.2.1 = g.2.1 → (f.2.2.map fld).contains 3 = (g.2.2.map fld).contains 3 → (f.2.2.map fld).contains 6 = (g.2.2.map fld).contains 6 → f = g := by decide
theorem forms_key (f : Form) (hf : f ∈ formsL) (g : Form) (hg : g ∈ formsL) (h : f.2.1 = g.2.1) (h3 : 3 ∈ f.2.2.map fld ↔ 3 ∈ g.2.2.map fld) (h6 : 6 ∈ f.2.2.map fld ↔ 6 ∈ g.2.2.map fld) : f = g :=
  forms_keyB f hf g hg h (by rw [Bool.eq_iff_iff, List.contains_iff_mem, List.contains_iff_mem]; exact h3) (by rw [Bool.eq_iff_iff, List.contains_iff_mem, List.contains_iff_mem]; exact h6)
/-- A form's command: what it bears. -/
theorem readC_facts {f : Form} (hf : f ∈ formsL) {w : List UInt8} {ns : List Int} (hi : ∀ n ∈ ns, inI n = true) {c : Cm} (h : readC f (w :: ns.map dig) = some c) :
    w = f.1 ∧ f.2.2.length = ns.length ∧ ns.all small999 = true ∧ c = putAll f.2.2 ns (newC f.2.1) ∧ c.1 = f.2.1 ∧ (0 ≤ getC c 109 ↔ 3 ∈ f.2.2.map fld) ∧ (0 ≤ getC c 111 ↔ 6 ∈ f.2.2.map fld) := by
  obtain ⟨g1, g2, g3⟩ := forms_facts f hf
  unfold readC at h
  split at h
  case isFalse => cases h
  rename_i hh
  have hw : w = f.1 := by simpa using hh.1
  have hl : f.2.2.length = ns.length := by have := hh.2; simp at this; omega
  rw [List.tail_cons, fillC_dig _ hl hi] at h
  split at h
  case isFalse => cases h
  rename_i hs
  rw [Option.bind_some] at h
  split at h
  case isTrue => cases h
  cases h
  have key : ∀ d : UInt8, fld d ∈ f.2.2.map fld → getC (putAll f.2.2 ns (newC f.2.1)) d ∈ ns := by
    intro d hd
    obtain ⟨b, hb, e⟩ := List.mem_map.1 hd
    have e2 : getC (putAll f.2.2 ns (newC f.2.1)) d = getC (putAll f.2.2 ns (newC f.2.1)) b := by
      have : ∀ (c : Cm), getC c d = getC c b := by
        intro c
        have h1 := get_put c b d (getC c b)
        have h2 := get_put c b b (getC c b)
        rw [if_pos e] at h1
        have h3 := get_put c d d (getC c d)
        have h4 := get_put c d b (getC c d)
        have h5 : ∀ x : UInt8, getC c x = match fld x with | 0 => c.2.1 | 1 => c.2.2.1 | 2 => c.2.2.2.1 | 3 => c.2.2.2.2.1 | 4 => c.2.2.2.2.2.1 | 5 => c.2.2.2.2.2.2.1 | _ => c.2.2.2.2.2.2.2 := by
          intro x
          unfold getC fld
          repeat' split
          all_goals simp_all
        rw [h5 d, h5 b, e]
      exact this _
    rw [e2]
    have hm : getC (putAll f.2.2 ns (newC f.2.1)) b ∈ f.2.2.map (getC (putAll f.2.2 ns (newC f.2.1))) := List.mem_map.2 ⟨b, hb, rfl⟩
    rwa [putAll_get f.2.2 ns (newC f.2.1) hl g1] at hm
  have sm : ∀ n ∈ ns, 0 ≤ n := fun n hn => by
    have := List.all_eq_true.1 hs n hn
    simp only [small999, decide_eq_true_eq] at this
    exact this.1
  refine ⟨hw, hl, hs, rfl, putAll_op _ _ _, ⟨fun h0 => ?_, fun h0 => sm _ (key 109 h0)⟩, ⟨fun h0 => ?_, fun h0 => sm _ (key 111 h0)⟩⟩
  · refine Classical.byContradiction fun hno => ?_
    rw [putAll_out f.2.2 ns _ 109 hno, show getC (newC f.2.1) 109 = -1 from rfl] at h0
    omega
  · refine Classical.byContradiction fun hno => ?_
    rw [putAll_out f.2.2 ns _ 111 hno, show getC (newC f.2.1) 111 = -1 from rfl] at h0
    omega
theorem parseW_form {W : List (List UInt8)} {c : Cm} (h : parseW W = some c) : ∃ f ∈ formsL, readC f W = some c := List.exists_of_findSome?_eq_some h
/-- A line that is a command prints as it is. -/
theorem print_line {w : List UInt8} {ns : List Int} (h0 : w ≠ []) (h1 : ∀ b ∈ w, b ≠ 32) (hi : ∀ n ∈ ns, inI n = true) {c : Cm} (h : parseC (w ++ tailW ns) = some c) : inC c = true ∧ printC c = some (w ++ tailW ns) := by
  have hp := h
  unfold parseC at hp
  rw [words_line h0 h1 hi] at hp
  obtain ⟨F, hF, hr⟩ := parseW_form hp
  obtain ⟨e1, e2, e3, e4, e5, e6, e7⟩ := readC_facts hF hi hr
  have hc : inC c = true := by
    rw [e4]
    refine putAll_in ?_ hi
    have := (forms_facts F hF).2.1
    simp [newC, inC, this]
    decide
  have hline : lineC F c = w ++ tailW ns := by rw [lineC_tail, e4, putAll_get F.2.2 ns _ e2 (forms_facts F hF).1, e1]
  refine ⟨hc, ?_⟩
  have hb : backC F c = true := by
    unfold backC
    rw [hline, h]
    exact (eqC_iff c c).2 rfl
  cases hpr : printC c with
  | none =>
    have := List.findSome?_eq_none_iff.1 hpr F hF
    rw [if_pos hb] at this
    cases this
  | some l =>
    obtain ⟨g, hg, rfl, hgp⟩ := printC_form hpr
    congr 1
    rw [← hline]
    unfold parseC at hgp
    rw [words_lineC hg hc] at hgp
    obtain ⟨g', hg', hr'⟩ := parseW_form hgp
    obtain ⟨a1, a2, a3, a4, a5, a6, a7⟩ := readC_facts hg' (fun n hn => by
      obtain ⟨b, _, rfl⟩ := List.mem_map.1 hn
      exact inC_get hc b) hr'
    have : g = g' := formsL_one g hg g' hg' a1 (by rw [a2, List.length_map])
    subst this
    rw [forms_key g hg F hF (by rw [← a5, ← e5]) (a6.symm.trans e6) (a7.symm.trans e7)]
/-- The words of commands; how many numbers they have. -/
def opWords : List (List UInt8) := [fAdd, [100, 101, 108], fMov, [108, 111, 99, 107], [102, 114, 101, 101], [105, 99, 101], [116, 104, 97, 119], fOpt, [117, 110, 100, 111], [114, 101, 100, 111], [115, 104, 111, 119], [112, 111, 111, 108], [99, 111, 115, 116]]
def opLeast : List Int := [3, 1, 3, 1, 1, 1, 1, 3, 0, 0, 1, 0, 0]
def opMost : List Int := [4, 1, 4, 1, 1, 1, 1, 4, 0, 0, 1, 0, 0]
def okN (op : Nat) (j : Nat) (v : Int) : Bool := small999 v && (!(op == 7 && j == 0) || decide (1 ≤ v ∧ v ≤ 20))
def okFrom (op : Nat) : Nat → List Int → Bool
  | _, [] => true
  | j, v :: vs => okN op j v && okFrom op (j + 1) vs
theorem op_form : ∀ op : Fin 13, ∀ m : Fin 7, (opLeast.getD op.val 0 ≤ m.val ∧ m.val ≤ opMost.getD op.val 0) → ∃ f ∈ formsL, f.1 = opWords.getD op.val [] ∧ f.2.2.length = m.val := by decide
theorem op_none : ∀ op : Fin 13, ∀ f ∈ formsL, f.1 = opWords.getD op.val [] → f.2.1 = op.val + 1 ∧ opLeast.getD op.val 0 ≤ f.2.2.length ∧ f.2.2.length ≤ opMost.getD op.val 0 := by decide
theorem op_word : ∀ op : Fin 13, opWords.getD op.val [] ≠ [] ∧ (∀ b ∈ opWords.getD op.val [], b ≠ 32) ∧ (opWords.getD op.val []).length ≤ 5 := by decide
theorem okFrom_small (op : Nat) : ∀ (ns : List Int) (j : Nat), okFrom op j ns = true → ns.all small999 = true
  | [], _, _ => rfl
  | v :: vs, j, h => by
    simp only [okFrom, okN, Bool.and_eq_true] at h
    rw [List.all_cons, h.1.1, okFrom_small op vs _ h.2]
    rfl
theorem okFrom_rest (op : Nat) : ∀ (ns : List Int) (j : Nat), 0 < j → ns.all small999 = true → okFrom op j ns = true
  | [], _, _, _ => rfl
  | v :: vs, j, hj, h => by
    simp only [List.all_cons, Bool.and_eq_true] at h
    have : (j == 0) = false := by simp; omega
    simp only [okFrom, okN, h.1, this, Bool.and_false, Bool.not_false, Bool.true_or, Bool.and_self, Bool.true_and]
    exact okFrom_rest op vs (j + 1) (by omega) h.2
/-- What a word and numbers are as a line. -/
theorem line_ok {op : Nat} (ho : op < 13) {ns : List Int} (hi : ∀ n ∈ ns, inI n = true) (hl : ns.length ≤ 6) :
    if okFrom op 0 ns = true ∧ opLeast.getD op 0 ≤ ns.length ∧ (ns.length : Int) ≤ opMost.getD op 0 then ∃ c : Cm, parseC (opWords.getD op [] ++ tailW ns) = some c ∧ c.1 = op + 1 ∧ inC c = true ∧ printC c = some (opWords.getD op [] ++ tailW ns)
    else parseC (opWords.getD op [] ++ tailW ns) = none := by
  obtain ⟨w0, w1, w2⟩ := op_word ⟨op, ho⟩
  simp only at w0 w1 w2
  have hw := words_line w0 w1 hi
  -- what the form of just so many numbers reads
  have key : ∀ f ∈ formsL, f.1 = opWords.getD op [] → f.2.2.length = ns.length → (okFrom op 0 ns = true → ∃ c, readC f (opWords.getD op [] :: ns.map dig) = some c) ∧ ((∃ c, readC f (opWords.getD op [] :: ns.map dig) = some c) → okFrom op 0 ns = true) := by
    intro f hf hfw hfl
    obtain ⟨g1, g2, g3⟩ := forms_facts f hf
    obtain ⟨n1, n2, n3⟩ := op_none ⟨op, ho⟩ f hf hfw
    simp only at n1 n2 n3
    unfold readC
    rw [List.head?_cons, if_pos ⟨by rw [hfw], by simp; omega⟩, List.tail_cons, fillC_dig _ hfl hi]
    cases hall : ns.all small999 with
    | false =>
      rw [if_neg (by simp)]
      refine ⟨fun h => ?_, fun h => ?_⟩
      · rw [okFrom_small op ns 0 h] at hall; cases hall
      · obtain ⟨c, hc⟩ := h; cases hc
    | true =>
      rw [if_pos rfl, Option.bind_some]
      rw [putAll_op]
      cases ns with
      | nil =>
        have h8 : ¬ f.2.1 = 8 := fun e => by
          have h1 := g3.1 e
          have h2 : f.2.2 = [] := List.eq_nil_of_length_eq_zero hfl
          rw [h2] at h1
          cases h1
        rw [if_neg (by simp only [newC]; exact fun e => h8 e.1)]
        exact ⟨fun _ => ⟨_, rfl⟩, fun _ => rfl⟩
      | cons v vs =>
        simp only [List.all_cons, Bool.and_eq_true] at hall
        have hr := okFrom_rest op vs 1 (by omega) hall.2
        have hok : okFrom op 0 (v :: vs) = (!(op == 7) || decide (1 ≤ v ∧ v ≤ 20)) := by
          simp [okFrom, okN, hall.1, hr]
        rw [hok]
        by_cases h7 : op = 7
        · have h8 : f.2.1 = 8 := by rw [n1]; omega
          have h98 := g3.1 h8
          cases hto : f.2.2 with
          | nil => rw [hto] at h98; cases h98
          | cons b to =>
            rw [hto] at h98 g1
            simp only [List.head?_cons, Option.some.injEq] at h98
            subst h98
            have hbud : (putAll (98 :: to) (v :: vs) (newC f.2.1)).2.2.2.2.2.1 = v := by
              have : getC (putAll (98 :: to) (v :: vs) (newC f.2.1)) 98 = v := by
                simp only [List.map_cons, List.nodup_cons] at g1
                rw [putAll, putAll_out to vs _ 98 g1.1, get_put, if_pos rfl]
              exact this
            rw [hbud]
            have e8 : (newC f.2.1).1 = 8 := h8
            by_cases hv : v < 1 ∨ 20 < v
            · rw [if_pos ⟨e8, hv⟩]
              refine ⟨fun h => ?_, fun h => ?_⟩
              · simp [h7] at h; omega
              · obtain ⟨c, hc⟩ := h; cases hc
            · rw [if_neg (fun e => hv e.2)]
              exact ⟨fun _ => ⟨_, rfl⟩, fun _ => by simp [h7]; omega⟩
        · have h8 : ¬ f.2.1 = 8 := by rw [n1]; omega
          rw [if_neg (by simp only [newC]; exact fun e => h8 e.1)]
          exact ⟨fun _ => ⟨_, rfl⟩, fun _ => by simp [h7]⟩
  split
  · rename_i hh
    obtain ⟨f, hf, f1, f2⟩ := op_form ⟨op, ho⟩ ⟨ns.length, by omega⟩ ⟨hh.2.1, hh.2.2⟩
    simp only at f1 f2
    obtain ⟨c, hc⟩ := (key f hf f1 f2).1 hh.1
    have hp : ∃ c, parseC (opWords.getD op [] ++ tailW ns) = some c := by
      unfold parseC
      rw [hw]
      cases hn : parseW (opWords.getD op [] :: ns.map dig) with
      | none =>
        have := List.findSome?_eq_none_iff.1 hn f hf
        rw [hc] at this
        cases this
      | some d => exact ⟨d, rfl⟩
    obtain ⟨d, hd⟩ := hp
    obtain ⟨p1, p2⟩ := print_line w0 w1 hi hd
    refine ⟨d, hd, ?_, p1, p2⟩
    unfold parseC at hd
    rw [hw] at hd
    obtain ⟨g, hg, hr⟩ := parseW_form hd
    obtain ⟨a1, a2, a3, a4, a5, a6, a7⟩ := readC_facts hg hi hr
    have := (op_none ⟨op, ho⟩ g hg a1.symm).1
    rw [a5, this]
  · rename_i hh
    unfold parseC
    rw [hw]
    cases hn : parseW (opWords.getD op [] :: ns.map dig) with
    | none => rfl
    | some d =>
      exfalso
      apply hh
      obtain ⟨g, hg, hr⟩ := parseW_form hn
      obtain ⟨a1, a2, a3, a4, a5, a6, a7⟩ := readC_facts hg hi hr
      have := (op_none ⟨op, ho⟩ g hg a1.symm).2
      rw [a2] at this
      exact ⟨(key g hg a1.symm a2).2 ⟨d, hr⟩, this⟩
end Go.Proofs.YtkeklbicmfhemaaDoorV
