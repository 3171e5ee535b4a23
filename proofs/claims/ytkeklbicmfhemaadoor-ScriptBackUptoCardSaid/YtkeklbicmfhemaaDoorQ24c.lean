/- Chapter 24: acts that have a text are parsed of it as they were. -/
import Derived.Test.YtkeklbicmfhemaaDoorQI4
import Derived.Test.YtkeklbicmfhemaaDoorD24c
namespace Go.Proofs.YtkeklbicmfhemaaDoorV
open Go
set_option maxRecDepth 20000
set_option linter.unusedSimpArgs false

/-! Lines parsed back. -/
theorem cutAt_hit {c : UInt8} : ∀ {w : List UInt8} (r : List UInt8), c ∉ w → cutAt c (w ++ c :: r) = (w, r, true)
  | [], r, _ => by simp [cutAt]
  | x :: w, r, h => by
    have hx : ¬ x = c := fun e => h (by simp [e])
    have ih := cutAt_hit (w := w) r (fun e => h (List.mem_cons_of_mem _ e))
    rw [List.cons_append, cutAt, if_neg hx, ih]
theorem cutAt_miss {c : UInt8} : ∀ {w : List UInt8}, c ∉ w → cutAt c w = (w, [], false)
  | [], _ => rfl
  | x :: w, h => by
    have hx : ¬ x = c := fun e => h (by simp [e])
    have ih := cutAt_miss (w := w) (fun e => h (List.mem_cons_of_mem _ e))
    rw [cutAt, if_neg hx, ih]
theorem kind_facts : ∀ k : Fin 6, (kindWords.getD k.val []).contains 32 = false ∧ (kindWords.getD k.val []).contains 10 = false ∧ kindFrom 0 kindWords (kindWords.getD k.val []) = some k.val := by decide
theorem dig_no {n : Int} (h : inI n = true) {c : UInt8} (hc : isDig c = false) (hc' : c ≠ 45) : c ∉ dig n := fun e => by
  rcases dig_chars h c e with h' | h'
  · rw [hc] at h'; cases h'
  · exact hc' h'
theorem line_back {s : ByteArray} {a : Act} (h : actP s a) : actV (lineV a) = (a, true) ∧ ((lineV a).contains 10 = true → 10 ∈ a.2.2.data.toList) := by
  obtain ⟨a1, a2, a3⟩ := a
  obtain ⟨h1, h2, h3, h4, h5, h6⟩ := h
  simp only at h1 h2 h3 h4 h5 h6
  have hi : inI a2 = true := inI_of (by omega) (by omega)
  have hs : small18 a2 = true := by simp only [small18, decide_eq_true_eq]; omega
  obtain ⟨f1, f2, f3⟩ := kind_facts ⟨(a1 - 1).toNat, by omega⟩
  simp only at f1 f2 f3
  rw [lineV_in ⟨h1, h2⟩]
  generalize kindWords.getD (a1 - 1).toNat [] = w at f1 f2 f3
  have g32 : (32 : UInt8) ∉ w := fun e => by rw [List.contains_iff_mem.2 e] at f1; cases f1
  have g10 : (10 : UInt8) ∉ w := fun e => by rw [List.contains_iff_mem.2 e] at f2; cases f2
  have d32 : (32 : UInt8) ∉ dig a2 := dig_no hi (by decide) (by decide)
  have d10 : (10 : UInt8) ∉ dig a2 := dig_no hi (by decide) (by decide)
  have hk : ((a1 - 1).toNat : Int) + 1 = a1 := by omega
  have hv : intV (dig a2) = (a2, true) := by rw [intV_dig hi, if_pos hs]
  constructor
  · unfold actV
    rw [List.append_assoc, List.cons_append, cutAt_hit _ g32]
    simp only [if_true, f3]
    unfold actOf
    rw [hk]
    cases ht : textK a1 with
    | true =>
      rw [if_pos rfl, cutAt_hit _ d32]
      simp only [hv, text_of, ht]
      simp [h3, h4]
    | false =>
      rw [if_neg (by simp), List.append_nil, cutAt_miss d32]
      simp only [hv, ht, h5 ht]
      simp [h3, h4]
  · intro hc
    have hm := List.contains_iff_mem.1 hc
    rw [List.append_assoc, List.cons_append, List.mem_append, List.mem_cons, List.mem_append] at hm
    rcases hm with hm | hm | hm | hm
    · exact absurd hm g10
    · exact absurd hm (by decide)
    · exact absurd hm d10
    · split at hm
      · rcases List.mem_cons.1 hm with hm | hm
        · exact absurd hm (by decide)
        · exact hm
      · cases hm
/-- The lines of acts, each with its end. -/
def lines (l : List Act) : List UInt8 := (l.map fun a => lineV a ++ [10]).flatten
theorem lines_cons (a : Act) (l : List Act) : lines (a :: l) = lineV a ++ 10 :: lines l := by simp [lines]
theorem lines_append (a b : List Act) : lines (a ++ b) = lines a ++ lines b := by simp [lines]
theorem printF_lines : ∀ (l : List Act) (out : List UInt8), printF l out = if l.all goodA = true then some (out ++ lines l) else none
  | [], out => by simp [printF, lines]
  | a :: l, out => by
    rw [printF]
    cases hg : goodA a with
    | false => rw [if_neg (by simp), if_neg (by simp [hg])]
    | true =>
      rw [if_pos rfl, printF_lines l]
      simp only [List.all_cons, hg, Bool.true_and, lines_cons, List.append_assoc, List.singleton_append]
theorem goodA_inv {a : Act} (h : goodA a = true) : actV (lineV a) = (a, true) ∧ (10 : UInt8) ∉ lineV a := by
  simp only [goodA, Bool.and_eq_true, decide_eq_true_eq, Bool.not_eq_true'] at h
  refine ⟨Prod.ext h.2.1 h.1, fun e => ?_⟩
  rw [List.contains_iff_mem.2 e] at h
  cases h.2.2
theorem parse_lines : ∀ (l : List Act) (rest : List UInt8) (acc : List Act) (n : Nat), l.all goodA = true → parseF (n + l.length) (lines l ++ rest) acc = parseF n rest (acc ++ l)
  | [], rest, acc, n, _ => by simp [lines]
  | a :: l, rest, acc, n, h => by
    simp only [List.all_cons, Bool.and_eq_true] at h
    obtain ⟨g1, g2⟩ := goodA_inv h.1
    rw [lines_cons, List.append_assoc, List.cons_append, List.length_cons, ← Nat.add_assoc, parseF, if_neg (by simp), cutAt_hit _ g2]
    simp only [g1, and_self, if_true]
    rw [parse_lines l rest (acc ++ [a]) n h.2, List.append_assoc]
    rfl
theorem lines_length : ∀ l : List Act, l.length ≤ (lines l).length
  | [] => by simp [lines]
  | a :: l => by
    have := lines_length l
    rw [lines_cons, List.length_append, List.length_cons, List.length_cons]
    omega
theorem parseR_lines {l : List Act} (h : l.all goodA = true) : parseR (lines l) = (aRow l, 0) := by
  have hl := lines_length l
  have := parse_lines l [] [] ((lines l).length + 1 - l.length) h
  rw [List.append_nil, List.nil_append, show (lines l).length + 1 - l.length + l.length = (lines l).length + 1 by omega] at this
  unfold parseR parseV
  rw [this, show (lines l).length + 1 - l.length = ((lines l).length - l.length) + 1 by omega, parseF, if_pos rfl]
theorem lines_small : ∀ {l : List Act}, l.all okA = true → (lines l).length ≤ l.length * (2 * mega + 41)
  | [], _ => by simp [lines]
  | a :: l, h => by
    simp only [List.all_cons, Bool.and_eq_true] at h
    have h1 := lineV_length h.1
    have h2 := lines_small h.2
    rw [lines_cons, List.length_append, List.length_cons, List.length_cons, Nat.add_mul]
    omega
theorem actP_ok {s : ByteArray} (hs : s.size ≤ mega) {a : Act} (h : actP s a) : okA a = true := by
  obtain ⟨h1, h2, h3, h4, h5, h6⟩ := h
  have hm := h6.1
  unfold mega at hs
  simp only [okA, Bool.and_eq_true, decide_eq_true_eq]
  unfold mega
  exact ⟨inI_of (by omega) (by omega), inI_of (by omega) (by omega), by omega⟩
theorem actP_good {s : ByteArray} {a : Act} (h : actP s a) (hn : 10 ∉ s.data.toList) : goodA a = true := by
  obtain ⟨h1, h2⟩ := line_back h
  unfold goodA
  rw [h1, decide_eq_true rfl]
  cases hc : (lineV a).contains 10 with
  | false => rfl
  | true => exact absurd (h.2.2.2.2.2.2 (h2 hc)) hn
theorem printR_all {l : List Act} (h : l.all goodA = true) : printR l = (text (lines l), 0) := by
  unfold printR
  rw [printF_lines, if_pos h]
  rfl
theorem printR_none {l : List Act} (h : l.all goodA = false) : printR l = (text [], 1) := by
  unfold printR
  rw [printF_lines, if_neg (by simp [h])]

theorem acts24_no : ∀ (i1 i2 i3 i4 l5 : List (List PV)) (s6 : ByteArray) (y : List (List PV)), sActs24 i1 i2 i3 i4 l5 s6 = some y → (noMem (acts24_E y).1 && noMemL (acts24_E y).2) = true := by
  intro i1 i2 i3 i4 l5 s6 y h
  obtain ⟨⟨l, rfl, _, _⟩, _⟩ := acts24_pick i1 i2 i3 i4 l5 s6 y h
  simp [acts24_E, noMem, noMemL, noMem_aRow]

/-! The law. -/
theorem scriptBack_ok : ∀ (l1 : List (List PV)) (a2 : List (List PV)) (b3 : List (List PV)) (s4 : ByteArray) (y : Bool), sScriptBack l1 a2 b3 s4 = some y → ∀ (R : Type) (k : Bool → Option R), scriptBack_b l1 a2 b3 s4 k = k y := by
  intro e1 e2 e3 s y h R k
  simp only [sScriptBack, Option.bind_eq_some_iff] at h
  obtain ⟨l, h1, a, h2, b, h3, h4⟩ := h
  split at h4
  case isFalse => cases h4
  rename_i hh
  cases h4
  obtain ⟨m1, m2, m3, m4⟩ := hh
  have m1' : l.length ≤ 1048576 := m1
  have m2' : a.length ≤ 1048576 := m2
  have m3' : b.length ≤ 1048576 := m3
  rw [(unI_inv h1).1, (unI_inv h2).1, (unI_inv h3).1]
  obtain ⟨g, hc⟩ := instOf_given l
  obtain ⟨x, x1, x2, x3⟩ := acts_some (L := a) (by unfold big; omega) s g hc
  obtain ⟨z, z1, z2, z3⟩ := acts_some (L := b) (by unfold big; omega) (text [116]) g hc
  have z1' : sActs24 (carRow (instOf l).cars) (stpRow (instOf l).stops) (prRow (instOf l).pairs) (trRow (instOf l).travel) (iRow b) (ByteArray.mk #[116]) = some (aRow z) := z1
  have hzg : z.all goodA = true := List.all_eq_true.2 fun q hq => actP_good (z3 q hq) (by rw [text_data]; decide)
  have hzo : z.all okA = true := List.all_eq_true.2 fun q hq => actP_ok (by rw [text_size]; decide) (z3 q hq)
  have hxo : x.all okA = true := List.all_eq_true.2 fun q hq => actP_ok m4 (x3 q hq)
  have px : sScPrint (aRow x) = some (printR x) := sScPrint_of (by omega) hxo
  have pz : sScPrint (aRow z) = some (printR z) := sScPrint_of (by omega) hzo
  have q4 : scriptBack_q4 (aRow x) (aRow z) k = k true := by
    unfold scriptBack_q4
    rw [px, pz, Option.bind_some, Option.bind_some, printR_all hzg]
    unfold scriptBack_q7
    cases hxg : x.all goodA with
    | false =>
      rw [printR_none hxg, wakes24_ok]
      simp only [mk_nil, beq_self_eq_true, cond_true, bne_iff_ne, ne_eq, Option.bind_some, show ((1 : Int) != 0) = true from rfl]
    | true =>
      rw [printR_all hxg]
      rw [show (((text (lines x), (0 : Int)).2 != 0) : Bool) = false from rfl, cond_false]
      show scriptBack_q8 (text (lines x)) (text (lines z)) (aRow x) (aRow z) k = k true
      unfold scriptBack_q8
      have lx := lines_small hxo
      have lz := lines_small hzo
      have hm : mega = 1048576 := rfl
      have lx' : (lines x).length ≤ 20 * (2 * mega + 41) := Nat.le_trans lx (Nat.mul_le_mul_right _ x2)
      have lz' : (lines z).length ≤ 20 * (2 * mega + 41) := Nat.le_trans lz (Nat.mul_le_mul_right _ z2)
      have b1 : (lines x).length ≤ lim := by unfold lim; omega
      have b2 : (lines x ++ lines z).length ≤ lim := by rw [List.length_append]; unfold lim; omega
      have hall : (x ++ z).all goodA = true := by rw [List.all_append, hxg, hzg]; rfl
      have r1 : sScParse (text (lines x)) = some (aRow x, 0) := (sScParse_text b1).trans (congrArg some (parseR_lines hxg))
      have r2 : sScParse (text (lines x) ++ text (lines z)) = some (aRow (x ++ z), 0) := by
        rw [text_append, sScParse_text b2, ← lines_append, parseR_lines hall]
      have s1 : sSameA (aRow x) (aRow x) = some true := (sSameA_of (by unfold big; omega)).trans (congrArg some (decide_eq_true rfl))
      have s2 : sSameA (aRow (x ++ z)) (aRow (x ++ z)) = some true := (sSameA_of (by rw [List.length_append]; unfold big; omega)).trans (congrArg some (decide_eq_true rfl))
      rw [r1, Option.bind_some, text_size, text_size, if_pos (by omega), r2, Option.bind_some, beq_self_eq_true, cond_true, s1, Option.bind_some, cond_true, cond_true, aRow_length, aRow_length, if_pos (by unfold maxBytes; omega), if_pos (by unfold maxBytes; omega), ← aRow_append, s2, Option.bind_some, cond_true, wakes24_ok]
      rfl
  unfold scriptBack_b
  rw [sPInst_of (unI_inv h1).2 (by unfold big; omega), Option.bind_some]
  simp only [x1, z1', Option.bind_some, q4, meet_self]
end Go.Proofs.YtkeklbicmfhemaaDoorV
