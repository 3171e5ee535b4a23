/- Chapter 24: the acts of texts and the texts of acts, as the program has them. -/
import Derived.Test.YtkeklbicmfhemaaDoorQ02c
import Derived.Test.YtkeklbicmfhemaaDoorD24
namespace Go.Proofs.YtkeklbicmfhemaaDoorV
open Go
set_option maxRecDepth 20000
set_option linter.unusedSimpArgs false

/-! Rows of acts. -/
theorem unA1_inv {e : List PV} {a : Act} (h : unA1 e = some a) : e = [.int .i64 a.1, .int .i64 a.2.1, .str a.2.2] := by
  unfold unA1 at h
  split at h
  · cases h; rfl
  · cases h
theorem unA_inv : ∀ {es : List (List PV)} {l : List Act}, unA es = some l → es = aRow l
  | [], l, h => by cases h; rfl
  | e :: es, l, h => by
    simp only [unA, Option.bind_eq_some_iff] at h
    obtain ⟨a, h1, l', h2, h3⟩ := h
    cases h3
    rw [unA1_inv h1, unA_inv h2]
    rfl
theorem unA_row : ∀ l : List Act, unA (aRow l) = some l
  | [] => rfl
  | a :: l => by
    have := unA_row l
    simp only [aRow, List.map_cons, unA, unA1] at this ⊢
    rw [this]
    rfl
theorem aRow_length (l : List Act) : (aRow l).length = l.length := by simp [aRow]
theorem aRow_append (a b : List Act) : aRow (a ++ b) = aRow a ++ aRow b := by simp [aRow]
theorem idx_aRow (pre : List Act) (a : Act) (rest : List Act) : idx (aRow (pre ++ a :: rest)) (pre.length : Int) = some [.int .i64 a.1, .int .i64 a.2.1, .str a.2.2] := by
  rw [idx_nat, aRow, List.map_append, List.map_cons, List.getElem?_append_right (by simp)]
  simp
theorem eqA (a b : Act) : eqvs T [(3, 0), (3, 1), (9, 2)] [.int .i64 a.1, .int .i64 a.2.1, .str a.2.2] [.int .i64 b.1, .int .i64 b.2.1, .str b.2.2] = some (decide (a = b)) := by
  have h3 : ∀ x y : Int, eqvT T 3 (.int .i64 x) (.int .i64 y) = some (x == y) := fun x y => rfl
  have h9 : ∀ x y : ByteArray, eqvT T 9 (.str x) (.str y) = some (x.toList == y.toList) := fun x y => rfl
  simp only [eqvs, h3, h9, Option.bind_some]
  congr 1
  obtain ⟨a1, a2, a3⟩ := a
  obtain ⟨b1, b2, b3⟩ := b
  rw [Bool.eq_iff_iff]
  simp only [Bool.and_eq_true, beq_iff_eq, decide_eq_true_eq, Prod.mk.injEq, and_true, bytes_toList]
  constructor
  · rintro ⟨rfl, rfl, h⟩; exact ⟨rfl, rfl, bytes_ext h⟩
  · rintro ⟨rfl, rfl, rfl⟩; exact ⟨rfl, rfl, rfl⟩
theorem sameA_rounds {R : Type} {a b : List Act} (ha : a.length ≤ big) (k0 : Bool → Option R) (k1 : Unit → Option R) : ∀ (ra rb pa pb : List Act) (n : Nat), a = pa ++ ra → b = pb ++ rb → pa.length = pb.length → ra.length = rb.length → ra.length < n →
    sameA_l4 n (aRow a) (aRow b) (pa.length : Int) k0 k1 = if ra = rb then k1 () else k0 false
  | [], rb, pa, pb, n, h1, h2, h3, h4, hn => by
    obtain ⟨m, rfl⟩ : ∃ m, n = m + 1 := ⟨n - 1, by omega⟩
    cases rb with
    | cons => simp at h4
    | nil =>
      simp only [List.append_nil] at h1
      subst h1
      unfold sameA_l4
      rw [aRow_length, decide_eq_false (by omega), cond_false, if_pos rfl]
  | x :: ra, rb, pa, pb, n, h1, h2, h3, h4, hn => by
    obtain ⟨m, rfl⟩ : ∃ m, n = m + 1 := ⟨n - 1, by omega⟩
    cases rb with
    | nil => simp at h4
    | cons y rb =>
      have hlen : a.length = pa.length + (ra.length + 1) := by rw [h1]; simp
      unfold big at ha
      unfold sameA_l4
      have i1 : idx (aRow a) (pa.length : Int) = some [.int .i64 x.1, .int .i64 x.2.1, .str x.2.2] := by rw [h1]; exact idx_aRow pa x ra
      have i2 : idx (aRow b) (pa.length : Int) = some [.int .i64 y.1, .int .i64 y.2.1, .str y.2.2] := by rw [h2, h3]; exact idx_aRow pb y rb
      have hs : ∀ z : Act, subAgg [.int .i64 z.1, .int .i64 z.2.1, .str z.2.2] 0 3 = some (.agg [.int .i64 z.1, .int .i64 z.2.1, .str z.2.2]) := fun _ => rfl
      have hg : ∀ z : Act, PV.asAgg (.agg [.int .i64 z.1, .int .i64 z.2.1, .str z.2.2]) = some [.int .i64 z.1, .int .i64 z.2.1, .str z.2.2] := fun _ => rfl
      have hl3 : ∀ z : Act, ([.int .i64 z.1, .int .i64 z.2.1, .str z.2.2] : List PV).length = 3 := fun _ => rfl
      rw [aRow_length, decide_eq_true (by omega), cond_true, i1, i2]
      simp only [Option.bind_some, hl3, if_true, hs, hg, eqA]
      by_cases hxy : x = y
      · subst hxy
        rw [decide_eq_true rfl, Bool.not_true, cond_false, wrapN (by omega) (by omega), show ((pa.length : Int) + 1) = ((pa ++ [x]).length : Int) by simp, sameA_rounds (by unfold big; omega) k0 k1 ra rb (pa ++ [x]) (pb ++ [x]) m (by rw [h1]; simp) (by rw [h2]; simp) (by simp [h3]) (by simpa using h4) (by simp at hn; omega)]
        simp
      · rw [decide_eq_false hxy, Bool.not_false, cond_true, if_neg (by simp [hxy])]
theorem sameA_ok : ∀ (a1 b2 : List (List PV)) (y : Bool), sSameA a1 b2 = some y → ∃ n, ∀ (R : Type) (k : Bool → Option R), sameA_b n a1 b2 k = k y := by
  intro a b y h
  simp only [sSameA, Option.bind_eq_some_iff] at h
  obtain ⟨l, h1, m, h2, h3⟩ := h
  split at h3
  case isFalse => cases h3
  rename_i hl
  cases h3
  rw [unA_inv h1, unA_inv h2]
  refine ⟨l.length + 1, fun R k => ?_⟩
  unfold sameA_b
  rw [aRow_length, aRow_length]
  by_cases hlen : l.length = m.length
  · rw [show (((l.length : Int) != (m.length : Int)) : Bool) = false by simp [hlen], cond_false]
    have := sameA_rounds hl k (fun _ => k true) l m [] [] (l.length + 1) rfl rfl rfl hlen (by omega)
    rw [show ((([] : List Act).length : Nat) : Int) = 0 from rfl] at this
    refine this.trans ?_
    by_cases e : l = m
    · rw [if_pos e, decide_eq_true e]
    · rw [if_neg e, decide_eq_false e]
  · rw [show (((l.length : Int) != (m.length : Int)) : Bool) = true by rw [bne_iff_ne]; omega, cond_true, decide_eq_false (fun e => hlen (by rw [e]))]
theorem sSameA_of {a b : List Act} (ha : a.length ≤ big) : sSameA (aRow a) (aRow b) = some (decide (a = b)) := by
  unfold sSameA
  rw [unA_row, unA_row, Option.bind_some, Option.bind_some, if_pos ha]

/-! A line's act. -/
theorem scText_ok (k : Int) : scText_d k = some (textK k) := by
  unfold scText_d scText_b textK
  cases h : (k == 3) <;> rfl
theorem cutAt_length (c : UInt8) : ∀ l : List UInt8, (cutAt c l).1.length ≤ l.length ∧ (cutAt c l).2.1.length ≤ l.length
  | [] => by simp [cutAt]
  | b :: l => by
    have := cutAt_length c l
    unfold cutAt
    split
    · simp
    · simp; omega
theorem cutAt_short {c : UInt8} : ∀ {l : List UInt8}, (cutAt c l).2.2 = true → (cutAt c l).2.1.length < l.length
  | [], h => by simp [cutAt] at h
  | b :: l, h => by
    unfold cutAt at h ⊢
    split at h
    · rename_i hb; rw [if_pos hb]; simp
    · rename_i hb
      rw [if_neg hb]
      have := cutAt_short h
      simp
      omega
theorem sCut_one {l : List UInt8} (c : UInt8) (h : l.length ≤ lim) : sCut (text l) (ByteArray.mk #[c]) = some (text (cutAt c l).1, text (cutAt c l).2.1, (cutAt c l).2.2) := by
  unfold sCut
  rw [text_size, if_pos h, text_data, ← cut_one]
theorem scWords_ok : scWords_d = some (sRow (kindWords.map text)) := rfl
theorem scAct_rounds {R : Type} {w r : List UInt8} (is : Bool) (hr : r.length ≤ lim) (k0 : Bool → Int → Int → ByteArray → Option R) (k1 : Int → Int → ByteArray → Option R) : ∀ (rest pre : List (List UInt8)) (n : Nat), kindWords = pre ++ rest → rest.length < n →
    scAct_l3 n (text w) (text r) is 6 (pre.length : Int) 0 0 (text []) (sRow (kindWords.map text)) k0 k1 =
      match (if is = true then kindFrom pre.length rest w else none) with
      | none => k1 0 0 (text [])
      | some j => k0 (actOf j r).2 (actOf j r).1.1 (actOf j r).1.2.1 (actOf j r).1.2.2
  | [], pre, n, hw, hn => by
    obtain ⟨m, rfl⟩ : ∃ m, n = m + 1 := ⟨n - 1, by omega⟩
    simp only [List.append_nil] at hw
    have : pre.length = 6 := by rw [← hw]; rfl
    unfold scAct_l3
    rw [decide_eq_false (by omega), cond_false]
    cases is <;> rfl
  | x :: rest, pre, n, hw, hn => by
    obtain ⟨m, rfl⟩ : ∃ m, n = m + 1 := ⟨n - 1, by omega⟩
    have hlen : pre.length + (rest.length + 1) = 6 := by
      have := congrArg List.length hw
      simp at this
      rw [← this]
      rfl
    have ih := scAct_rounds (w := w) is hr k0 k1 rest (pre ++ [x]) m (by rw [hw]; simp) (by simp at hn; omega)
    have hrl : (sRow (kindWords.map text)).length = 6 := rfl
    have hget : (sRow (kindWords.map text))[Int.toNat (pre.length : Int)]? = some [PV.str (text x)] := by
      rw [hw, Int.toNat_natCast, sRow, List.map_map, List.map_append, List.map_cons, List.getElem?_append_right (by simp)]
      simp
    have e1 : IntKind.i64.wrap ((pre.length : Int) + 1) = (pre.length : Int) + 1 := wrapN (by omega) (by omega)
    have e2 : ((pre.length : Int) + 1) = ((pre ++ [x]).length : Int) := by simp
    unfold scAct_l3
    rw [decide_eq_true (by omega), cond_true, hrl, if_pos (by omega), hget]
    simp only [Option.bind_some, List.getElem?_cons_zero, PV.asS, text_toList, beq_list]
    rw [e1]
    by_cases hx : x = w
    · subst hx
      rw [decide_eq_true rfl, Bool.not_true, cond_false]
      cases is with
      | false =>
        rw [Bool.not_false, cond_true, e2, ih]
        rfl
      | true =>
        have hcl := cutAt_length 32 r
        rw [Bool.not_true, cond_false, sCut_one 32 hr, Option.bind_some, sInt_ok (by omega), Option.bind_some]
        have hk : kindFrom pre.length (x :: rest) x = some pre.length := by simp [kindFrom]
        rw [if_pos rfl, hk]
        simp only [scText_ok, Option.bind_some, meet_self, actOf]
        generalize intV (cutAt 32 r).1 = v
        obtain ⟨v, ok⟩ := v
        cases ok
        · simp
        · by_cases c1 : 0 ≤ v
          · by_cases c2 : v ≤ 9999
            · simp [c1, c2]
            · simp [c1, c2]
          · simp [c1]
    · rw [decide_eq_false hx, Bool.not_false, cond_true, e2, ih]
      have hk : kindFrom pre.length (x :: rest) w = kindFrom (pre ++ [x]).length rest w := by rw [kindFrom, if_neg hx]; simp
      rw [hk]
theorem scAct_ok : ∀ (line1 : ByteArray) (y : Int × Int × ByteArray × Bool), sScAct line1 = some y → ∃ n, ∀ (R : Type) (k : Int → Int → ByteArray → Bool → Option R), scAct_b n line1 k = k y.1 y.2.1 y.2.2.1 y.2.2.2 := by
  intro s y h
  unfold sScAct at h
  split at h
  case isFalse => cases h
  rename_i hs
  cases h
  obtain ⟨l, rfl⟩ : ∃ l, s = text l := ⟨_, (text_of s).symm⟩
  rw [text_size] at hs
  have hcl := cutAt_length 32 l
  refine ⟨10, fun R k => ?_⟩
  unfold scAct_b
  rw [sCut_one 32 hs, Option.bind_some, scWords_ok, Option.bind_some, text_data, show ByteArray.mk #[] = text [] from rfl]
  have := scAct_rounds (w := (cutAt 32 l).1) (r := (cutAt 32 l).2.1) (cutAt 32 l).2.2 (by omega) (fun b i j s => k i j s b) (fun _ _ _ => k 0 0 (text []) false) kindWords [] 10 rfl (by decide)
  refine this.trans ?_
  unfold actV
  rw [List.length_nil]
  cases hm : (if (cutAt 32 l).2.2 = true then kindFrom 0 kindWords (cutAt 32 l).1 else none) with
  | none => rfl
  | some j => rfl

/-! A text's acts. -/
theorem parse_rounds {R : Type} (k0 : List (List PV) → Option R) (k1 : Int → Option R) : ∀ (n : Nat) (l : List UInt8) (acc : List Act), l.length < n → acc.length + l.length ≤ lim + 1 → l.length ≤ lim →
    scParse_l2 n (text l) (aRow acc) k1 k0 = match parseF n l acc with | some a => k0 (aRow a) | none => k1 2
  | 0, l, acc, hn, _, _ => by omega
  | n + 1, l, acc, hn, hb, hl => by
    unfold scParse_l2 parseF
    rw [mk_nil, text_toList, text_toList]
    by_cases h0 : l = []
    · subst h0
      rw [beq_self_eq_true, Bool.not_true, cond_false, if_pos rfl]
    · have hne : (l == []) = false := by rw [beq_list]; exact decide_eq_false h0
      have hcl := cutAt_length 10 l
      have hact : sScAct (text (cutAt 10 l).1) = some ((actV (cutAt 10 l).1).1.1, (actV (cutAt 10 l).1).1.2.1, (actV (cutAt 10 l).1).1.2.2, (actV (cutAt 10 l).1).2) := by
        unfold sScAct
        rw [text_size, if_pos (by omega), text_data]
      rw [hne, Bool.not_false, cond_true, if_neg h0, sCut_one 10 hl, Option.bind_some, hact, Option.bind_some]
      cases hc : (cutAt 10 l).2.2 with
      | false => rw [Bool.not_false, cond_true, if_neg (by simp)]
      | true =>
        cases ha : (actV (cutAt 10 l).1).2 with
        | false => rw [Bool.not_true, cond_false, Bool.not_false, cond_true, if_neg (by simp)]
        | true =>
          have hsh : (cutAt 10 l).2.1.length < l.length := cutAt_short hc
          have hrow : aRow acc ++ [[PV.int .i64 (actV (cutAt 10 l).1).1.1, PV.int .i64 (actV (cutAt 10 l).1).1.2.1, PV.str (actV (cutAt 10 l).1).1.2.2]] = aRow (acc ++ [(actV (cutAt 10 l).1).1]) := by rw [aRow_append]; rfl
          rw [Bool.not_true, cond_false, cond_false, if_pos (by rw [aRow_length]; unfold maxBytes; unfold lim at hb hl; simp; omega), if_pos ⟨rfl, rfl⟩, hrow, parse_rounds k0 k1 n _ _ (by omega) (by simp; omega) (by omega)]
theorem scParse_ok : ∀ (text1 : ByteArray) (y : List (List PV) × Int), sScParse text1 = some y → ∃ n, ∀ (R : Type) (k : List (List PV) → Int → Option R), scParse_b n text1 k = k y.1 y.2 := by
  intro s y h
  unfold sScParse at h
  split at h
  case isFalse => cases h
  rename_i hs
  cases h
  obtain ⟨l, rfl⟩ : ∃ l, s = text l := ⟨_, (text_of s).symm⟩
  rw [text_size] at hs
  refine ⟨l.length + 1, fun R k => ?_⟩
  unfold scParse_b
  rw [text_data]
  have := parse_rounds (R := R) (fun es => k es 0) (fun i => k [] i) (l.length + 1) l [] (by omega) (by simp; omega) hs
  refine this.trans ?_
  unfold parseR parseV
  cases parseF (l.length + 1) l [] <;> rfl
theorem noMem_aRow : ∀ l : List Act, noMemEs (aRow l) = true
  | [] => rfl
  | a :: l => by
    have := noMem_aRow l
    simp [aRow, noMemEs, noMemL, noMem] at this ⊢
    exact this
theorem scParse_no : ∀ (text1 : ByteArray) (y : List (List PV) × Int), sScParse text1 = some y → (noMem (scParse_E y).1 && noMemL (scParse_E y).2) = true := by
  intro s y h
  unfold sScParse at h
  split at h
  case isFalse => cases h
  cases h
  unfold parseR
  split <;> simp [scParse_E, noMem, noMemL, noMem_aRow, noMemEs]
end Go.Proofs.YtkeklbicmfhemaaDoorV
