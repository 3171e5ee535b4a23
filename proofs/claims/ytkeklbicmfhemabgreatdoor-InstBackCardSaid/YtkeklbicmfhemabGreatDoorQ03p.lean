/- Chapter 3: problems as texts, and texts as problems. -/
import Derived.Test.YtkeklbicmfhemabGreatDoorD03p
import Derived.Test.YtkeklbicmfhemabGreatDoorQ03
import Derived.Test.YtkeklbicmfhemabGreatDoorQ02p
namespace Go.Proofs.YtkeklbicmfhemabGreatDoorV
open Go
set_option maxRecDepth 20000
set_option linter.unusedSimpArgs false

/-! Lines. -/
theorem iLine_rounds {R : Type} {ns : List Int} (hi : ∀ n ∈ ns, inI n = true) (hl : ns.length ≤ 1000000000000) (k0 : ByteArray → Option R) : ∀ (rest pre : List Int) (out : List UInt8) (n : Nat), ns = pre ++ rest → rest.length < n → out.length + 21 * rest.length ≤ 1000000000000 →
    iLine_l2 n (text out) (iRow ns) (ns.length : Int) (pre.length : Int) k0 = k0 (text (out ++ tailW rest))
  | [], pre, out, n, e, hn, ho => by
    obtain ⟨m, rfl⟩ : ∃ m, n = m + 1 := ⟨n - 1, by omega⟩
    simp only [List.append_nil] at e
    subst e
    unfold iLine_l2
    rw [decide_eq_false (by omega), cond_false]
    simp [tailW]
  | v :: rest, pre, out, n, e, hn, ho => by
    obtain ⟨m, rfl⟩ : ∃ m, n = m + 1 := ⟨n - 1, by omega⟩
    have hlen : ns.length = pre.length + (rest.length + 1) := by rw [e]; simp
    have hv : inI v = true := hi v (by rw [e]; simp)
    have hd := dig_length hv
    simp only [List.length_cons] at ho hn
    have hidx : idx (iRow ns) (pre.length : Int) = some [PV.int .i64 v] := by rw [e]; exact idx_iRow pre v rest
    unfold iLine_l2
    rw [decide_eq_true (by omega), cond_true, hidx, Option.bind_some, if_pos (show [PV.int .i64 v].length = 1 from rfl), List.getElem?_cons_zero, Option.bind_some]
    simp only [PV.asI, if_true, Option.bind_some]
    rw [show ByteArray.mk #[32] = text [32] from rfl, if_pos (by rw [text_size, text_size]; simp; omega), digits_ok hv, Option.bind_some, text_append, if_pos (by rw [text_size, text_size]; simp; omega), text_append, wrapN (by omega) (by omega), show ((pre.length : Int) + 1) = ((pre ++ [v]).length : Int) by simp]
    rw [iLine_rounds hi hl k0 rest (pre ++ [v]) _ m (by rw [e]; simp) (by omega) (by simp; omega)]
    congr 2
    simp [tailW]
theorem iLine_ok : ∀ (word1 : ByteArray) (l2 : List (List PV)) (y : ByteArray), sILine word1 l2 = some y → ∃ n, ∀ (R : Type) (k : ByteArray → Option R), iLine_b n word1 l2 k = k y := by
  intro w es y h
  unfold sILine at h
  obtain ⟨ns, h1, h2⟩ := bind_inv h
  split at h2
  case isFalse => cases h2
  rename_i hs
  cases h2
  obtain ⟨rfl, hz⟩ := unI_inv h1
  have hi : ∀ n ∈ ns, inI n = true := fun n hn => (inI_iff n).2 (hz n hn)
  refine ⟨ns.length + 1, fun R k => ?_⟩
  unfold iLine_b
  rw [iRow_length]
  have := fun k0 => iLine_rounds (R := R) hi (by omega) k0 ns [] w.data.toList (ns.length + 1) rfl (by omega) (by rw [size_data]; omega)
  rw [text_of] at this
  refine (this _).trans ?_
  have ht := tailW_len hi
  have := size_data w
  rw [show ByteArray.mk #[10] = text [10] from rfl, if_pos (by rw [text_size, text_size, List.length_append]; simp; omega), text_append]
theorem sILine_of {w : List UInt8} {ns : List Int} (hi : ∀ n ∈ ns, inI n = true) (h : w.length + 21 * ns.length ≤ 1000000000000) : sILine (text w) (iRow ns) = some (text (lineN w ns)) := by
  unfold sILine
  rw [unI_row fun n hn => (inI_iff n).1 (hi n hn), Option.bind_some, text_size, if_pos h, text_data]
  rfl
theorem wRow_length (ws : List (List (List UInt8))) : (wRow ws).length = ws.length := by simp [wRow]
theorem words_fit {l : List UInt8} (h : l.length ≤ lim) : ∀ x ∈ words l, x.length ≤ lim := fun x hx => Nat.le_trans (words_mem hx).2.2 h
theorem iLines_rounds {R : Type} (k0 : Bool → Option R) (k1 : List (List PV) → Option R) : ∀ (n : Nat) (l : List UInt8) (out : List (List (List UInt8))), l.length < n → l.length + out.length ≤ lim →
    iLines_l2 n (text l) (wRow out) k0 k1 = match linesF n l out with | some ws => k1 (wRow ws) | none => k0 false
  | 0, _, _, h, _ => absurd h (by omega)
  | n + 1, l, out, hn, hs => by
    unfold lim at hs
    have hl : l.length ≤ lim := by unfold lim; omega
    have hc := cutAt_length 10 l
    unfold iLines_l2 linesF
    rw [text_toList, show ByteArray.mk #[] = text [] from rfl, text_toList, beq_list]
    by_cases h0 : l = []
    · rw [decide_eq_true h0, Bool.not_true, cond_false, if_pos h0]
    rw [decide_eq_false h0, Bool.not_false, cond_true, if_neg h0, sCut_one 10 hl, Option.bind_some]
    simp only
    rw [sWords_text (by omega), Option.bind_some]
    cases hb : (cutAt 10 l).2.2 with
    | false => rw [Bool.not_false, cond_true, if_neg (by simp)]
    | true =>
      have hsh := cutAt_short hb
      rw [Bool.not_true, cond_false]
      by_cases hw : words (cutAt 10 l).1 = []
      · have e0 : (((sRow (([] : List (List UInt8)).map text)).length : Int) == 0) = true := rfl
        rw [hw, e0, cond_true, if_neg (fun h => h.2.1 rfl)]
      have hroom := words_room (cutAt 10 l).1
      have hjl := (joinB_len (words (cutAt 10 l).1)).resolve_right hw
      have hwl : ((sRow ((words (cutAt 10 l).1).map text)).length : Int) = (words (cutAt 10 l).1).length := by simp [sRow]
      have hwp := List.length_pos_iff.2 hw
      rw [hwl, show ((((words (cutAt 10 l).1).length : Int) == 0) : Bool) = false by rw [beq_eq_false_iff_ne]; omega, cond_false, sJoin_blank (by omega) (by omega), Option.bind_some, text_toList, text_toList, beq_list]
      by_cases hj : joinB (words (cutAt 10 l).1) = (cutAt 10 l).1
      · rw [decide_eq_true hj, Bool.not_true, cond_false, if_pos (by rw [wRow_length, List.length_singleton]; unfold maxBytes; omega), if_pos ⟨rfl, hw, hj⟩]
        have e : wRow out ++ [[PV.fs (sRow ((words (cutAt 10 l).1).map text))]] = wRow (out ++ [words (cutAt 10 l).1]) := by simp [wRow]
        rw [e, iLines_rounds k0 k1 n _ _ (by omega) (by simp; unfold lim; omega)]
      · rw [decide_eq_false hj, Bool.not_false, cond_true, if_neg (fun h => hj h.2.2)]
theorem iLines_ok : ∀ (text1 : ByteArray) (y : List (List PV) × Bool), sILines text1 = some y → ∃ n, ∀ (R : Type) (k : List (List PV) → Bool → Option R), iLines_b n text1 k = k y.1 y.2 := by
  intro s y h
  unfold sILines at h
  split at h
  case isFalse => cases h
  rename_i hs
  have hd := size_data s
  refine ⟨s.data.toList.length + 1, fun R k => ?_⟩
  unfold iLines_b
  have := iLines_rounds (R := R) (fun b => k [] b) (fun es => k es true) (s.data.toList.length + 1) s.data.toList [] (by omega) (by simp only [List.length_nil]; omega)
  rw [text_of, show wRow [] = [] from rfl] at this
  refine this.trans ?_
  cases h
  unfold linesV
  cases linesF (s.data.toList.length + 1) s.data.toList [] with
  | none => rfl
  | some ws => rfl
/-- What lines come to: words, each of them short. -/
theorem linesF_ok : ∀ (n : Nat) (l : List UInt8) (out ws : List (List (List UInt8))), l.length ≤ lim → linesF n l out = some ws →
    (∀ w ∈ out, w ≠ [] ∧ w.length ≤ lim + 1 ∧ ∀ x ∈ w, x.length ≤ lim) → ws.length ≤ out.length + l.length ∧ ∀ w ∈ ws, w ≠ [] ∧ w.length ≤ lim + 1 ∧ ∀ x ∈ w, x.length ≤ lim
  | 0, _, _, _, _, h, _ => by cases h
  | n + 1, l, out, ws, hl, h, ho => by
    unfold linesF at h
    split at h
    · cases h; exact ⟨by omega, ho⟩
    · split at h
      case isFalse => cases h
      rename_i h1
      have hc := cutAt_length 10 l
      have hsh := cutAt_short h1.1
      have hwl := words_length (cutAt 10 l).1
      have := linesF_ok n _ _ ws (by omega) h (fun w hw => by
        rcases List.mem_append.1 hw with hw | hw
        · exact ho w hw
        · rw [List.mem_singleton.1 hw]
          exact ⟨h1.2.1, by omega, words_fit (by omega)⟩)
      simp only [List.length_append, List.length_singleton] at this
      exact ⟨by omega, this.2⟩

/-! The next line, if it begins so. -/
theorem unW_inv : ∀ {es : List (List PV)} {ws : List (List (List UInt8))}, unW es = some ws → es = wRow ws
  | [], ws, h => by cases h; rfl
  | e :: es, ws, h => by
    rw [unW] at h
    obtain ⟨a, h1, h2⟩ := bind_inv h
    obtain ⟨l, h3, h4⟩ := bind_inv h2
    cases h4
    rw [unW_inv h3]
    unfold unW1 at h1
    split at h1
    · obtain ⟨ss, h5, h6⟩ := bind_inv h1
      cases h6
      rw [unS_inv h5]
      show _ = [PV.fs (sRow ((ss.map fun s : ByteArray => s.data.toList).map text))] :: wRow l
      rw [List.map_map, show (text ∘ fun s : ByteArray => s.data.toList) = id from funext fun s => text_of s, List.map_id]
    · cases h1
theorem unW_row : ∀ ws : List (List (List UInt8)), unW (wRow ws) = some ws
  | [] => rfl
  | w :: ws => by
    have h : unW1 [.fs (sRow (w.map text))] = some w := by
      show ((unS (sRow (w.map text))).bind fun ss => some (ss.map fun s => s.data.toList)) = some w
      rw [unS_row, Option.bind_some, List.map_map, show ((fun w : ByteArray => w.data.toList) ∘ text) = id from funext fun l => text_data l, List.map_id]
    rw [show wRow (w :: ws) = [.fs (sRow (w.map text))] :: wRow ws from rfl, unW, h, Option.bind_some, unW_row ws]
    rfl
theorem sRow_all : ∀ l : List ByteArray, allLen 1 (sRow l) = true
  | [] => rfl
  | b :: l => by simp [sRow, allLen]
theorem next_rounds {R : Type} {ws : List (List UInt8)} (hl : ws.length ≤ lim + 1) (hs : ∀ x ∈ ws, x.length ≤ lim) (c : List (List PV)) (k0 : Bool → List (List PV) → Option R) (k1 : List (List PV) → List (List PV) → Option R) : ∀ (rest pre : List (List UInt8)) (out : List Int) (n : Nat), ws = pre ++ rest → out.length = pre.length → rest.length < n →
    iNext_l5 n (sRow (ws.map text)) (ws.length : Int) (pre.length : Int) c (iRow out) k0 k1 = match numsV rest with | some ns => k1 c (iRow (out ++ ns)) | none => k0 false c
  | [], pre, out, n, e, ho, hn => by
    obtain ⟨m, rfl⟩ : ∃ m, n = m + 1 := ⟨n - 1, by omega⟩
    simp only [List.append_nil] at e
    subst e
    unfold iNext_l5
    rw [decide_eq_false (by omega), cond_false]
    simp [numsV]
  | x :: rest, pre, out, n, e, ho, hn => by
    obtain ⟨m, rfl⟩ : ∃ m, n = m + 1 := ⟨n - 1, by omega⟩
    have hlen : ws.length = pre.length + (rest.length + 1) := by rw [e]; simp
    unfold lim at hl
    have hidx : idx (sRow (ws.map text)) (pre.length : Int) = some [PV.str (text x)] := by
      have := idx_sRow (pre.map text) (text x) (rest.map text)
      rw [List.length_map] at this
      rw [e, List.map_append, List.map_cons]
      exact this
    unfold iNext_l5
    rw [decide_eq_true (by omega), cond_true, hidx, Option.bind_some, if_pos (show [PV.str (text x)].length = 1 from rfl), List.getElem?_cons_zero, Option.bind_some]
    simp only [PV.asS, Option.bind_some]
    rw [sInt_ok (hs x (by rw [e]; simp)), Option.bind_some, numsV]
    cases hv : (intV x).2 with
    | false => rw [Bool.not_false, cond_true, if_neg (by simp)]
    | true =>
      rw [Bool.not_true, cond_false, if_pos rfl, if_pos (by rw [iRow_length]; simp; unfold maxBytes; omega), wrapN (by omega) (by omega), show ((pre.length : Int) + 1) = ((pre ++ [x]).length : Int) by simp]
      have e2 : iRow out ++ [[PV.int .i64 (intV x).1]] = iRow (out ++ [(intV x).1]) := by simp [iRow]
      rw [e2, next_rounds (by unfold lim; omega) hs c k0 k1 rest (pre ++ [x]) (out ++ [(intV x).1]) m (by rw [e]; simp) (by simp [ho]) (by simp at hn; omega)]
      cases numsV rest with
      | none => rfl
      | some ns => simp
theorem nextV_cons (w : List (List UInt8)) (ws : List (List (List UInt8))) (word : List UInt8) (many : Int) :
    nextV (w :: ws) word many = if w.head? = some word ∧ (0 ≤ many → (w.length : Int) = many + 1) ∧ 2 ≤ w.length then numsV w.tail else none := rfl
/-- A line whose first word is the right one, and whose length is. -/
theorem next_last {R : Type} {x : List UInt8} {w : List (List UInt8)} {ws : List (List (List UInt8))} (h1 : 1 ≤ w.length) (hl : w.length ≤ lim) (hs : ∀ y ∈ w, y.length ≤ lim) {n : Nat} (hn : w.length < n) (k0 : Bool → List (List PV) → Option R) (k1 : Bool → Nat → Nat → List (List PV) → List (List PV) → Option R) :
    iNext_q4 n (wRow ((x :: w) :: ws)) k0 k1 = match numsV w with | some ns => k1 true 1 ws.length (wRow ((x :: w) :: ws)) (iRow ns) | none => k0 false (wRow ((x :: w) :: ws)) := by
  have hfs : PV.asFs (.fs (sRow ((x :: w).map text))) = some (sRow ((x :: w).map text)) := rfl
  have h0 : (wRow ((x :: w) :: ws))[0]? = some [.fs (sRow ((x :: w).map text))] := rfl
  have hr : (sRow ((x :: w).map text)).length = w.length + 1 := by simp [sRow]
  have hd : ((sRow ((x :: w).map text)).take (Int.toNat (((sRow ((x :: w).map text)).length : Nat) : Int))).drop 1 = sRow (w.map text) := by
    rw [Int.toNat_natCast, List.take_length]
    rfl
  have hrl : (sRow (w.map text)).length = w.length := by simp [sRow]
  unfold iNext_q4
  rw [if_pos (by rw [wRow_length]; simp), h0, Option.bind_some, List.getElem?_cons_zero, Option.bind_some, hfs, Option.bind_some, if_pos ⟨by omega, by rw [hr]; omega, rfl, Int.le_refl _, sRow_all _⟩, hd, hrl]
  have := next_rounds (R := R) (ws := w) (by omega) hs (wRow ((x :: w) :: ws)) k0 (fun (es84 : List (List PV)) (es85 : List (List PV)) =>
          if (0 : Int) ≤ (1 : Int) ∧ (1 : Int) ≤ (es84.length : Int) ∧ (es84.length : Int) = (es84.length : Int) ∧ (es84.length : Int) ≤ (es84.length : Int) ∧ 1 = 1 then
            k1 true 1 (Int.toNat ((es84.length : Int) - (1 : Int))) es84 es85
          else none) w [] [] n rfl rfl hn
  refine this.trans ?_
  cases numsV w with
  | none => rfl
  | some ns =>
    simp only [List.nil_append]
    rw [if_pos ⟨by omega, by rw [wRow_length, List.length_cons]; omega, trivial, Int.le_refl _, trivial⟩, wRow_length, List.length_cons, show ((ws.length + 1 : Nat) : Int) - 1 = (ws.length : Int) by omega, Int.toNat_natCast]
theorem drop_take_row (w : List (List UInt8)) (ws : List (List (List UInt8))) : ((wRow (w :: ws)).drop 1).take ws.length = wRow ws := by
  rw [show (wRow (w :: ws)).drop 1 = wRow ws from rfl, ← wRow_length ws, List.take_length]
theorem iNext_ok : ∀ (r1 : List (List PV)) (word2 : ByteArray) (many3 : Int) (y : List (List PV) × Bool × List (List PV)), sINext r1 word2 many3 = some y → ∃ n, ∀ (R : Type) (k : List (List PV) → Bool → List (List PV) → Option R), iNext_b n r1 word2 many3 k = k y.1 y.2.1 y.2.2 := by
  intro r word many y h
  unfold sINext at h
  obtain ⟨ws, h1, h2⟩ := bind_inv h
  split at h2
  case isFalse => cases h2
  rename_i hs
  obtain ⟨hwl, hm0, hm1, hok⟩ := hs
  rw [unW_inv h1]
  rcases ws with _ | ⟨w, ws⟩
  · cases h2
    exact ⟨1, fun R k => rfl⟩
  · unfold okHead at hok
    simp only [Bool.and_eq_true, Bool.not_eq_true', decide_eq_true_eq, List.all_eq_true] at hok
    obtain ⟨ho1, ho2, ho3⟩ := hok
    rcases w with _ | ⟨x, w⟩
    · simp at ho1
    unfold lim at ho2
    simp only [List.length_cons] at ho2
    refine ⟨w.length + 1, fun R k => ?_⟩
    have hfs : PV.asFs (.fs (sRow ((x :: w).map text))) = some (sRow ((x :: w).map text)) := rfl
    have h0 : (wRow ((x :: w) :: ws))[0]? = some [.fs (sRow ((x :: w).map text))] := rfl
    have hr : (sRow ((x :: w).map text)).length = w.length + 1 := by simp [sRow]
    have hin : (0 : Int) ≤ 0 ∧ (0 : Int) < ((wRow ((x :: w) :: ws)).length : Int) := by rw [wRow_length]; simp
    have hx : idx (sRow ((x :: w).map text)) (0 : Int) = some [.str (text x)] := rfl
    have hs : PV.asS (.str (text x)) = some (text x) := rfl
    have hq3 : ∀ (k0 : Bool → List (List PV) → Option R) (k1 : List (List PV) → Option R), iNext_q3 (w.length + 1) true (wRow ((x :: w) :: ws)) k0 k1 = k0 false (wRow ((x :: w) :: ws)) := fun _ _ => rfl
    have bad : nextV ((x :: w) :: ws) word.data.toList many = none → k [] false (wRow ((x :: w) :: ws)) = k y.1 y.2.1 y.2.2 := fun e => by
      rw [e] at h2
      cases h2
      rfl
    have good : x = word.data.toList → (0 ≤ many → (w.length : Int) = many) → iNext_q3 (w.length + 1) (decide (((w.length + 1 : Nat) : Int) < 2)) (wRow ((x :: w) :: ws)) (fun (b46 : Bool) (es47 : List (List PV)) => k [] b46 es47)
        (fun (es48 : List (List PV)) => iNext_q4 (w.length + 1) es48 (fun (b49 : Bool) (es50 : List (List PV)) => k [] b49 es50)
          (fun (b51 : Bool) (j52 : Nat) (j53 : Nat) (es54 : List (List PV)) (es55 : List (List PV)) => k es55 b51 ((es54.drop j52).take j53))) = k y.1 y.2.1 y.2.2 := by
      intro e1 e2
      have hnext : nextV ((x :: w) :: ws) word.data.toList many = if 2 ≤ w.length + 1 then numsV w else none := by
        rw [nextV_cons]
        by_cases h : 2 ≤ w.length + 1
        · rw [if_pos h, if_pos ⟨by rw [e1]; rfl, fun hm => by simp only [List.length_cons]; have := e2 hm; omega, by simp; omega⟩]
          rfl
        · rw [if_neg h, if_neg (fun hh => h hh.2.2)]
      unfold iNext_q3
      by_cases h : 2 ≤ w.length + 1
      · rw [decide_eq_false (by omega), cond_false]
        refine (next_last (by omega) (by unfold lim; omega) (fun y hy => ho3 y (by simp [hy])) (by omega) _ _).trans ?_
        rw [hnext, if_pos h] at h2
        cases hv : numsV w with
        | none =>
          rw [hv] at h2
          cases h2
          rfl
        | some ns =>
          rw [hv] at h2
          cases h2
          simp only [drop_take_row, List.tail_cons]
      · rw [decide_eq_true (by omega), cond_true]
        exact bad (by rw [hnext, if_neg h])
    unfold iNext_b
    rw [show ((((wRow ((x :: w) :: ws)).length : Nat) : Int) == 0) = false by rw [wRow_length, beq_eq_false_iff_ne]; simp; omega, cond_false]
    simp only [if_pos hin, h0, Option.bind_some, List.getElem?_cons_zero, hfs, hx, hs, hr, List.length_singleton, if_true, hq3]
    rw [text_toList, bytes_toList, beq_list]
    by_cases hxw : x = word.data.toList
    · rw [decide_eq_true hxw, Bool.not_true, cond_false]
      by_cases hm : 0 ≤ many
      · rw [decide_eq_true (show many ≥ 0 from hm), cond_true, wrapN (by omega) (by omega)]
        by_cases hlen : (w.length : Int) = many
        · rw [show ((((w.length + 1 : Nat) : Int) != many + 1) : Bool) = false by simp; omega, cond_false]
          exact good hxw fun _ => hlen
        · rw [show ((((w.length + 1 : Nat) : Int) != many + 1) : Bool) = true by simp; omega, cond_true]
          refine bad ?_
          rw [nextV_cons]
          exact if_neg fun hh => hlen (by have := hh.2.1 hm; simp only [List.length_cons] at this; omega)
      · rw [decide_eq_false (show ¬ many ≥ 0 from hm), cond_false]
        exact good hxw fun h => absurd h hm
    · rw [decide_eq_false hxw, Bool.not_false, cond_true]
      refine bad ?_
      rw [nextV_cons]
      exact if_neg fun hh => hxw (by simpa using hh.1)

/-! Texts as problems. -/
def okAll (ws : List (List (List UInt8))) : Prop := ∀ w ∈ ws, w ≠ [] ∧ w.length ≤ lim + 1 ∧ ∀ x ∈ w, x.length ≤ lim
theorem okHead_of {ws : List (List (List UInt8))} (h : okAll ws) : okHead ws = true := by
  rcases ws with _ | ⟨w, ws⟩
  · rfl
  · obtain ⟨h1, h2, h3⟩ := h w (by simp)
    unfold okHead
    simp only [Bool.and_eq_true, Bool.not_eq_true', decide_eq_true_eq, List.all_eq_true]
    refine ⟨?_, h2, h3⟩
    cases w with
    | nil => exact absurd rfl h1
    | cons => rfl
def nextT (ws : List (List (List UInt8))) (word : List UInt8) (many : Int) : List (List PV) × Bool × List (List PV) :=
  match nextV ws word many with | some ns => (iRow ns, true, wRow ws.tail) | none => ([], false, wRow ws)
theorem sINext_of {ws : List (List (List UInt8))} (h : okAll ws) (hl : ws.length ≤ big) (word : List UInt8) {many : Int} (h0 : -1 ≤ many) (h1 : many ≤ 1000) : sINext (wRow ws) (text word) many = some (nextT ws word many) := by
  unfold sINext
  rw [unW_row, Option.bind_some, if_pos ⟨hl, h0, h1, okHead_of h⟩, text_data]
  rfl
theorem nextV_inv {ws : List (List (List UInt8))} {word : List UInt8} {many : Int} {ns : List Int} (h : nextV ws word many = some ns) :
    ∃ w ws', ws = w :: ws' ∧ (0 ≤ many → (ns.length : Int) = many) ∧ ns.length + 1 = w.length ∧ (∀ n ∈ ns, inI n = true) ∧ takeV word many ws = (ns :: (takeV word many ws').1, (takeV word many ws').2) := by
  rcases ws with _ | ⟨w, ws'⟩
  · cases h
  · have ht : takeV word many (w :: ws') = (ns :: (takeV word many ws').1, (takeV word many ws').2) := by rw [takeV, h]
    rw [nextV_cons] at h
    split at h
    case isFalse => cases h
    rename_i hh
    obtain ⟨e, hi⟩ := numsV_inv h
    have hl : ns.length + 1 = w.length := by
      have e2 := congrArg List.length e
      rw [List.length_map] at e2
      rcases w with _ | ⟨x, w⟩
      · simp at hh
      · simp only [List.tail_cons] at e2
        simp [e2]
    exact ⟨w, ws', rfl, fun hm => by have := hh.2.1 hm; omega, hl, hi, ht⟩
theorem takeV_none {ws : List (List (List UInt8))} {word : List UInt8} {many : Int} (h : nextV ws word many = none) : takeV word many ws = ([], ws) := by
  cases ws with
  | nil => rfl
  | cons w ws => rw [takeV, h]
theorem takeV_sub (word : List UInt8) (many : Int) : ∀ {ws : List (List (List UInt8))}, okAll ws → okAll (takeV word many ws).2 ∧ (takeV word many ws).2.length + (takeV word many ws).1.length = ws.length ∧
    ∀ ns ∈ (takeV word many ws).1, ns.length ≤ lim ∧ ∀ n ∈ ns, inI n = true
  | [], h => ⟨h, rfl, fun _ h => by cases h⟩
  | w :: ws, h => by
    cases hv : nextV (w :: ws) word many with
    | none => rw [takeV_none hv]; exact ⟨h, by simp, fun _ h => by cases h⟩
    | some ns =>
      obtain ⟨w', ws', e, -, hl, hi, ht⟩ := nextV_inv hv
      cases e
      obtain ⟨g1, g2, g3⟩ := takeV_sub word many (ws := ws) (fun x hx => h x (by simp [hx]))
      rw [ht]
      refine ⟨g1, by simp only [List.length_cons]; omega, fun m hm => ?_⟩
      rcases List.mem_cons.1 hm with rfl | hm
      · have := (h w (by simp)).2.1
        exact ⟨by omega, hi⟩
      · exact g3 m hm
theorem len3 {ns : List Int} (h : (ns.length : Int) = 3) : ∃ a b c, ns = [a, b, c] := by
  rcases ns with _ | ⟨a, _ | ⟨b, _ | ⟨c, _ | ⟨d, r⟩⟩⟩⟩
  all_goals simp at h
  · exact ⟨a, b, c, rfl⟩
  · omega
theorem len4 {ns : List Int} (h : (ns.length : Int) = 4) : ∃ a b c d, ns = [a, b, c, d] := by
  rcases ns with _ | ⟨a, _ | ⟨b, _ | ⟨c, _ | ⟨d, _ | ⟨e, r⟩⟩⟩⟩⟩
  all_goals simp at h
  · exact ⟨a, b, c, d, rfl⟩
  · omega
theorem len2 {ns : List Int} (h : (ns.length : Int) = 2) : ∃ a b, ns = [a, b] := by
  rcases ns with _ | ⟨a, _ | ⟨b, _ | ⟨c, r⟩⟩⟩
  all_goals simp at h
  · exact ⟨a, b, rfl⟩
  · omega
theorem parseCars {R : Type} (k0 : List (List PV) → List (List PV) → Option R) : ∀ (ws : List (List (List UInt8))) (n : Nat) (out : List Car), ws.length < n → okAll ws → out.length + ws.length ≤ big →
    iParse_l7 n (nextT ws wCar 3).1 (nextT ws wCar 3).2.1 (nextT ws wCar 3).2.2 (carRow out) k0 = k0 (wRow (takeV wCar 3 ws).2) (carRow (out ++ (takeV wCar 3 ws).1.map toCar))
  | [], n, out, hn, _, _ => by
    obtain ⟨m, rfl⟩ : ∃ m, n = m + 1 := ⟨n - 1, by omega⟩
    unfold iParse_l7
    rw [show nextT [] wCar 3 = ([], false, wRow []) from rfl, cond_false]
    simp [takeV]
  | w :: ws, n, out, hn, ho, hb => by
    obtain ⟨m, rfl⟩ : ∃ m, n = m + 1 := ⟨n - 1, by omega⟩
    simp only [List.length_cons] at hn hb
    cases hv : nextV (w :: ws) wCar 3 with
    | none =>
      unfold iParse_l7
      rw [show nextT (w :: ws) wCar 3 = ([], false, wRow (w :: ws)) by unfold nextT; rw [hv], cond_false, takeV_none hv]
      simp
    | some ns =>
      obtain ⟨w', ws', e, h3, -, -, ht⟩ := nextV_inv hv
      cases e
      obtain ⟨a, b, c, rfl⟩ := len3 (h3 (by omega))
      have ho' : okAll ws := fun x hx => ho x (by simp [hx])
      have ih := parseCars k0 ws m (out ++ [toCar [a, b, c]]) (by omega) ho' (by simp; omega)
      have hN : sINext (wRow ws) (ByteArray.mk #[99, 97, 114]) 3 = some (nextT ws wCar 3) := sINext_of ho' (by omega) wCar (by omega) (by omega)
      have hT : nextT (w :: ws) wCar 3 = (iRow [a, b, c], true, wRow ws) := by unfold nextT; rw [hv]; rfl
      have g0 : idx (iRow [a, b, c]) (0 : Int) = some [.int .i64 a] := rfl
      have g1 : idx (iRow [a, b, c]) (1 : Int) = some [.int .i64 b] := rfl
      have g2 : idx (iRow [a, b, c]) (2 : Int) = some [.int .i64 c] := rfl
      have gi : ∀ z : Int, PV.asI .i64 (.int .i64 z) = some z := fun _ => rfl
      have hA : carRow out ++ [[PV.int .i64 a, PV.int .i64 b, PV.int .i64 c]] = carRow (out ++ [toCar [a, b, c]]) := by simp [carRow, toCar]
      have hcap : ((carRow out).length + 1) * 24 ≤ maxBytes := by
        rw [carRow_length]
        unfold big at hb
        unfold maxBytes
        omega
      rw [hT, ht]
      unfold iParse_l7
      simp only
      rw [cond_true]
      simp only [g0, g1, g2, gi, Option.bind_some, List.length_singleton, if_true, List.getElem?_cons_zero, if_pos hcap, hN, hA, ih, meet_self]
      simp
theorem parseStops {R : Type} (a0 : List (List PV)) (k0 : List (List PV) → List (List PV) → List (List PV) → Option R) : ∀ (ws : List (List (List UInt8))) (n : Nat) (out : List Stp), ws.length < n → okAll ws → out.length + ws.length ≤ big →
    iParse_l11 n (nextT ws wStop 4).1 (nextT ws wStop 4).2.1 (nextT ws wStop 4).2.2 a0 (stpRow out) k0 = k0 (wRow (takeV wStop 4 ws).2) a0 (stpRow (out ++ (takeV wStop 4 ws).1.map toStp))
  | [], n, out, hn, _, _ => by
    obtain ⟨m, rfl⟩ : ∃ m, n = m + 1 := ⟨n - 1, by omega⟩
    unfold iParse_l11
    rw [show nextT [] wStop 4 = ([], false, wRow []) from rfl, cond_false]
    simp [takeV]
  | w :: ws, n, out, hn, ho, hb => by
    obtain ⟨m, rfl⟩ : ∃ m, n = m + 1 := ⟨n - 1, by omega⟩
    simp only [List.length_cons] at hn hb
    cases hv : nextV (w :: ws) wStop 4 with
    | none =>
      unfold iParse_l11
      rw [show nextT (w :: ws) wStop 4 = ([], false, wRow (w :: ws)) by unfold nextT; rw [hv], cond_false, takeV_none hv]
      simp
    | some ns =>
      obtain ⟨w', ws', e, h3, -, -, ht⟩ := nextV_inv hv
      cases e
      obtain ⟨a, b, c, d, rfl⟩ := len4 (h3 (by omega))
      have ho' : okAll ws := fun x hx => ho x (by simp [hx])
      have ih := parseStops a0 k0 ws m (out ++ [toStp [a, b, c, d]]) (by omega) ho' (by simp; omega)
      have hN : sINext (wRow ws) (ByteArray.mk #[115, 116, 111, 112]) 4 = some (nextT ws wStop 4) := sINext_of ho' (by omega) wStop (by omega) (by omega)
      have hT : nextT (w :: ws) wStop 4 = (iRow [a, b, c, d], true, wRow ws) := by unfold nextT; rw [hv]; rfl
      have g0 : idx (iRow [a, b, c, d]) (0 : Int) = some [.int .i64 a] := rfl
      have g1 : idx (iRow [a, b, c, d]) (1 : Int) = some [.int .i64 b] := rfl
      have g2 : idx (iRow [a, b, c, d]) (2 : Int) = some [.int .i64 c] := rfl
      have g3 : idx (iRow [a, b, c, d]) (3 : Int) = some [.int .i64 d] := rfl
      have gi : ∀ z : Int, PV.asI .i64 (.int .i64 z) = some z := fun _ => rfl
      have hA : stpRow out ++ [[PV.int .i64 a, PV.int .i64 b, PV.int .i64 c, PV.int .i64 d]] = stpRow (out ++ [toStp [a, b, c, d]]) := by simp [stpRow, toStp]
      have hcap : ((stpRow out).length + 1) * 32 ≤ maxBytes := by
        rw [stpRow_length]
        unfold big at hb
        unfold maxBytes
        omega
      rw [hT, ht]
      unfold iParse_l11
      simp only
      rw [cond_true]
      simp only [g0, g1, g2, g3, gi, Option.bind_some, List.length_singleton, if_true, List.getElem?_cons_zero, if_pos hcap, hN, hA, ih, meet_self]
      simp
theorem parsePairs {R : Type} (a0 b0 : List (List PV)) (k0 : List (List PV) → List (List PV) → List (List PV) → List (List PV) → Option R) : ∀ (ws : List (List (List UInt8))) (n : Nat) (out : List (Int × Int)), ws.length < n → okAll ws → out.length + ws.length ≤ big →
    iParse_l15 n (nextT ws wPair 2).1 (nextT ws wPair 2).2.1 (nextT ws wPair 2).2.2 a0 b0 (prRow out) k0 = k0 (wRow (takeV wPair 2 ws).2) a0 b0 (prRow (out ++ (takeV wPair 2 ws).1.map toPair))
  | [], n, out, hn, _, _ => by
    obtain ⟨m, rfl⟩ : ∃ m, n = m + 1 := ⟨n - 1, by omega⟩
    unfold iParse_l15
    rw [show nextT [] wPair 2 = ([], false, wRow []) from rfl, cond_false]
    simp [takeV]
  | w :: ws, n, out, hn, ho, hb => by
    obtain ⟨m, rfl⟩ : ∃ m, n = m + 1 := ⟨n - 1, by omega⟩
    simp only [List.length_cons] at hn hb
    cases hv : nextV (w :: ws) wPair 2 with
    | none =>
      unfold iParse_l15
      rw [show nextT (w :: ws) wPair 2 = ([], false, wRow (w :: ws)) by unfold nextT; rw [hv], cond_false, takeV_none hv]
      simp
    | some ns =>
      obtain ⟨w', ws', e, h3, -, -, ht⟩ := nextV_inv hv
      cases e
      obtain ⟨a, b, rfl⟩ := len2 (h3 (by omega))
      have ho' : okAll ws := fun x hx => ho x (by simp [hx])
      have ih := parsePairs a0 b0 k0 ws m (out ++ [toPair [a, b]]) (by omega) ho' (by simp; omega)
      have hN : sINext (wRow ws) (ByteArray.mk #[112, 97, 105, 114]) 2 = some (nextT ws wPair 2) := sINext_of ho' (by omega) wPair (by omega) (by omega)
      have hT : nextT (w :: ws) wPair 2 = (iRow [a, b], true, wRow ws) := by unfold nextT; rw [hv]; rfl
      have g0 : idx (iRow [a, b]) (0 : Int) = some [.int .i64 a] := rfl
      have g1 : idx (iRow [a, b]) (1 : Int) = some [.int .i64 b] := rfl
      have gi : ∀ z : Int, PV.asI .i64 (.int .i64 z) = some z := fun _ => rfl
      have hA : prRow out ++ [[PV.int .i64 a, PV.int .i64 b]] = prRow (out ++ [toPair [a, b]]) := by simp [prRow, toPair]
      have hcap : ((prRow out).length + 1) * 16 ≤ maxBytes := by
        rw [prRow_length]
        unfold big at hb
        unfold maxBytes
        omega
      rw [hT, ht]
      unfold iParse_l15
      simp only
      rw [cond_true]
      simp only [g0, g1, gi, Option.bind_some, List.length_singleton, if_true, List.getElem?_cons_zero, if_pos hcap, hN, hA, ih, meet_self]
      simp
theorem parseRows {R : Type} (a0 b0 c0 : List (List PV)) (k0 : List (List PV) → List (List PV) → List (List PV) → List (List PV) → List (List PV) → Option R) : ∀ (ws : List (List (List UInt8))) (n : Nat) (out : List (List Int)), ws.length < n → okAll ws → out.length + ws.length ≤ big →
    iParse_l19 n (nextT ws wRowW (-1)).1 (nextT ws wRowW (-1)).2.1 (nextT ws wRowW (-1)).2.2 a0 b0 c0 (trRow out) k0 = k0 (wRow (takeV wRowW (-1) ws).2) a0 b0 c0 (trRow (out ++ (takeV wRowW (-1) ws).1))
  | [], n, out, hn, _, _ => by
    obtain ⟨m, rfl⟩ : ∃ m, n = m + 1 := ⟨n - 1, by omega⟩
    unfold iParse_l19
    rw [show nextT [] wRowW (-1) = ([], false, wRow []) from rfl, cond_false]
    simp [takeV]
  | w :: ws, n, out, hn, ho, hb => by
    obtain ⟨m, rfl⟩ : ∃ m, n = m + 1 := ⟨n - 1, by omega⟩
    simp only [List.length_cons] at hn hb
    cases hv : nextV (w :: ws) wRowW (-1) with
    | none =>
      unfold iParse_l19
      rw [show nextT (w :: ws) wRowW (-1) = ([], false, wRow (w :: ws)) by unfold nextT; rw [hv], cond_false, takeV_none hv]
      simp
    | some ns =>
      obtain ⟨w', ws', e, -, -, -, ht⟩ := nextV_inv hv
      cases e
      have ho' : okAll ws := fun x hx => ho x (by simp [hx])
      have ih := parseRows a0 b0 c0 k0 ws m (out ++ [ns]) (by omega) ho' (by simp; omega)
      have hN : sINext (wRow ws) (ByteArray.mk #[114, 111, 119]) (-1) = some (nextT ws wRowW (-1)) := sINext_of ho' (by omega) wRowW (by omega) (by omega)
      have hT : nextT (w :: ws) wRowW (-1) = (iRow ns, true, wRow ws) := by unfold nextT; rw [hv]; rfl
      have hA : trRow out ++ [[PV.fs (iRow ns)]] = trRow (out ++ [ns]) := by simp [trRow]
      have hcap : ((trRow out).length + ([[PV.fs (iRow ns)]] : List (List PV)).length) * 24 ≤ maxBytes := by
        rw [trRow_length]
        unfold big at hb
        unfold maxBytes
        simp
        omega
      rw [hT, ht]
      unfold iParse_l19
      simp only
      rw [cond_true, if_pos hcap, hN, Option.bind_some, hA, ih]
      simp
theorem given_of {i : Inst} (h1 : ∀ c ∈ i.cars, inI c.1 = true ∧ inI c.2.1 = true ∧ inI c.2.2 = true) (h2 : ∀ c ∈ i.stops, inI c.1 = true ∧ inI c.2.1 = true ∧ inI c.2.2.1 = true ∧ inI c.2.2.2 = true)
    (h3 : ∀ c ∈ i.pairs, inI c.1 = true ∧ inI c.2 = true) (h4 : ∀ r ∈ i.travel, ∀ n ∈ r, inI n = true) (hs : smallI i = true) : Given i (carRow i.cars) (stpRow i.stops) (prRow i.pairs) (trRow i.travel) := by
  refine ⟨?_, hs⟩
  unfold unInst
  rw [unCar_row h1, unStp_row h2, unPr_row h3, unTr_row fun r hr n hn => (inI_iff n).1 (h4 r hr n hn)]
  rfl
theorem inI_getD {l : List Int} (h : ∀ n ∈ l, inI n = true) (j : Nat) : inI (l.getD j 0) = true := by
  by_cases hj : j < l.length
  · rw [List.getD_eq_getElem?_getD, List.getElem?_eq_getElem hj, Option.getD_some]
    exact h _ (List.getElem_mem hj)
  · rw [List.getD_eq_getElem?_getD, List.getElem?_eq_none (by omega), Option.getD_none]
    decide
theorem instW_given {ws : List (List (List UInt8))} (ho : okAll ws) (hl : ws.length ≤ big) : Given (instW ws).1 (carRow (instW ws).1.cars) (stpRow (instW ws).1.stops) (prRow (instW ws).1.pairs) (trRow (instW ws).1.travel) := by
  obtain ⟨a1, a2, a3⟩ := takeV_sub wCar 3 ho
  obtain ⟨b1, b2, b3⟩ := takeV_sub wStop 4 a1
  obtain ⟨c1, c2, c3⟩ := takeV_sub wPair 2 b1
  obtain ⟨d1, d2, d3⟩ := takeV_sub wRowW (-1) c1
  refine given_of ?_ ?_ ?_ ?_ ?_
  · intro c hc
    obtain ⟨l, hl, rfl⟩ := List.mem_map.1 hc
    have := (a3 l hl).2
    exact ⟨inI_getD this 0, inI_getD this 1, inI_getD this 2⟩
  · intro c hc
    obtain ⟨l, hl, rfl⟩ := List.mem_map.1 hc
    have := (b3 l hl).2
    exact ⟨inI_getD this 0, inI_getD this 1, inI_getD this 2, inI_getD this 3⟩
  · intro c hc
    obtain ⟨l, hl, rfl⟩ := List.mem_map.1 hc
    have := (c3 l hl).2
    exact ⟨inI_getD this 0, inI_getD this 1⟩
  · intro r hr
    exact (d3 r hr).2
  · have hlb : lim ≤ big := by decide
    have l1 : (instW ws).1.cars.length ≤ big := by
      show ((takeV wCar 3 ws).1.map toCar).length ≤ big
      rw [List.length_map]
      omega
    have l2 : (instW ws).1.stops.length ≤ big := by
      show ((takeV wStop 4 (takeV wCar 3 ws).2).1.map toStp).length ≤ big
      rw [List.length_map]
      omega
    have l3 : (instW ws).1.pairs.length ≤ big := by
      show ((takeV wPair 2 (takeV wStop 4 (takeV wCar 3 ws).2).2).1.map toPair).length ≤ big
      rw [List.length_map]
      omega
    have l4 : (instW ws).1.travel.length ≤ big := by
      show (takeV wRowW (-1) (takeV wPair 2 (takeV wStop 4 (takeV wCar 3 ws).2).2).2).1.length ≤ big
      omega
    have l5 : ((instW ws).1.travel.all fun r => decide (r.length ≤ big)) = true := by
      rw [List.all_eq_true]
      intro r hr
      have := (d3 r hr).1
      exact decide_eq_true (by omega)
    unfold smallI
    rw [decide_eq_true l1, decide_eq_true l2, decide_eq_true l3, decide_eq_true l4, l5]
    rfl
theorem iParse_ok : ∀ (text1 : ByteArray) (y : List (List PV) × List (List PV) × List (List PV) × List (List PV) × Int), sIParse text1 = some y → ∃ n, ∀ (R : Type) (k : List (List PV) → List (List PV) → List (List PV) → List (List PV) → Int → Option R), iParse_b n text1 k = k y.1 y.2.1 y.2.2.1 y.2.2.2.1 y.2.2.2.2 := by
  intro s y h
  unfold sIParse at h
  split at h
  case isFalse => cases h
  rename_i hs
  cases h
  have hd := size_data s
  unfold parseI
  cases hv : linesV s.data.toList with
  | none =>
    refine ⟨1, fun R k => ?_⟩
    have hL : sILines s = some ([], false) := by unfold sILines; rw [if_pos hs, hv]
    unfold iParse_b
    rw [hL]
    rfl
  | some ws =>
    obtain ⟨g1, ho⟩ := linesF_ok _ _ _ _ (by omega) hv (fun _ h => by cases h)
    rw [List.length_nil] at g1
    unfold lim at hs
    have hl : ws.length ≤ big := by unfold big; omega
    have hL : sILines s = some (wRow ws, true) := by unfold sILines; rw [if_pos (by unfold lim; omega), hv]
    obtain ⟨a1, a2, a3⟩ := takeV_sub wCar 3 ho
    obtain ⟨b1, b2, b3⟩ := takeV_sub wStop 4 a1
    obtain ⟨c1, c2, c3⟩ := takeV_sub wPair 2 b1
    obtain ⟨d1, d2, d3⟩ := takeV_sub wRowW (-1) c1
    have hg := instW_given ho hl
    refine ⟨ws.length + 1, fun R k => ?_⟩
    unfold iParse_b
    have n1 : sINext (wRow ws) (ByteArray.mk #[99, 97, 114]) 3 = some (nextT ws wCar 3) := sINext_of ho hl wCar (by omega) (by omega)
    have n2 : sINext (wRow (takeV wCar 3 ws).2) (ByteArray.mk #[115, 116, 111, 112]) 4 = some (nextT (takeV wCar 3 ws).2 wStop 4) := sINext_of a1 (by omega) wStop (by omega) (by omega)
    have n3 : sINext (wRow (takeV wStop 4 (takeV wCar 3 ws).2).2) (ByteArray.mk #[112, 97, 105, 114]) 2 = some (nextT (takeV wStop 4 (takeV wCar 3 ws).2).2 wPair 2) := sINext_of b1 (by omega) wPair (by omega) (by omega)
    have n4 : sINext (wRow (takeV wPair 2 (takeV wStop 4 (takeV wCar 3 ws).2).2).2) (ByteArray.mk #[114, 111, 119]) (-1) = some (nextT (takeV wPair 2 (takeV wStop 4 (takeV wCar 3 ws).2).2).2 wRowW (-1)) := sINext_of c1 (by omega) wRowW (by omega) (by omega)
    rw [hL, Option.bind_some]
    simp only
    rw [Bool.not_true, cond_false, n1, Option.bind_some]
    refine (parseCars _ ws (ws.length + 1) [] (by omega) ho (by simpa using hl)).trans ?_
    simp only [List.nil_append]
    rw [n2, Option.bind_some]
    refine (parseStops _ _ _ (ws.length + 1) [] (by omega) a1 (by simp only [List.length_nil]; omega)).trans ?_
    simp only [List.nil_append]
    rw [n3, Option.bind_some]
    refine (parsePairs _ _ _ _ (ws.length + 1) [] (by omega) b1 (by simp only [List.length_nil]; omega)).trans ?_
    simp only [List.nil_append]
    rw [n4, Option.bind_some]
    refine (parseRows _ _ _ _ _ (ws.length + 1) [] (by omega) c1 (by simp only [List.length_nil]; omega)).trans ?_
    simp only [List.nil_append]
    rw [wRow_length]
    have hck : iCheck_d (carRow ((takeV wCar 3 ws).1.map toCar)) (stpRow ((takeV wStop 4 (takeV wCar 3 ws).2).1.map toStp)) (prRow ((takeV wPair 2 (takeV wStop 4 (takeV wCar 3 ws).2).2).1.map toPair)) (trRow (takeV wRowW (-1) (takeV wPair 2 (takeV wStop 4 (takeV wCar 3 ws).2).2).2).1) = some (if checkI (instW ws).1 = true then 0 else 1) := iCheck_of hg
    have e2 : (instW ws).2 = (takeV wRowW (-1) (takeV wPair 2 (takeV wStop 4 (takeV wCar 3 ws).2).2).2).2 := rfl
    rw [← e2]
    by_cases he : (instW ws).2 = []
    · rw [if_neg (fun h => h he), he, show decide ((([] : List (List (List UInt8))).length : Int) > 0) = false from rfl, cond_false, hck, Option.bind_some]
      cases hc : checkI (instW ws).1 with
      | true => rw [if_pos rfl, if_pos rfl]; rfl
      | false => rw [if_neg (by simp), if_neg (by simp)]; rfl
    · have hp := List.length_pos_iff.2 he
      rw [if_pos he, decide_eq_true (by omega), cond_true]
      rfl

/-! Problems as texts. -/
def carLine (c : Car) : List UInt8 := lineN wCar [c.1, c.2.1, c.2.2]
def stopLine (s : Stp) : List UInt8 := lineN wStop [s.1, s.2.1, s.2.2.1, s.2.2.2]
def pairLine (p : Int × Int) : List UInt8 := lineN wPair [p.1, p.2]
def rowLine (r : List Int) : List UInt8 := lineN wRowW r
theorem instText_eq (i : Inst) : instText i = (i.cars.map carLine).flatten ++ (i.stops.map stopLine).flatten ++ (i.pairs.map pairLine).flatten ++ (i.travel.map rowLine).flatten := rfl
theorem lineN_len {w : List UInt8} {ns : List Int} (h : ∀ n ∈ ns, inI n = true) : (lineN w ns).length ≤ w.length + 21 * ns.length + 1 := by
  have := tailW_len h
  simp only [lineN, List.length_append, List.length_singleton]
  omega
theorem flat_len {α : Type} (f : α → List UInt8) (b : Nat) : ∀ {l : List α}, (∀ x ∈ l, (f x).length ≤ b) → ((l.map f).flatten).length ≤ b * l.length
  | [], _ => by simp
  | x :: l, h => by
    have h1 := h x (by simp)
    have h2 := flat_len f b (l := l) fun y hy => h y (by simp [hy])
    rw [List.map_cons, List.flatten_cons, List.length_append, List.length_cons, Nat.mul_succ]
    omega
theorem all3 {a b c : Int} (h1 : inI a = true) (h2 : inI b = true) (h3 : inI c = true) : ∀ n ∈ [a, b, c], inI n = true := by simp [h1, h2, h3]
theorem all4 {a b c d : Int} (h1 : inI a = true) (h2 : inI b = true) (h3 : inI c = true) (h4 : inI d = true) : ∀ n ∈ [a, b, c, d], inI n = true := by simp [h1, h2, h3, h4]
theorem all2 {a b : Int} (h1 : inI a = true) (h2 : inI b = true) : ∀ n ∈ [a, b], inI n = true := by simp [h1, h2]
theorem printCars {R : Type} {cars : List Car} (hl : cars.length ≤ big) (hi : ∀ c ∈ cars, inI c.1 = true ∧ inI c.2.1 = true ∧ inI c.2.2 = true) (a b c d : List (List PV)) (k0 : ByteArray → List (List PV) → List (List PV) → List (List PV) → List (List PV) → Option R) : ∀ (rest pre : List Car) (out : List UInt8) (n : Nat), cars = pre ++ rest → rest.length < n → out.length + ((rest.map carLine).flatten).length ≤ 140737488355328 →
    iPrint_l6 n (text out) (carRow cars) (cars.length : Int) (pre.length : Int) a b c d k0 = k0 (text (out ++ (rest.map carLine).flatten)) a b c d
  | [], pre, out, n, hw, hn, _ => by
    obtain ⟨m, rfl⟩ : ∃ m, n = m + 1 := ⟨n - 1, by omega⟩
    simp only [List.append_nil] at hw
    subst hw
    unfold iPrint_l6
    rw [decide_eq_false (by omega), cond_false]
    simp
  | x :: rest, pre, out, n, hw, hn, ho => by
    obtain ⟨m, rfl⟩ : ∃ m, n = m + 1 := ⟨n - 1, by omega⟩
    have hlen : cars.length = pre.length + (rest.length + 1) := by rw [hw]; simp
    have hx := hi x (by rw [hw]; simp)
    rw [List.map_cons, List.flatten_cons, List.length_append] at ho
    have ih := printCars hl hi a b c d k0 rest (pre ++ [x]) (out ++ carLine x) m (by rw [hw]; simp) (by simp at hn; omega) (by rw [List.length_append]; omega)
    unfold big at hl
    have hidx : idx (carRow cars) (pre.length : Int) = some [.int .i64 x.1, .int .i64 x.2.1, .int .i64 x.2.2] := by rw [hw]; exact idx_car pre x rest
    have hl3 : ([.int .i64 x.1, .int .i64 x.2.1, .int .i64 x.2.2] : List PV).length = 3 := rfl
    have hsub : subAgg [.int .i64 x.1, .int .i64 x.2.1, .int .i64 x.2.2] 0 3 = some (.agg [.int .i64 x.1, .int .i64 x.2.1, .int .i64 x.2.2]) := rfl
    have hagg : PV.isAgg (.agg [.int .i64 x.1, .int .i64 x.2.1, .int .i64 x.2.2]) 3 = true := rfl
    have c0 : (PV.cells (.agg [.int .i64 x.1, .int .i64 x.2.1, .int .i64 x.2.2]))[0]? = some (.int .i64 x.1) := rfl
    have c1 : (PV.cells (.agg [.int .i64 x.1, .int .i64 x.2.1, .int .i64 x.2.2]))[1]? = some (.int .i64 x.2.1) := rfl
    have c2 : (PV.cells (.agg [.int .i64 x.1, .int .i64 x.2.1, .int .i64 x.2.2]))[2]? = some (.int .i64 x.2.2) := rfl
    have hL : sILine (ByteArray.mk #[99, 97, 114]) [[.int .i64 x.1], [.int .i64 x.2.1], [.int .i64 x.2.2]] = some (text (carLine x)) := sILine_of (w := wCar) (ns := [x.1, x.2.1, x.2.2]) (all3 hx.1 hx.2.1 hx.2.2) (by show 3 + 21 * 3 ≤ 1000000000000; decide)
    have hk1 : IntKind.i64.wrap ((pre.length : Int) + 1) = ((pre ++ [x]).length : Int) := (wrapN (by omega) (by omega)).trans (by simp)
    unfold iPrint_l6
    rw [decide_eq_true (by omega), cond_true, hidx]
    simp only [Option.bind_some, hl3, if_true, hsub, hagg, c0, c1, c2, asI_int3, hL]
    rw [if_pos (by rw [text_size, text_size]; omega), text_append, hk1, ih]
    simp
theorem printStops {R : Type} {stops : List Stp} (hl : stops.length ≤ big) (hi : ∀ c ∈ stops, inI c.1 = true ∧ inI c.2.1 = true ∧ inI c.2.2.1 = true ∧ inI c.2.2.2 = true) (a b c d : List (List PV)) (k0 : ByteArray → List (List PV) → List (List PV) → List (List PV) → List (List PV) → Option R) : ∀ (rest pre : List Stp) (out : List UInt8) (n : Nat), stops = pre ++ rest → rest.length < n → out.length + ((rest.map stopLine).flatten).length ≤ 140737488355328 →
    iPrint_l11 n (text out) (stpRow stops) (stops.length : Int) (pre.length : Int) a b c d k0 = k0 (text (out ++ (rest.map stopLine).flatten)) a b c d
  | [], pre, out, n, hw, hn, _ => by
    obtain ⟨m, rfl⟩ : ∃ m, n = m + 1 := ⟨n - 1, by omega⟩
    simp only [List.append_nil] at hw
    subst hw
    unfold iPrint_l11
    rw [decide_eq_false (by omega), cond_false]
    simp
  | x :: rest, pre, out, n, hw, hn, ho => by
    obtain ⟨m, rfl⟩ : ∃ m, n = m + 1 := ⟨n - 1, by omega⟩
    have hlen : stops.length = pre.length + (rest.length + 1) := by rw [hw]; simp
    have hx := hi x (by rw [hw]; simp)
    rw [List.map_cons, List.flatten_cons, List.length_append] at ho
    have ih := printStops hl hi a b c d k0 rest (pre ++ [x]) (out ++ stopLine x) m (by rw [hw]; simp) (by simp at hn; omega) (by rw [List.length_append]; omega)
    unfold big at hl
    have hidx : idx (stpRow stops) (pre.length : Int) = some [.int .i64 x.1, .int .i64 x.2.1, .int .i64 x.2.2.1, .int .i64 x.2.2.2] := by rw [hw]; exact idx_stp pre x rest
    have hl3 : ([.int .i64 x.1, .int .i64 x.2.1, .int .i64 x.2.2.1, .int .i64 x.2.2.2] : List PV).length = 4 := rfl
    have hsub : subAgg [.int .i64 x.1, .int .i64 x.2.1, .int .i64 x.2.2.1, .int .i64 x.2.2.2] 0 4 = some (.agg [.int .i64 x.1, .int .i64 x.2.1, .int .i64 x.2.2.1, .int .i64 x.2.2.2]) := rfl
    have hagg : PV.isAgg (.agg [.int .i64 x.1, .int .i64 x.2.1, .int .i64 x.2.2.1, .int .i64 x.2.2.2]) 4 = true := rfl
    have c0 : (PV.cells (.agg [.int .i64 x.1, .int .i64 x.2.1, .int .i64 x.2.2.1, .int .i64 x.2.2.2]))[0]? = some (.int .i64 x.1) := rfl
    have c1 : (PV.cells (.agg [.int .i64 x.1, .int .i64 x.2.1, .int .i64 x.2.2.1, .int .i64 x.2.2.2]))[1]? = some (.int .i64 x.2.1) := rfl
    have c2 : (PV.cells (.agg [.int .i64 x.1, .int .i64 x.2.1, .int .i64 x.2.2.1, .int .i64 x.2.2.2]))[2]? = some (.int .i64 x.2.2.1) := rfl
    have c3 : (PV.cells (.agg [.int .i64 x.1, .int .i64 x.2.1, .int .i64 x.2.2.1, .int .i64 x.2.2.2]))[3]? = some (.int .i64 x.2.2.2) := rfl
    have hL : sILine (ByteArray.mk #[115, 116, 111, 112]) [[.int .i64 x.1], [.int .i64 x.2.1], [.int .i64 x.2.2.1], [.int .i64 x.2.2.2]] = some (text (stopLine x)) := sILine_of (w := wStop) (ns := [x.1, x.2.1, x.2.2.1, x.2.2.2]) (all4 hx.1 hx.2.1 hx.2.2.1 hx.2.2.2) (by show 4 + 21 * 4 ≤ 1000000000000; decide)
    have hk1 : IntKind.i64.wrap ((pre.length : Int) + 1) = ((pre ++ [x]).length : Int) := (wrapN (by omega) (by omega)).trans (by simp)
    unfold iPrint_l11
    rw [decide_eq_true (by omega), cond_true, hidx]
    simp only [Option.bind_some, hl3, if_true, hsub, hagg, c0, c1, c2, c3, asI_int3, hL]
    rw [if_pos (by rw [text_size, text_size]; omega), text_append, hk1, ih]
    simp
theorem printPairs {R : Type} {pairs : List (Int × Int)} (hl : pairs.length ≤ big) (hi : ∀ c ∈ pairs, inI c.1 = true ∧ inI c.2 = true) (a b c d : List (List PV)) (k0 : ByteArray → List (List PV) → List (List PV) → List (List PV) → List (List PV) → Option R) : ∀ (rest pre : List (Int × Int)) (out : List UInt8) (n : Nat), pairs = pre ++ rest → rest.length < n → out.length + ((rest.map pairLine).flatten).length ≤ 140737488355328 →
    iPrint_l16 n (text out) (prRow pairs) (pairs.length : Int) (pre.length : Int) a b c d k0 = k0 (text (out ++ (rest.map pairLine).flatten)) a b c d
  | [], pre, out, n, hw, hn, _ => by
    obtain ⟨m, rfl⟩ : ∃ m, n = m + 1 := ⟨n - 1, by omega⟩
    simp only [List.append_nil] at hw
    subst hw
    unfold iPrint_l16
    rw [decide_eq_false (by omega), cond_false]
    simp
  | x :: rest, pre, out, n, hw, hn, ho => by
    obtain ⟨m, rfl⟩ : ∃ m, n = m + 1 := ⟨n - 1, by omega⟩
    have hlen : pairs.length = pre.length + (rest.length + 1) := by rw [hw]; simp
    have hx := hi x (by rw [hw]; simp)
    rw [List.map_cons, List.flatten_cons, List.length_append] at ho
    have ih := printPairs hl hi a b c d k0 rest (pre ++ [x]) (out ++ pairLine x) m (by rw [hw]; simp) (by simp at hn; omega) (by rw [List.length_append]; omega)
    unfold big at hl
    have hidx : idx (prRow pairs) (pre.length : Int) = some [.int .i64 x.1, .int .i64 x.2] := by rw [hw]; exact idx_pr pre x rest
    have hl3 : ([.int .i64 x.1, .int .i64 x.2] : List PV).length = 2 := rfl
    have hsub : subAgg [.int .i64 x.1, .int .i64 x.2] 0 2 = some (.agg [.int .i64 x.1, .int .i64 x.2]) := rfl
    have hagg : PV.isAgg (.agg [.int .i64 x.1, .int .i64 x.2]) 2 = true := rfl
    have c0 : (PV.cells (.agg [.int .i64 x.1, .int .i64 x.2]))[0]? = some (.int .i64 x.1) := rfl
    have c1 : (PV.cells (.agg [.int .i64 x.1, .int .i64 x.2]))[1]? = some (.int .i64 x.2) := rfl
    have hL : sILine (ByteArray.mk #[112, 97, 105, 114]) [[.int .i64 x.1], [.int .i64 x.2]] = some (text (pairLine x)) := sILine_of (w := wPair) (ns := [x.1, x.2]) (all2 hx.1 hx.2) (by show 4 + 21 * 2 ≤ 1000000000000; decide)
    have hk1 : IntKind.i64.wrap ((pre.length : Int) + 1) = ((pre ++ [x]).length : Int) := (wrapN (by omega) (by omega)).trans (by simp)
    unfold iPrint_l16
    rw [decide_eq_true (by omega), cond_true, hidx]
    simp only [Option.bind_some, hl3, if_true, hsub, hagg, c0, c1, asI_int3, hL]
    rw [if_pos (by rw [text_size, text_size]; omega), text_append, hk1, ih]
    simp
theorem printRows {R : Type} {travel : List (List Int)} (hl : travel.length ≤ big) (hi : ∀ r ∈ travel, r.length ≤ 11 ∧ ∀ n ∈ r, inI n = true) (k0 : ByteArray → Option R) : ∀ (rest pre : List (List Int)) (out : List UInt8) (n : Nat), travel = pre ++ rest → rest.length < n → out.length + ((rest.map rowLine).flatten).length ≤ 140737488355328 →
    iPrint_l21 n (text out) (trRow travel) (travel.length : Int) (pre.length : Int) k0 = k0 (text (out ++ (rest.map rowLine).flatten))
  | [], pre, out, n, hw, hn, _ => by
    obtain ⟨m, rfl⟩ : ∃ m, n = m + 1 := ⟨n - 1, by omega⟩
    simp only [List.append_nil] at hw
    subst hw
    unfold iPrint_l21
    rw [decide_eq_false (by omega), cond_false]
    simp
  | x :: rest, pre, out, n, hw, hn, ho => by
    obtain ⟨m, rfl⟩ : ∃ m, n = m + 1 := ⟨n - 1, by omega⟩
    have hlen : travel.length = pre.length + (rest.length + 1) := by rw [hw]; simp
    obtain ⟨hx1, hx2⟩ := hi x (by rw [hw]; simp)
    rw [List.map_cons, List.flatten_cons, List.length_append] at ho
    have ih := printRows hl hi k0 rest (pre ++ [x]) (out ++ rowLine x) m (by rw [hw]; simp) (by simp at hn; omega) (by rw [List.length_append]; omega)
    unfold big at hl
    have hidx : idx (trRow travel) (pre.length : Int) = some [.fs (iRow x)] := by rw [hw]; exact idx_tr pre x rest
    have hfs : ∀ es : List (List PV), PV.asFs (.fs es) = some es := fun _ => rfl
    have hL : sILine (ByteArray.mk #[114, 111, 119]) (iRow x) = some (text (rowLine x)) := sILine_of (w := wRowW) (ns := x) hx2 (by show 3 + 21 * x.length ≤ 1000000000000; omega)
    have hk1 : IntKind.i64.wrap ((pre.length : Int) + 1) = ((pre ++ [x]).length : Int) := (wrapN (by omega) (by omega)).trans (by simp)
    unfold iPrint_l21
    rw [decide_eq_true (by omega), cond_true, hidx]
    simp only [Option.bind_some, List.length_singleton, if_true, List.getElem?_cons_zero, hfs, hL]
    rw [if_pos (by rw [text_size, text_size]; omega), text_append, hk1, ih]
    simp
theorem rowsOk_len {size : Nat} : ∀ {a : Nat} {rs : List (List Int)}, rowsOk size a rs = true → ∀ r ∈ rs, r.length = size ∧ r.all (fun t => inR t 0 1000) = true
  | _, [], _, _, h => by cases h
  | a, x :: rs, h, r, hr => by
    rw [rowsOk] at h
    simp only [Bool.and_eq_true, decide_eq_true_eq] at h
    rcases List.mem_cons.1 hr with rfl | hr
    · refine ⟨h.1, ?_⟩
      have := h.2.1
      rw [cellsOk_eq, Bool.and_eq_true] at this
      exact this.1
    · exact rowsOk_len h.2.2 r hr
theorem checkI_parts {i : Inst} (h : checkI i = true) : i.cars.length ≤ 3 ∧ i.stops.length ≤ 10 ∧ i.travel.length = i.stops.length + 1 ∧ i.cars.all carOk = true ∧ i.stops.all stpOk = true ∧ pairsOk i.stops i.pairs [] = true ∧ rowsOk i.travel.length 0 i.travel = true := by
  simp only [checkI, inR, Bool.and_eq_true, decide_eq_true_eq] at h
  obtain ⟨h1, h2, h3, h4, h5, h6, h7⟩ := h
  exact ⟨by omega, h2, h3, h4, h5, h6, h7⟩
theorem instText_len {i : Inst} {a b c d : List (List PV)} (g : Given i a b c d) (h : checkI i = true) : ((i.cars.map carLine).flatten).length ≤ 201 ∧ ((i.stops.map stopLine).flatten).length ≤ 890 ∧ ((i.pairs.map pairLine).flatten).length ≤ 47 * i.pairs.length ∧ ((i.travel.map rowLine).flatten).length ≤ 2585 := by
  obtain ⟨e1, e2, e3, e4, g1, g2, g3, g4⟩ := unInst_inv g.un
  obtain ⟨c1, c2, c3, -, -, -, c7⟩ := checkI_parts h
  have f1 := flat_len carLine 67 (l := i.cars) fun x hx => by
    have := g1 x hx
    exact lineN_len (all3 this.1 this.2.1 this.2.2)
  have f2 := flat_len stopLine 89 (l := i.stops) fun x hx => by
    have := g2 x hx
    exact lineN_len (all4 this.1 this.2.1 this.2.2.1 this.2.2.2)
  have f3 := flat_len pairLine 47 (l := i.pairs) fun x hx => by
    have := g3 x hx
    exact lineN_len (all2 this.1 this.2)
  have f4 := flat_len rowLine 235 (l := i.travel) fun x hx => by
    have := (rowsOk_len c7 x hx).1
    have h2 := lineN_len (w := wRowW) fun n hn => (inI_iff n).2 (g4 x hx n hn)
    rw [show wRowW.length = 3 from rfl] at h2
    unfold rowLine
    omega
  exact ⟨by omega, by omega, f3, by omega⟩
theorem iPrint_ok : ∀ (i1 i2 i3 i4 : List (List PV)) (y : ByteArray × Int), sIPrint i1 i2 i3 i4 = some y → ∃ n, ∀ (R : Type) (k : ByteArray → Int → Option R), iPrint_b n i1 i2 i3 i4 k = k y.1 y.2 := by
  intro i1 i2 i3 i4 y h
  unfold sIPrint at h
  obtain ⟨i, h1, h2⟩ := bind_inv h
  split at h2
  case isFalse => cases h2
  rename_i hs
  cases h2
  have g : Given i i1 i2 i3 i4 := ⟨h1, hs⟩
  have hck := iCheck_of g
  obtain ⟨e1, e2, e3, e4, g1, g2, g3, g4⟩ := unInst_inv h1
  obtain ⟨s1, s2, s3, s4, s5⟩ := smallI_parts hs
  refine ⟨i.cars.length + i.stops.length + i.pairs.length + i.travel.length + 1, fun R k => ?_⟩
  unfold iPrint_b
  rw [hck, Option.bind_some]
  cases hc : checkI i with
  | false =>
    rw [if_neg (by simp), if_neg (by simp)]
    rfl
  | true =>
    rw [if_pos rfl, if_pos rfl]
    obtain ⟨t1, t2, t3, t4⟩ := instText_len g hc
    obtain ⟨c1, c2, c3, -, -, -, c7⟩ := checkI_parts hc
    have s3' := s3
    unfold big at s3'
    rw [show (((0 : Int) != 0) : Bool) = false from rfl, cond_false, show ByteArray.mk #[] = text [] from rfl, e1, e2, e3, e4]
    simp only [carRow_length, stpRow_length, prRow_length, trRow_length]
    refine (printCars s1 g1 _ _ _ _ _ i.cars [] [] _ rfl (by omega) (by simp only [List.length_nil]; omega)).trans ?_
    simp only [stpRow_length]
    refine (printStops s2 g2 _ _ _ _ _ i.stops [] _ _ rfl (by omega) (by simp only [List.nil_append]; omega)).trans ?_
    simp only [prRow_length]
    refine (printPairs s3 g3 _ _ _ _ _ i.pairs [] _ _ rfl (by omega) (by simp only [List.nil_append, List.length_append]; omega)).trans ?_
    simp only [trRow_length]
    refine (printRows s4 (fun r hr => ⟨by have := (rowsOk_len c7 r hr).1; omega, fun n hn => (inI_iff n).2 (g4 r hr n hn)⟩) _ i.travel [] _ _ rfl (by omega) (by simp only [List.nil_append, List.length_append]; omega)).trans ?_
    rw [instText_eq, List.nil_append]
end Go.Proofs.YtkeklbicmfhemabGreatDoorV
