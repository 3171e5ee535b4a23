/- Chapter 16: answers told and read. -/
import Derived.Test.YtkeklbicmfhemabDoorD16
import Derived.Test.YtkeklbicmfhemabDoorS16
namespace Go.Proofs.YtkeklbicmfhemabDoorV
open Go
set_option maxRecDepth 20000
set_option linter.unusedSimpArgs false

/-! Rows of texts: a text's place. -/
theorem slIndexS_rounds {R : Type} {ss : List ByteArray} (hs : ss.length ≤ big) (v : ByteArray) (k0 : Int → Option R) (k1 : Unit → Option R) : ∀ (rest pre : List ByteArray) (n : Nat), ss = pre ++ rest → rest.length < n →
    slIndexS_l2 n (sRow ss) v (ss.length : Int) (pre.length : Int) k0 k1 = match rest.findIdx? (fun x => x.data.toList == v.data.toList) with | some j => k0 ((pre.length + j : Nat) : Int) | none => k1 ()
  | [], pre, n, e, hn => by
    obtain ⟨m, rfl⟩ : ∃ m, n = m + 1 := ⟨n - 1, by omega⟩
    simp only [List.append_nil] at e
    subst e
    unfold slIndexS_l2
    rw [decide_eq_false (by omega), cond_false]
    rfl
  | s :: rest, pre, n, e, hn => by
    obtain ⟨m, rfl⟩ : ∃ m, n = m + 1 := ⟨n - 1, by omega⟩
    have hlen : ss.length = pre.length + (rest.length + 1) := by rw [e]; simp
    unfold big at hs
    have hidx : idx (sRow ss) (pre.length : Int) = some [PV.str s] := by rw [e]; exact idx_sRow pre s rest
    unfold slIndexS_l2
    rw [decide_eq_true (by omega), cond_true, hidx, Option.bind_some, if_pos (show [PV.str s].length = 1 from rfl), List.getElem?_cons_zero, Option.bind_some]
    simp only [PV.asS, Option.bind_some, bytes_toList]
    have hcomm : (v.data.toList == s.data.toList) = (s.data.toList == v.data.toList) := by rw [Bool.eq_iff_iff, beq_iff_eq, beq_iff_eq]; exact eq_comm
    rw [hcomm, List.findIdx?_cons]
    cases s.data.toList == v.data.toList with
    | true => rw [cond_true]; simp
    | false =>
      rw [cond_false, wrapN (by omega) (by omega), show ((pre.length : Int) + 1) = ((pre ++ [s]).length : Int) by simp]
      rw [slIndexS_rounds (by unfold big; omega) v k0 k1 rest (pre ++ [s]) m (by rw [e]; simp) (by simp at hn; omega)]
      simp only [Bool.false_eq_true, if_false]
      cases rest.findIdx? (fun x => x.data.toList == v.data.toList) with
      | none => rfl
      | some j => simp only [Option.map_some, List.length_append, List.length_singleton]; congr 1; omega
theorem slIndexS_ok : ∀ (s1 : List (List PV)) (v2 : ByteArray) (y : Int), sSlIndexS s1 v2 = some y → ∃ n, ∀ (R : Type) (k : Int → Option R), slIndexS_b n s1 v2 k = k y := by
  intro es v y h
  unfold sSlIndexS at h
  obtain ⟨ss, h1, h2⟩ := bind_inv h
  split at h2
  case isFalse => cases h2
  rename_i hs
  cases h2
  rw [unS_inv h1]
  refine ⟨ss.length + 1, fun R k => ?_⟩
  unfold slIndexS_b
  rw [sRow_length]
  refine (slIndexS_rounds hs v k (fun _ => k (-1)) ss [] (ss.length + 1) rfl (by omega)).trans ?_
  unfold posOf
  cases ss.findIdx? (fun x => x.data.toList == v.data.toList) with
  | none => rfl
  | some j => simp
theorem slContainsS_of {ws : List (List UInt8)} (h : ws.length ≤ 1000) (v : List UInt8) : slContainsS_d (sRow (ws.map text)) (text v) = some (ws.contains v) := by
  unfold slContainsS_d slContainsS_b sSlIndexS
  rw [unS_row, Option.bind_some, if_pos (by rw [List.length_map]; unfold big; omega), Option.bind_some]
  congr 1
  unfold posOf
  cases hf : (ws.map text).findIdx? (fun x => x.data.toList == (text v).data.toList) with
  | none =>
    simp only
    rw [List.findIdx?_eq_none_iff] at hf
    have : ws.contains v = false := by
      cases hc : ws.contains v with
      | false => rfl
      | true =>
        have := hf (text v) (List.mem_map.2 ⟨v, List.contains_iff_mem.1 hc, rfl⟩)
        simp at this
    rw [this]
    rfl
  | some j =>
    simp only
    obtain ⟨hj, h1, _⟩ := List.findIdx?_eq_some_iff_getElem.1 hf
    have : ws.contains v = true := by
      rw [List.contains_iff_mem]
      rw [List.getElem_map, text_data, text_data, beq_iff_eq] at h1
      rw [← h1]
      exact List.getElem_mem _
    rw [this, decide_eq_true_eq]
    omega
/-! What is told. -/
theorem sayWords_ok : sayWords_d = some (sRow (errWords.map text)) := by kernel_rfl
theorem err_at {j : Nat} (h : j < 16) : (sRow (errWords.map text))[j]? = some [PV.str (text (errWords.getD j []))] := by
  have hl : j < errWords.length := h
  rw [sRow, List.map_map, List.getElem?_map, List.getElem?_eq_getElem hl, List.getD_eq_getElem?_getD, List.getElem?_eq_getElem hl]
  rfl
theorem errWords_short : ∀ w ∈ errWords, w.length ≤ 10 ∧ w ≠ [] ∧ ∀ b ∈ w, b ≠ 32 := by decide
theorem err_get {j : Nat} (h : j < 16) : errWords.getD j [] ∈ errWords := by
  have hl : j < errWords.length := h
  rw [List.getD_eq_getElem?_getD, List.getElem?_eq_getElem hl]
  exact List.getElem_mem hl
theorem sayNo_ok {e : Int} (h : inI e = true) : sayNo_d e = some (text (noW e)) := by
  have hr := (inI_iff e).1 h
  unfold sayNo_d sayNo_b noW
  rw [sayWords_ok, Option.bind_some]
  have hl : ((sRow (errWords.map text)).length : Int) = 16 := rfl
  rw [hl]
  by_cases h1 : e < 1
  · rw [decide_eq_true h1, cond_true, if_neg (by omega)]
    rfl
  by_cases h2 : e > 16
  · rw [decide_eq_false h1, cond_false, decide_eq_true h2, cond_true, if_neg (by omega)]
    rfl
  rw [decide_eq_false h1, cond_false, decide_eq_false h2, cond_false, wrapN (by omega) (by omega), if_pos (by omega), err_at (by omega), Option.bind_some, if_pos (by omega)]
  have hw := errWords_short _ (err_get (j := (e - 1).toNat) (by omega))
  generalize errWords.getD (e - 1).toNat [] = w at hw
  simp only [List.getElem?_cons_zero, Option.bind_some, PV.asS]
  rw [show ByteArray.mk #[110, 111, 32] = text [110, 111, 32] from rfl, if_pos (by rw [text_size, text_size]; simp; omega), text_append]
  rfl
theorem sayList_rounds {R : Type} {ns : List Int} (hi : ∀ n ∈ ns, inI n = true) (hl : ns.length ≤ 1000000000000) (k0 : ByteArray → Option R) : ∀ (rest pre : List Int) (out : List UInt8) (n : Nat), ns = pre ++ rest → rest.length < n → out.length + 21 * rest.length ≤ 1000000000000 →
    sayList_l2 n (text out) (iRow ns) (ns.length : Int) (pre.length : Int) k0 = k0 (text (out ++ tailW rest))
  | [], pre, out, n, e, hn, ho => by
    obtain ⟨m, rfl⟩ : ∃ m, n = m + 1 := ⟨n - 1, by omega⟩
    simp only [List.append_nil] at e
    subst e
    unfold sayList_l2
    rw [decide_eq_false (by omega), cond_false]
    simp [tailW]
  | v :: rest, pre, out, n, e, hn, ho => by
    obtain ⟨m, rfl⟩ : ∃ m, n = m + 1 := ⟨n - 1, by omega⟩
    have hlen : ns.length = pre.length + (rest.length + 1) := by rw [e]; simp
    have hv : inI v = true := hi v (by rw [e]; simp)
    have hd := dig_length hv
    simp only [List.length_cons] at ho hn
    have hidx : idx (iRow ns) (pre.length : Int) = some [PV.int .i64 v] := by rw [e]; exact idx_iRow pre v rest
    unfold sayList_l2
    rw [decide_eq_true (by omega), cond_true, hidx, Option.bind_some, if_pos (show [PV.int .i64 v].length = 1 from rfl), List.getElem?_cons_zero, Option.bind_some]
    simp only [PV.asI, if_true, Option.bind_some]
    rw [show ByteArray.mk #[32] = text [32] from rfl, if_pos (by rw [text_size, text_size]; simp; omega), digits_ok hv, Option.bind_some, text_append, if_pos (by rw [text_size, text_size]; simp; omega), text_append, wrapN (by omega) (by omega), show ((pre.length : Int) + 1) = ((pre ++ [v]).length : Int) by simp]
    rw [sayList_rounds hi hl k0 rest (pre ++ [v]) _ m (by rw [e]; simp) (by omega) (by simp; omega)]
    congr 2
    simp [tailW]
theorem sayList_ok : ∀ (word1 : ByteArray) (n2 : List (List PV)) (y : ByteArray), sSayList word1 n2 = some y → ∃ n, ∀ (R : Type) (k : ByteArray → Option R), sayList_b n word1 n2 k = k y := by
  intro w es y h
  unfold sSayList at h
  obtain ⟨ns, h1, h2⟩ := bind_inv h
  split at h2
  case isFalse => cases h2
  rename_i hs
  cases h2
  obtain ⟨rfl, hz⟩ := unI_inv h1
  refine ⟨ns.length + 1, fun R k => ?_⟩
  unfold sayList_b
  rw [iRow_length]
  have := sayList_rounds (R := R) (fun n hn => (inI_iff n).2 (hz n hn)) (by omega) k ns [] w.data.toList (ns.length + 1) rfl (by omega) (by rw [size_data]; omega)
  rw [text_of] at this
  exact this
theorem sSayList_of {w : List UInt8} {ns : List Int} (hi : ∀ n ∈ ns, inI n = true) (h : w.length + 21 * ns.length ≤ 1000000000000) : sSayList (text w) (iRow ns) = some (text (w ++ tailW ns)) := by
  unfold sSayList
  rw [unI_row fun n hn => (inI_iff n).1 (hi n hn), Option.bind_some, text_size, if_pos h, text_data]
theorem wakes16_ok : wakes16_d = some true := by
  unfold wakes16_d wakes16_b sayOk_d sayOk_b
  have e1 : sSayList (ByteArray.mk #[111, 107]) [] = some (text [111, 107]) := sSayList_of (w := [111, 107]) (ns := []) (by simp) (by simp)
  rw [e1, Option.bind_some, Option.bind_some, show ByteArray.mk #[111, 107] = text [111, 107] from rfl, text_toList, beq_list, decide_eq_true rfl, cond_true, sayNo_ok (by decide), Option.bind_some]
  rw [show noW 16 = [110, 111, 32, 98, 117, 115, 121] from rfl, show ByteArray.mk #[110, 111, 32, 98, 117, 115, 121] = text [110, 111, 32, 98, 117, 115, 121] from rfl, text_toList, beq_list, decide_eq_true rfl]

/-! What is read. -/
theorem sameI_rounds {R : Type} {a b : List Int} (ha : a.length ≤ big) (k0 : Bool → Option R) (k1 : Unit → Option R) : ∀ (ra rb pa pb : List Int) (n : Nat), a = pa ++ ra → b = pb ++ rb → pa.length = pb.length → ra.length = rb.length → ra.length < n →
    sameI_l4 n (iRow a) (iRow b) (pa.length : Int) k0 k1 = if ra = rb then k1 () else k0 false
  | [], rb, pa, pb, n, ea, eb, hp, hr, hn => by
    obtain ⟨m, rfl⟩ : ∃ m, n = m + 1 := ⟨n - 1, by omega⟩
    have : rb = [] := List.eq_nil_of_length_eq_zero (by simpa using hr.symm)
    subst this
    simp only [List.append_nil] at ea
    subst ea
    unfold sameI_l4
    rw [iRow_length, decide_eq_false (by omega), cond_false, if_pos rfl]
  | x :: ra, [], pa, pb, n, ea, eb, hp, hr, hn => by simp at hr
  | x :: ra, z :: rb, pa, pb, n, ea, eb, hp, hr, hn => by
    obtain ⟨m, rfl⟩ : ∃ m, n = m + 1 := ⟨n - 1, by omega⟩
    have hlen : a.length = pa.length + (ra.length + 1) := by rw [ea]; simp
    unfold big at ha
    have ix : idx (iRow a) (pa.length : Int) = some [PV.int .i64 x] := by rw [ea]; exact idx_iRow pa x ra
    have iz : idx (iRow b) (pa.length : Int) = some [PV.int .i64 z] := by rw [eb, hp]; exact idx_iRow pb z rb
    unfold sameI_l4
    rw [iRow_length, decide_eq_true (by omega), cond_true, ix, Option.bind_some, if_pos (show [PV.int .i64 x].length = 1 from rfl), List.getElem?_cons_zero, Option.bind_some]
    simp only [PV.asI, if_true, Option.bind_some, iz]
    rw [if_pos (show [PV.int .i64 z].length = 1 from rfl), List.getElem?_cons_zero, Option.bind_some]
    simp only [PV.asI, if_true, Option.bind_some]
    by_cases hxz : x = z
    · subst hxz
      rw [show (x != x) = false by simp, cond_false, wrapN (by omega) (by omega), show ((pa.length : Int) + 1) = ((pa ++ [x]).length : Int) by simp]
      rw [sameI_rounds (by unfold big; omega) k0 k1 ra rb (pa ++ [x]) (pb ++ [x]) m (by rw [ea]; simp) (by rw [eb]; simp) (by simp [hp]) (by simpa using hr) (by simp at hn; omega)]
      simp
    · rw [show (x != z) = true by simp [hxz], cond_true, if_neg (by simp [hxz])]
theorem sameI_ok : ∀ (a1 b2 : List (List PV)) (y : Bool), sSameI a1 b2 = some y → ∃ n, ∀ (R : Type) (k : Bool → Option R), sameI_b n a1 b2 k = k y := by
  intro a1 b2 y h
  unfold sSameI at h
  obtain ⟨a, h1, h2⟩ := bind_inv h
  obtain ⟨b, h3, h4⟩ := bind_inv h2
  split at h4
  case isFalse => cases h4
  rename_i hs
  cases h4
  obtain ⟨rfl, _⟩ := unI_inv h1
  obtain ⟨rfl, _⟩ := unI_inv h3
  refine ⟨a.length + 1, fun R k => ?_⟩
  unfold sameI_b
  rw [iRow_length, iRow_length]
  by_cases hl : a.length = b.length
  · rw [show (((a.length : Int) != (b.length : Int)) : Bool) = false by simp [hl], cond_false]
    refine (sameI_rounds hs k (fun _ => k true) a b [] [] (a.length + 1) rfl rfl rfl hl (by omega)).trans ?_
    by_cases e : a = b
    · rw [if_pos e, decide_eq_true e]
    · rw [if_neg e, decide_eq_false e]
  · rw [show (((a.length : Int) != (b.length : Int)) : Bool) = true by simp; omega, cond_true, decide_eq_false (fun e => hl (by rw [e]))]
theorem sSameI_of {a b : List Int} (ha : ∀ n ∈ a, inI n = true) (hb : ∀ n ∈ b, inI n = true) (hl : a.length ≤ big) : sSameI (iRow a) (iRow b) = some (decide (a = b)) := by
  unfold sSameI
  rw [unI_row fun n hn => (inI_iff n).1 (ha n hn), Option.bind_some, unI_row fun n hn => (inI_iff n).1 (hb n hn), Option.bind_some, if_pos hl]
theorem read_rounds16 {R : Type} {w : List UInt8} {ws : List (List UInt8)} (hl : ws.length ≤ lim) (hs : ∀ x ∈ ws, x.length ≤ lim) (k0 : ByteArray → Int → Option R) (k1 : List (List PV) → List (List PV) → Option R) : ∀ (rest pre : List (List UInt8)) (out : List Int) (n : Nat), ws = pre ++ rest → out.length = pre.length → rest.length < n →
    sayRead_l9 n 1 ws.length (ws.length : Int) (pre.length : Int) (iRow out) (sRow ((w :: ws).map text)) k0 k1 = match numsV rest with | some ns => k1 (iRow (out ++ ns)) (sRow ((w :: ws).map text)) | none => k0 (text []) 2
  | [], pre, out, n, e, ho, hn => by
    obtain ⟨m, rfl⟩ : ∃ m, n = m + 1 := ⟨n - 1, by omega⟩
    simp only [List.append_nil] at e
    subst e
    unfold sayRead_l9
    rw [decide_eq_false (by omega), cond_false]
    simp [numsV]
  | x :: rest, pre, out, n, e, ho, hn => by
    obtain ⟨m, rfl⟩ : ∃ m, n = m + 1 := ⟨n - 1, by omega⟩
    have hlen : ws.length = pre.length + (rest.length + 1) := by rw [e]; simp
    unfold lim at hl
    have hget : (sRow ((w :: ws).map text))[1 + Int.toNat (pre.length : Int)]? = some [PV.str (text x)] := by
      rw [Int.toNat_natCast, Nat.add_comm, sRow, List.map_map, List.map_cons, List.getElem?_cons_succ, e, List.map_append, List.map_cons, List.getElem?_append_right (by simp)]
      simp
    unfold sayRead_l9
    rw [decide_eq_true (by omega), cond_true, if_pos (by omega), hget, Option.bind_some, List.getElem?_cons_zero, Option.bind_some]
    simp only [PV.asS, Option.bind_some]
    rw [sInt_ok (hs x (by rw [e]; simp)), Option.bind_some, numsV]
    cases hv : (intV x).2 with
    | false => rw [Bool.not_false, cond_true, if_neg (by simp)]; rfl
    | true =>
      rw [Bool.not_true, cond_false, if_pos rfl, if_pos (by rw [iRow_length]; simp; unfold maxBytes; omega), wrapN (by omega) (by omega), show ((pre.length : Int) + 1) = ((pre ++ [x]).length : Int) by simp]
      have e2 : iRow out ++ [[PV.int .i64 (intV x).1]] = iRow (out ++ [(intV x).1]) := by simp [iRow]
      rw [e2, read_rounds16 (by unfold lim; omega) hs k0 k1 rest (pre ++ [x]) (out ++ [(intV x).1]) m (by rw [e]; simp) (by simp [ho]) (by simp at hn; omega)]
      cases numsV rest with
      | none => rfl
      | some ns => simp
theorem read_no {R : Type} (n : Nat) (l : List UInt8) {ws : List (List UInt8)} (hl : ws.length ≤ lim) (k0 : ByteArray → Int → Option R) (k1 : ByteArray → Int → List (List PV) → Option R) :
    sayRead_q5 n (text l) (sRow (([110, 111] :: ws).map text)) k0 k1 = match (match ws with | [x] => if (errWords ++ [errNone]).contains x = true then some l else none | _ => none) with | some l => k0 (text l) 0 | none => k0 (text []) 2 := by
  unfold lim at hl
  have hlen : ((sRow (([110, 111] :: ws).map text)).length : Int) = (ws.length : Int) + 1 := by simp [sRow]
  have h0 : (sRow (([110, 111] :: ws).map text))[0]? = some [PV.str (text [110, 111])] := rfl
  unfold sayRead_q5
  rw [hlen, if_pos (by omega), h0, Option.bind_some, List.getElem?_cons_zero, Option.bind_some]
  simp only [PV.asS, Option.bind_some]
  rw [show ByteArray.mk #[110, 111] = text [110, 111] from rfl, text_toList, beq_list, decide_eq_true rfl, cond_true]
  have q7t : ∀ k1 : ByteArray → Option R, sayRead_q7 n (text l) true k0 k1 = k0 (text []) 2 := fun k1 => rfl
  have q7 : ∀ b : Bool, sayRead_q7 n (text l) (!b) k0 (fun s => k0 s 0) = if b = true then k0 (text l) 0 else k0 (text []) 2 := by intro b; cases b <;> rfl
  match ws with
  | [] =>
    rw [show ((((([] : List (List UInt8)).length : Int) + 1) != 2) : Bool) = true from rfl, cond_true]
    simp only [q7t, meet_self]
  | x :: z :: ws =>
    have e : (((((x :: z :: ws).length : Int) + 1) != 2) : Bool) = true := by simp; omega
    rw [e, cond_true]
    simp only [q7t, meet_self]
  | [x] =>
    rw [show (((([x] : List (List UInt8)).length : Int) + 1 != 2) : Bool) = false from rfl, cond_false]
    have h1 : (sRow (([110, 111] :: [x]).map text))[1]? = some [PV.str (text x)] := rfl
    have e16 : sRow (errWords.map text) ++ [[PV.str (ByteArray.mk #[119, 104, 97, 116])]] = sRow ((errWords ++ [errNone]).map text) := rfl
    have hm : ((sRow (errWords.map text)).length + ([[PV.str (ByteArray.mk #[119, 104, 97, 116])]] : List (List PV)).length) * 16 ≤ maxBytes := by
      rw [show (sRow (errWords.map text)).length = 16 from rfl]
      unfold maxBytes
      decide
    rw [if_pos (by simp)]
    simp only [sayWords_ok, Option.bind_some, h1, List.getElem?_cons_zero, PV.asS, hm, if_true, e16, slContainsS_of (ws := errWords ++ [errNone]) (by decide) x, q7, meet_self]
    cases (errWords ++ [errNone]).contains x with
    | true => rw [if_pos rfl, if_pos rfl]
    | false => rw [if_neg (by simp), if_neg (by simp)]
theorem read_yes {R : Type} (l : List UInt8) {w : List UInt8} {ws : List (List UInt8)} (hno : ¬ w = [110, 111]) (hl : ws.length ≤ lim) (hword : ∀ x ∈ w :: ws, x.length ≤ lim) (k0 : ByteArray → Int → Option R) (k1 : ByteArray → Int → List (List PV) → Option R) :
    sayRead_q5 ((w :: ws).length + 1) (text l) (sRow ((w :: ws).map text)) k0 k1 = match numsV ws with | some ns => k1 (text w) 0 (iRow ns) | none => k0 (text []) 2 := by
  unfold lim at hl
  unfold sayRead_q5
  have hlen : ((sRow ((w :: ws).map text)).length : Int) = (ws.length : Int) + 1 := by simp [sRow]
  have h0 : (sRow ((w :: ws).map text))[0]? = some [PV.str (text w)] := rfl
  rw [hlen, if_pos (by omega), h0, Option.bind_some, List.getElem?_cons_zero, Option.bind_some]
  simp only [PV.asS, Option.bind_some]
  rw [show ByteArray.mk #[110, 111] = text [110, 111] from rfl, text_toList, text_toList, beq_list, decide_eq_false hno, cond_false, if_pos (by simp; omega), show Int.toNat ((ws.length : Int) + 1 - 1) = ws.length by omega]
  have := fun k2 => read_rounds16 (R := R) (w := w) (ws := ws) (by unfold lim; omega) (fun x hx => hword x (by simp [hx])) k0 k2 ws [] [] ((w :: ws).length + 1) rfl rfl (by simp; omega)
  simp only [List.length_nil, iRow, List.map_nil, List.nil_append] at this
  refine (this _).trans ?_
  cases numsV ws with
  | none => rfl
  | some ns =>
    simp only
    rw [hlen, if_pos (by omega), h0, Option.bind_some, List.getElem?_cons_zero, Option.bind_some]
    rfl
theorem sayRead_ok : ∀ (s1 : ByteArray) (y : ByteArray × List (List PV) × Int), sSayRead s1 = some y → ∃ n, ∀ (R : Type) (k : ByteArray → List (List PV) → Int → Option R), sayRead_b n s1 k = k y.1 y.2.1 y.2.2 := by
  intro s y h
  unfold sSayRead at h
  split at h
  case isFalse => cases h
  rename_i hs
  cases h
  have hwl := words_length s.data.toList
  have hroom := words_room s.data.toList
  rw [size_data] at hwl hroom
  refine ⟨(words s.data.toList).length + 1, fun R k => ?_⟩
  unfold lim at hs
  unfold sayRead_b readL
  have e1 : sWords s = some (sRow ((words s.data.toList).map text)) := if_pos (by unfold lim; omega)
  rw [e1, Option.bind_some]
  have hword : ∀ x ∈ words s.data.toList, x.length ≤ lim := fun x hx => by
    have := (words_mem hx).2.2
    rw [size_data] at this
    unfold lim
    omega
  cases hW : words s.data.toList with
  | nil => rfl
  | cons w ws =>
    rw [hW] at hwl hroom hword
    simp only [List.length_cons] at hwl
    have e2 : (((sRow ((w :: ws).map text)).length : Int) == 0) = false := by simp [sRow]; omega
    rw [e2, cond_false]
    have hj : sJoin (sRow ((w :: ws).map text)) (ByteArray.mk #[32]) = some (text (joinB (w :: ws))) := by
      have hmap : ((w :: ws).map text).map (fun s : ByteArray => s.data.toList) = w :: ws := by
        rw [List.map_map, show ((fun w : ByteArray => w.data.toList) ∘ text) = id from funext fun l => text_data l, List.map_id]
      have hjl := (joinB_len (w :: ws)).resolve_right (by simp)
      unfold sJoin
      rw [unS_row, Option.bind_some, hmap, show (ByteArray.mk #[32]).data.toList = [32] from rfl, join_blank, if_pos ⟨by simp; omega, by omega⟩]
    rw [hj, Option.bind_some, text_toList, bytes_toList, beq_list]
    simp only
    by_cases hc : joinB (w :: ws) = s.data.toList
    · rw [decide_eq_true hc, Bool.not_true, if_pos hc]
      unfold sayRead_q4
      rw [cond_false]
      by_cases hno : w = [110, 111]
      · subst hno
        have := read_no (R := R) ((([110, 111] : List UInt8) :: ws).length + 1) s.data.toList (ws := ws) (by unfold lim; omega) (fun word e => k word [] e) (fun word e es => k word es e)
        rw [text_of] at this
        rw [if_pos rfl]
        refine this.trans ?_
        rcases ws with _ | ⟨x, _ | ⟨z, ws⟩⟩
        · rfl
        · simp only
          cases (errWords ++ [errNone]).contains x with
          | true => rw [if_pos rfl, if_pos rfl]; rfl
          | false => rw [if_neg (by simp), if_neg (by simp)]
        · rfl
      · rw [if_neg hno]
        refine (read_yes (R := R) s.data.toList hno (by unfold lim; omega) hword (fun word e => k word [] e) (fun word e es => k word es e)).trans ?_
        cases numsV ws with
        | none => rfl
        | some ns => rfl
    · rw [decide_eq_false hc, Bool.not_false, if_neg hc]
      rfl
theorem sayRead_no : ∀ (s1 : ByteArray) (y : ByteArray × List (List PV) × Int), sSayRead s1 = some y → (noMem (sayRead_E y).1 && noMemL (sayRead_E y).2) = true := by
  intro s y h
  unfold sSayRead at h
  split at h
  case isFalse => cases h
  cases h
  have hi : ∀ l : List Int, noMemEs (iRow l) = true := by
    intro l
    induction l with
    | nil => rfl
    | cons n l ih => simp only [iRow, List.map_cons, noMemEs, noMemL, noMem, Bool.and_self, Bool.true_and] at ih ⊢; exact ih
  cases readL s.data.toList with
  | none => rfl
  | some x => simp [sayRead_E, noMem, noMemL, hi]
end Go.Proofs.YtkeklbicmfhemabDoorV
