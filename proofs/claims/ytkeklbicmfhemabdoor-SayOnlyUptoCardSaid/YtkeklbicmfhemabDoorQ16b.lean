/- Chapter 16: the laws. -/
import Derived.Test.YtkeklbicmfhemabDoorQ16
import Derived.Test.YtkeklbicmfhemabDoorD16b
namespace Go.Proofs.YtkeklbicmfhemabDoorV
open Go
set_option maxRecDepth 20000
set_option linter.unusedSimpArgs false

theorem numsV_dig : ∀ {ns : List Int}, (∀ n ∈ ns, inI n = true) → numsV (ns.map dig) = if ns.all small18 = true then some ns else none
  | [], _ => rfl
  | n :: ns, h => by
    rw [List.map_cons, numsV, intV_dig (h n (by simp)), numsV_dig fun m hm => h m (by simp [hm]), List.all_cons]
    cases small18 n with
    | false => simp
    | true => cases ns.all small18 <;> simp
theorem numsV_inv : ∀ {ws : List (List UInt8)} {ns : List Int}, numsV ws = some ns → ws = ns.map dig ∧ ∀ n ∈ ns, inI n = true
  | [], ns, h => by cases h; exact ⟨rfl, by simp⟩
  | w :: ws, ns, h => by
    rw [numsV] at h
    split at h
    case isFalse => cases h
    rename_i hv
    obtain ⟨ms, h1, h2⟩ := bind_inv h
    cases h2
    obtain ⟨e, hi⟩ := numsV_inv h1
    unfold intV at hv ⊢
    cases hw : intOf w with
    | none => rw [hw] at hv; cases hv
    | some n =>
      obtain ⟨d1, d2⟩ := dig_intOf hw
      refine ⟨by rw [List.map_cons, d1, ← e], fun m hm => ?_⟩
      rcases List.mem_cons.1 hm with rfl | hm
      · exact small18_inI d2
      · exact hi m hm
/-- A word and numbers, read. -/
theorem readL_list {w : List UInt8} {ns : List Int} (h0 : w ≠ []) (h1 : ∀ b ∈ w, b ≠ 32) (h2 : w ≠ [110, 111]) (hi : ∀ n ∈ ns, inI n = true) : readL (w ++ tailW ns) = if ns.all small18 = true then some (w, ns) else none := by
  unfold readL
  rw [words_line h0 h1 hi]
  simp only
  rw [joinB_digs, if_pos rfl, if_neg h2, numsV_dig hi]
  cases ns.all small18 <;> rfl
/-- What is read is what its word and numbers make; or an error. -/
theorem readL_inv {l : List UInt8} {v : List UInt8} {ns : List Int} (h : readL l = some (v, ns)) : (∀ n ∈ ns, inI n = true) ∧ ((ns = [] ∧ v = l ∧ 4 ≤ l.length ∧ l.take 3 = [110, 111, 32]) ∨ v ++ tailW ns = l) := by
  unfold readL at h
  cases hW : words l with
  | nil => rw [hW] at h; cases h
  | cons w ws =>
    rw [hW] at h
    simp only at h
    split at h
    case isFalse => cases h
    rename_i hj
    split at h
    · rename_i hw
      subst hw
      rcases ws with _ | ⟨x, _ | ⟨z, ws⟩⟩
      · cases h
      · simp only at h
        split at h
        · cases h
          refine ⟨by simp, .inl ⟨rfl, rfl, ?_⟩⟩
          have hx := words_mem (l := l) (w := x) (by rw [hW]; simp)
          have hl : l = 110 :: 111 :: 32 :: x := by rw [← hj]; simp [joinB]
          rw [hl]
          cases x with
          | nil => exact absurd rfl hx.1
          | cons b x => exact ⟨by simp, rfl⟩
        · cases h
      · cases h
    · obtain ⟨ms, h1, h2⟩ := bind_inv h
      cases h2
      obtain ⟨e, hi⟩ := numsV_inv h1
      refine ⟨hi, .inr ?_⟩
      rw [← joinB_digs, ← e, hj]
theorem sSayRead_text {l : List UInt8} (h : l.length ≤ lim) : sSayRead (text l) = some (match readL l with | some x => (text x.1, iRow x.2, 0) | none => (text [], [], 2)) := by
  unfold sSayRead
  rw [text_size, if_pos h, text_data]
  rfl
theorem readL_words {l m : List UInt8} (h : words l = words m) (hm : (readL m).isSome = true) (hne : l.length ≠ m.length) : readL l = none := by
  unfold readL at hm ⊢
  rw [h]
  cases hW : words m with
  | nil => rfl
  | cons w ws =>
    rw [hW] at hm
    simp only at hm ⊢
    split at hm
    · rename_i hj
      rw [if_neg (fun e => hne (by rw [← e, hj]))]
    · cases hm

/-! By hand. -/
def formsW : List (List UInt8) := errNone :: errWords ++ [errNone]
theorem formsW_ok : ∀ j : Fin 18, noW (j.val : Int) = 110 :: 111 :: 32 :: formsW.getD j.val [] := by decide
theorem formsW_short : ∀ w ∈ formsW, w.length ≤ 10 := by decide
def badSays : List (List UInt8) := [[], [32], [111, 107, 32], [32, 111, 107], [111, 107, 32, 32, 49], [111, 107, 32, 48, 49], [111, 107, 32, 97], [111, 107, 32, 49, 32, 120], [110, 111], [110, 111, 32, 102, 105, 116, 32, 49], [110, 111, 32, 51], [110, 111, 32, 116, 104, 105, 110, 103], [110, 111, 32, 32, 102, 105, 116], [110, 111, 32, 70, 105, 116], [111, 107, 32, 49, 48, 48, 48, 48, 48, 48, 48, 48, 48, 48, 48, 48, 48, 48, 48, 48, 48, 48]]
theorem badSays_ok : badSays.all (fun l => (readL l).isNone && decide (l.length ≤ 100)) = true := by kernel_rfl
theorem sayForms_rounds {R : Type} (n1 : Int) (k0 : Bool → Option R) (k1 : Int → Option R) : ∀ (f j n : Nat), j + f = 18 → f < n → sayForms_l3 n n1 18 (j : Int) (sRow (formsW.map text)) k0 k1 = k1 n1
  | 0, j, n, e, hn => by
    obtain ⟨m, rfl⟩ : ∃ m, n = m + 1 := ⟨n - 1, by omega⟩
    unfold sayForms_l3
    rw [decide_eq_false (by omega), cond_false]
  | f + 1, j, n, e, hn => by
    obtain ⟨m, rfl⟩ : ∃ m, n = m + 1 := ⟨n - 1, by omega⟩
    have hl : j < formsW.length := by show j < 18; omega
    have hget : (sRow (formsW.map text))[Int.toNat (j : Int)]? = some [PV.str (text (formsW.getD j []))] := by
      rw [Int.toNat_natCast, sRow, List.map_map, List.getElem?_map, List.getElem?_eq_getElem hl, List.getD_eq_getElem?_getD, List.getElem?_eq_getElem hl]
      rfl
    have hw : (formsW.getD j []).length ≤ 10 := by
      rw [List.getD_eq_getElem?_getD, List.getElem?_eq_getElem hl]
      exact formsW_short _ (List.getElem_mem hl)
    have hno := formsW_ok ⟨j, by omega⟩
    simp only at hno
    generalize formsW.getD j [] = w at hget hw hno
    unfold sayForms_l3
    rw [decide_eq_true (by omega), cond_true, show ((sRow (formsW.map text)).length : Int) = 18 from rfl, if_pos (by omega), hget, Option.bind_some, List.getElem?_cons_zero, Option.bind_some]
    simp only [PV.asS, Option.bind_some]
    rw [sayNo_ok ((inI_iff _).2 (by omega)), Option.bind_some, show ByteArray.mk #[110, 111, 32] = text [110, 111, 32] from rfl, if_pos (by rw [text_size, text_size]; simp; omega), text_append, text_toList, text_toList, beq_list, hno, show [110, 111, 32] ++ w = 110 :: 111 :: 32 :: w from rfl, decide_eq_true rfl, Bool.not_true, cond_false, wrapN (by omega) (by omega)]
    have ih := sayForms_rounds n1 k0 k1 f (j + 1) m (by omega) (by omega)
    rw [show ((j + 1 : Nat) : Int) = (j : Int) + 1 by omega] at ih
    exact ih
theorem bind_at {α β : Type} {o o' : Option α} (h : o = o') (f : α → Option β) : Option.bind o f = Option.bind o' f := by rw [h]
theorem sayForms_ok : ∀ (n1 : Int) (y : Bool), sSayForms n1 = some y → ∃ n, ∀ (R : Type) (k : Bool → Option R), sayForms_b n n1 k = k y := by
  intro n1 y h
  unfold sSayForms at h
  split at h
  case isFalse => cases h
  cases h
  refine ⟨100, fun R k => ?_⟩
  unfold sayForms_b
  refine (sayForms_rounds n1 k _ 18 0 100 rfl (by omega)).trans ?_
  rw [sayNo_ok (by decide), Option.bind_some, sayNo_ok (by decide), Option.bind_some]
  rw [show noW (-1) = [110, 111, 32, 119, 104, 97, 116] from rfl, show noW 1099511627776 = [110, 111, 32, 119, 104, 97, 116] from rfl]
  simp only [show ByteArray.mk #[110, 111, 32, 119, 104, 97, 116] = text [110, 111, 32, 119, 104, 97, 116] from rfl, text_toList, beq_self_eq_true, Bool.not_true, cond_false]
  unfold sayOk_d sayOk_b
  have e1 : sSayList (ByteArray.mk #[111, 107]) [[(PV.int .i64 1)], [(PV.int .i64 (-2))], [(PV.int .i64 0)]] = some (text [111, 107, 32, 49, 32, 45, 50, 32, 48]) := (sSayList_of (w := [111, 107]) (ns := [1, -2, 0]) (by decide) (by decide)).trans (by kernel_rfl)
  have e2 : sSayList (ByteArray.mk #[112, 111, 111, 108]) [] = some (text [112, 111, 111, 108]) := (sSayList_of (w := [112, 111, 111, 108]) (ns := []) (by decide) (by decide)).trans (by kernel_rfl)
  have e3 : sSayList (ByteArray.mk #[114, 111, 117, 116, 101]) [[(PV.int .i64 3)]] = some (text [114, 111, 117, 116, 101, 32, 51]) := (sSayList_of (w := [114, 111, 117, 116, 101]) (ns := [3]) (by decide) (by decide)).trans (by kernel_rfl)
  have e4 : sSayRead (ByteArray.mk #[111, 107, 32, 49, 32, 45, 50, 32, 48]) = some (text [111, 107], iRow [1, -2, 0], 0) := (sSayRead_text (l := [111, 107, 32, 49, 32, 45, 50, 32, 48]) (by decide)).trans (by kernel_rfl)
  have e5 : sSayRead (ByteArray.mk #[110, 111, 32, 99, 111, 110, 102, 108, 105, 99, 116]) = some (text [110, 111, 32, 99, 111, 110, 102, 108, 105, 99, 116], [], 0) := (sSayRead_text (l := [110, 111, 32, 99, 111, 110, 102, 108, 105, 99, 116]) (by decide)).trans (by kernel_rfl)
  have e6 : sSameI (iRow [1, -2, 0]) [[(PV.int .i64 1)], [(PV.int .i64 (-2))], [(PV.int .i64 0)]] = some true := (sSameI_of (a := [1, -2, 0]) (b := [1, -2, 0]) (by decide) (by decide) (by decide)).trans (by rw [decide_eq_true rfl])
  simp only [e1, e2, e3, e4, e5, e6, Option.bind_some]
  simp only [show ByteArray.mk #[111, 107, 32, 49, 32, 45, 50, 32, 48] = text [111, 107, 32, 49, 32, 45, 50, 32, 48] from rfl, show ByteArray.mk #[112, 111, 111, 108] = text [112, 111, 111, 108] from rfl, show ByteArray.mk #[114, 111, 117, 116, 101, 32, 51] = text [114, 111, 117, 116, 101, 32, 51] from rfl, show ByteArray.mk #[111, 107] = text [111, 107] from rfl, show ByteArray.mk #[110, 111, 32, 99, 111, 110, 102, 108, 105, 99, 116] = text [110, 111, 32, 99, 111, 110, 102, 108, 105, 99, 116] from rfl, text_toList, beq_self_eq_true, Bool.not_true, cond_false]
  rw [show ((0 : Int) != 0) = false from rfl, cond_false, show (((([] : List (List PV)).length : Int) != 0) : Bool) = false from rfl, cond_false, cond_false]
  obtain ⟨j, hj, e⟩ := within_ok n1 (m := 15) (by omega) (by omega)
  have e' : within_d n1 15 = some (j : Int) := e
  rw [e', Option.bind_some, if_pos (by omega)]
  have hb : badSays.length = 15 := rfl
  have hmem := List.all_eq_true.1 badSays_ok _ (List.getElem_mem (l := badSays) (n := j) (by omega))
  simp only [Bool.and_eq_true, decide_eq_true_eq, Option.isNone_iff_eq_none] at hmem
  have hget : (badSays.map fun l => [PV.str (text l)])[Int.toNat (j : Int)]? = some [PV.str (text (badSays[j]'(by omega)))] := by
    rw [Int.toNat_natCast, List.getElem?_map, List.getElem?_eq_getElem (by omega)]
    rfl
  generalize badSays[j]'(by omega) = l at hmem hget
  refine (bind_at hget _).trans ?_
  simp only [Option.bind_some, List.getElem?_cons_zero, PV.asS]
  rw [sSayRead_text (by unfold lim; omega), hmem.1, Option.bind_some, mk_nil, text_toList, beq_list, decide_eq_true rfl, cond_true, show (((([] : List (List PV)).length : Int) == 0) : Bool) = true from rfl, cond_true, show ((2 : Int) == 2) = true from rfl, cond_true, wakes16_ok, Option.bind_some]

/-! Read again. -/
theorem sayBack_small {R : Type} {zs : List Int} (hz : ∀ n ∈ zs, inI n = true) (hl : zs.length ≤ mega) (l15 : List (List PV)) (w16 : Int) (k0 : List (List PV) → Int → Bool → Option R) : ∀ (rest pre : List Int) (n : Nat) (b : Bool), zs = pre ++ rest → rest.length < n →
    sayBack_l3 n l15 w16 b (iRow zs) (zs.length : Int) (pre.length : Int) k0 = k0 l15 w16 (b && rest.all small18)
  | [], pre, n, b, e, hn => by
    obtain ⟨m, rfl⟩ : ∃ m, n = m + 1 := ⟨n - 1, by omega⟩
    simp only [List.append_nil] at e
    subst e
    unfold sayBack_l3
    rw [decide_eq_false (by omega), cond_false]
    simp
  | v :: rest, pre, n, b, e, hn => by
    obtain ⟨m, rfl⟩ : ∃ m, n = m + 1 := ⟨n - 1, by omega⟩
    have hlen : zs.length = pre.length + (rest.length + 1) := by rw [e]; simp
    unfold mega at hl
    have hidx : idx (iRow zs) (pre.length : Int) = some [PV.int .i64 v] := by rw [e]; exact idx_iRow pre v rest
    unfold sayBack_l3
    rw [decide_eq_true (by omega), cond_true, hidx, Option.bind_some, if_pos (show [PV.int .i64 v].length = 1 from rfl), List.getElem?_cons_zero, Option.bind_some]
    simp only [PV.asI, if_true, Option.bind_some]
    rw [wrapN (by omega) (by omega), show ((pre.length : Int) + 1) = ((pre ++ [v]).length : Int) by simp]
    have ih := fun b' => sayBack_small hz (by unfold mega; omega) l15 w16 k0 rest (pre ++ [v]) m b' (by rw [e]; simp) (by simp at hn; omega)
    simp only [ih]
    have hs : small18 v = (decide (v > -1000000000000000000) && decide (v < 1000000000000000000)) := by
      rw [Bool.eq_iff_iff]
      simp only [small18, Bool.and_eq_true, decide_eq_true_eq]
    rw [List.all_cons, hs]
    cases b <;> cases decide (v > -1000000000000000000) <;> cases decide (v < 1000000000000000000) <;> simp
def kvN (j : Nat) : List (PV × PV) := (List.range j).map fun (i : Nat) => (PV.str (text (noW ((i : Int) + 1))), PV.bool true)
theorem noW_inj : ∀ i j : Fin 16, noW ((i.val : Int) + 1) = noW ((j.val : Int) + 1) → i = j := by decide
theorem eqv_str (a b : List UInt8) : eqvT T 9 (PV.str (text a)) (PV.str (text b)) = some (decide (a = b)) := by
  show some ((text a).toList == (text b).toList) = _
  rw [text_toList, text_toList, beq_list]
theorem mget_no {x : List UInt8} : ∀ {kvs : List (PV × PV)}, (∀ kv ∈ kvs, ∃ y, kv.1 = PV.str (text y) ∧ x ≠ y) → mget T 9 (PV.str (text x)) kvs = some none
  | [], _ => rfl
  | kv :: kvs, h => by
    obtain ⟨y, e, hne⟩ := h kv (by simp)
    rw [mget, e, eqv_str, decide_eq_false hne, Option.bind_some]
    exact mget_no fun z hz => h z (by simp [hz])
theorem mset_no {x : List UInt8} {v : PV} : ∀ {kvs : List (PV × PV)}, (∀ kv ∈ kvs, ∃ y, kv.1 = PV.str (text y) ∧ x ≠ y) → mset T 9 (PV.str (text x)) v kvs = some (kvs ++ [(PV.str (text x), v)])
  | [], _ => rfl
  | kv :: kvs, h => by
    obtain ⟨y, e, hne⟩ := h kv (by simp)
    rw [mset, e, eqv_str, decide_eq_false hne, Option.bind_some]
    have ih := mset_no (v := v) fun z hz => h z (List.mem_cons_of_mem _ hz)
    simp only [Bool.false_eq_true, if_false, ih, Option.bind_some, ← e]
    rfl
theorem noW_read : ∀ j : Fin 16, (match readL (noW ((j.val : Int) + 1)) with | some x => x.1 == noW ((j.val : Int) + 1) && x.2 == [] | none => false) = true ∧ (noW ((j.val : Int) + 1)).length ≤ 20 := by decide +kernel
theorem sayBack_errs {R : Type} (k0 : Bool → Option R) (k1 : List (PV × PV) → Option R) : ∀ (f j n : Nat), j + f = 16 → f < n → sayBack_l13 n ((j : Int) + 1) (kvN j) k0 k1 = k1 (kvN 16)
  | 0, j, n, e, hn => by
    obtain ⟨m, rfl⟩ : ∃ m, n = m + 1 := ⟨n - 1, by omega⟩
    obtain rfl : j = 16 := by omega
    unfold sayBack_l13
    rw [decide_eq_false (by omega), cond_false]
  | f + 1, j, n, e, hn => by
    obtain ⟨m, rfl⟩ : ∃ m, n = m + 1 := ⟨n - 1, by omega⟩
    obtain ⟨r1, r2⟩ := noW_read ⟨j, by omega⟩
    simp only at r1 r2
    unfold sayBack_l13
    rw [decide_eq_true (by omega), cond_true, sayNo_ok ((inI_iff _).2 (by omega)), Option.bind_some, sSayRead_text (by unfold lim; omega), Option.bind_some]
    cases hr : readL (noW ((j : Int) + 1)) with
    | none => rw [hr] at r1; cases r1
    | some x =>
      rw [hr] at r1
      simp only [Bool.and_eq_true, beq_iff_eq] at r1
      have hne : ∀ kv ∈ kvN j, ∃ y, kv.1 = PV.str (text y) ∧ noW ((j : Int) + 1) ≠ y := by
        intro kv hkv
        obtain ⟨i, hi, rfl⟩ := List.mem_map.1 hkv
        rw [List.mem_range] at hi
        refine ⟨_, rfl, fun e => ?_⟩
        have := noW_inj ⟨j, by omega⟩ ⟨i, by omega⟩ e
        simp only [Fin.mk.injEq] at this
        omega
      rw [mget_no hne, Option.bind_some]
      simp only [Option.getD_none, PV.asB, Option.bind_some, cond_false, r1.1, r1.2]
      rw [show ((0 : Int) != 0) = false from rfl, cond_false, text_toList, beq_list, decide_eq_true rfl, Bool.not_true, cond_false, show (((iRow []).length : Int) != 0) = false from rfl, cond_false, mset_no hne, Option.bind_some, wrapN (by omega) (by omega)]
      have ek : kvN j ++ [(PV.str (text (noW ((j : Int) + 1))), PV.bool true)] = kvN (j + 1) := by simp [kvN, List.range_succ]
      rw [ek]
      have ih := sayBack_errs k0 k1 f (j + 1) m (by omega) (by omega)
      rw [show (((j + 1 : Nat) : Int) + 1) = (j : Int) + 1 + 1 by omega] at ih
      exact ih
theorem sayBack_q12_ok {R : Type} (n : Nat) (hn : 16 < n) (k0 : Bool → Option R) : sayBack_q12 n k0 = k0 true := by
  unfold sayBack_q12
  have := sayBack_errs (R := R) k0 (fun (kv32 : List (PV × PV)) => Option.bind (sRDigits (kv32.length : Int)) fun y33 => cond (ByteArray.toList y33 == ByteArray.toList (ByteArray.mk #[49, 54])) (Option.bind (wakes16_d) fun y34 => k0 y34) (k0 false)) 16 0 n rfl hn
  rw [show ((0 : Nat) : Int) + 1 = 1 from rfl, show kvN 0 = [] from rfl] at this
  refine this.trans ?_
  have e : sRDigits ((kvN 16).length : Int) = some (text [49, 54]) := (sItoa_in (n := 16) (by decide)).trans (by kernel_rfl)
  simp only [e, Option.bind_some]
  rw [show ByteArray.mk #[49, 54] = text [49, 54] from rfl, text_toList, beq_list, decide_eq_true rfl, cond_true, wakes16_ok, Option.bind_some]
theorem word_tab {L : List (List UInt8)} (j : Nat) (h : j < L.length) : (L.map fun l => [PV.str (text l)])[Int.toNat (j : Int)]? = some [PV.str (text (L.getD j []))] ∧ L.getD j [] ∈ L := by
  rw [Int.toNat_natCast, List.getElem?_map, List.getElem?_eq_getElem h, List.getD_eq_getElem?_getD, List.getElem?_eq_getElem h]
  exact ⟨rfl, List.getElem_mem h⟩
def backWs : List (List UInt8) := [[111, 107], [114, 111, 117, 116, 101], [112, 111, 111, 108], [99, 111, 115, 116]]
def onlyWs : List (List UInt8) := [[111, 107], [114, 111, 117, 116, 101], [112, 111, 111, 108], [120, 45, 121]]
theorem backWs_ok : ∀ w ∈ backWs ++ onlyWs, w ≠ [] ∧ (∀ b ∈ w, b ≠ 32) ∧ w ≠ [110, 111] ∧ w.length ≤ 5 := by decide
theorem sayBack_ok : ∀ (l1 : List (List PV)) (which2 : Int) (y : Bool), sSayBack l1 which2 = some y → ∃ n, ∀ (R : Type) (k : Bool → Option R), sayBack_b n l1 which2 k = k y := by
  intro es which y h
  unfold sSayBack at h
  obtain ⟨zs, h1, h2⟩ := bind_inv h
  split at h2
  case isFalse => cases h2
  rename_i hh
  cases h2
  obtain ⟨rfl, hz'⟩ := unI_inv h1
  have hz : ∀ n ∈ zs, inI n = true := fun n hn => (inI_iff n).2 (hz' n hn)
  refine ⟨zs.length + 100, fun R k => ?_⟩
  unfold sayBack_b
  rw [iRow_length]
  refine (sayBack_small hz hh.2 (iRow zs) which _ zs [] (zs.length + 100) true rfl (by omega)).trans ?_
  rw [Bool.true_and]
  obtain ⟨j, hj, e⟩ := within_ok which (m := 4) (by omega) (by omega)
  have e' : within_d which 4 = some (j : Int) := e
  obtain ⟨t1, t2⟩ := word_tab (L := backWs) j hj
  obtain ⟨w0, w1, w2, w3⟩ := backWs_ok _ (List.mem_append_left _ t2)
  rw [e', Option.bind_some, if_pos (by omega)]
  refine (bind_at t1 _).trans ?_
  generalize backWs.getD j [] = w at w0 w1 w2 w3
  simp only [Option.bind_some, List.getElem?_cons_zero, PV.asS]
  have hl := hh.2
  unfold mega at hl
  have htl := tailW_len hz
  rw [sSayList_of hz (by omega), Option.bind_some, sSayRead_text (by simp; unfold lim; omega), readL_list w0 w1 w2 hz, Option.bind_some]
  cases hs : zs.all small18 with
  | false =>
    rw [if_neg (by simp)]
    rw [show ((((2 : Int) == 0) != false) : Bool) = false from rfl, cond_false, cond_false]
    exact sayBack_q12_ok _ (by omega) k
  | true =>
    rw [if_pos rfl]
    simp only
    rw [show ((((0 : Int) == 0) != true) : Bool) = false from rfl, cond_false, cond_true, text_toList, beq_list, decide_eq_true rfl, Bool.not_true, cond_false, sSameI_of hz hz (by unfold big; omega), decide_eq_true rfl, Option.bind_some, Bool.not_true, cond_false]
    exact sayBack_q12_ok _ (by omega) k

/-! Just that line. -/
theorem small_wn (n : Int) : ∃ v, 0 ≤ v ∧ v < 2001 ∧ within_d n 2001 = some v := by
  obtain ⟨k, hk, e⟩ := within_ok n (m := 2001) (by omega) (by omega)
  exact ⟨k, by omega, by omega, e⟩
theorem sayOnly_small {R : Type} {zs : List Int} (hl : zs.length ≤ mega) (a : Int) (s w : ByteArray) : ∀ (rest pre out : List Int) (n : Nat), zs = pre ++ rest → out.length = pre.length → (∀ v ∈ out, small18 v = true) → rest.length < n →
    ∃ ns : List Int, ns.length = zs.length ∧ (∀ v ∈ ns, small18 v = true) ∧ ∀ (k0 : Int → ByteArray → ByteArray → List (List PV) → Option R), sayOnly_l4 n a s w (iRow zs) (zs.length : Int) (pre.length : Int) (iRow out) k0 = k0 a s w (iRow ns)
  | [], pre, out, n, e, ho, hs, hn => by
    obtain ⟨m, rfl⟩ : ∃ m, n = m + 1 := ⟨n - 1, by omega⟩
    simp only [List.append_nil] at e
    subst e
    refine ⟨out, ho, hs, fun k0 => ?_⟩
    unfold sayOnly_l4
    rw [decide_eq_false (by omega), cond_false]
  | v :: rest, pre, out, n, e, ho, hs, hn => by
    obtain ⟨m, rfl⟩ : ∃ m, n = m + 1 := ⟨n - 1, by omega⟩
    have hlen : zs.length = pre.length + (rest.length + 1) := by rw [e]; simp
    unfold mega at hl
    have hidx : idx (iRow zs) (pre.length : Int) = some [PV.int .i64 v] := by rw [e]; exact idx_iRow pre v rest
    obtain ⟨x, x0, x1, ex⟩ := small_wn v
    obtain ⟨ns, n1, n2, n3⟩ := sayOnly_small (R := R) (by unfold mega; omega) a s w rest (pre ++ [v]) (out ++ [x - 1000]) m (by rw [e]; simp) (by simp [ho]) (fun u hu => by
      rcases List.mem_append.1 hu with hu | hu
      · exact hs u hu
      · obtain rfl := List.mem_singleton.1 hu
        simp only [small18, decide_eq_true_eq]
        omega) (by simp at hn; omega)
    refine ⟨ns, n1, n2, fun k0 => ?_⟩
    unfold sayOnly_l4
    rw [decide_eq_true (by omega), cond_true, hidx, Option.bind_some, if_pos (show [PV.int .i64 v].length = 1 from rfl), List.getElem?_cons_zero, Option.bind_some]
    simp only [PV.asI, if_true, Option.bind_some, ex]
    rw [wrapN (n := x - 1000) (by omega) (by omega), if_pos (by rw [iRow_length]; simp; unfold maxBytes; omega), wrapN (by omega) (by omega), show ((pre.length : Int) + 1) = ((pre ++ [v]).length : Int) by simp]
    have e2 : iRow out ++ [[PV.int .i64 (x - 1000)]] = iRow (out ++ [x - 1000]) := by simp [iRow]
    rw [e2]
    exact n3 k0
theorem sayOnly_q18_ok {R : Type} (n : Nat) {l : List UInt8} (hl : l.length ≤ mega) (k : Bool → Option R) : sayOnly_q18 n (text l) k = k true := by
  unfold mega at hl
  unfold sayOnly_q18
  rw [sSayRead_text (by unfold lim; omega), Option.bind_some]
  cases hr : readL l with
  | none =>
    simp only
    rw [show ((2 : Int) != 0) = true from rfl, cond_true, mk_nil, text_toList, beq_list, decide_eq_true rfl, cond_true, show (((([] : List (List PV)).length : Int) == 0) : Bool) = true from rfl, cond_true, show ((2 : Int) == 2) = true from rfl, cond_true, wakes16_ok, Option.bind_some]
  | some x =>
    obtain ⟨v, ns⟩ := x
    obtain ⟨hi, hh⟩ := readL_inv hr
    simp only
    rw [show ((0 : Int) != 0) = false from rfl, cond_false]
    have hns : ns.length ≤ 1000000000 ∧ v.length ≤ 1000000000 := by
      rcases hh with ⟨rfl, rfl, _⟩ | e
      · simp; omega
      · have h1 := congrArg List.length e
        rw [List.length_append] at h1
        have h2 : ns.length ≤ (tailW ns).length := by
          clear h1 e hr hi
          induction ns with
          | nil => simp
          | cons n ns ih => simp only [tailW, List.map_cons, List.flatten_cons, List.length_append, List.length_cons] at ih ⊢; omega
        omega
    have hd : sRDigits (ns.length : Int) = some (text (dig ns.length)) := sItoa_in ((inI_iff _).2 (by omega))
    have hdn : (dig (ns.length : Int) == []) = false := by
      have := (dig_word (n := (ns.length : Int)) ((inI_iff _).2 (by omega))).1
      simpa using this
    have hlist : sSayList (text v) (iRow ns) = some (text (v ++ tailW ns)) := sSayList_of hi (by omega)
    have h32 : ByteArray.mk #[110, 111, 32] = text [110, 111, 32] := rfl
    simp only [hlist, iRow_length, hd, Option.bind_some, mk_nil, text_toList, hdn, Bool.not_false, cond_true, wakes16_ok, h32, text_size, text_extract]
    rcases hh with ⟨rfl, rfl, h4, h3⟩ | e
    · rw [decide_eq_true (by omega), cond_true, if_pos (by omega)]
      rw [show (v.take 3).drop 0 = [110, 111, 32] by rw [h3]; rfl]
      simp [tailW]
    · rw [e]
      simp only [beq_self_eq_true, cond_true]
      by_cases hc : (v.length : Int) > 3
      · rw [decide_eq_true hc, cond_true, if_pos (by omega)]
        cases ((v.take 3).drop 0 == [110, 111, 32]) <;> cases ((ns.length : Int) == 0) <;> cases (v == l) <;> rfl
      · rw [decide_eq_false hc, cond_false]
theorem words_twice {t : List UInt8} {a : Nat} (ha : a ≤ t.length) (h : a = 0 ∨ a = t.length ∨ (0 < a ∧ t[a - 1]? = some 32) ∨ t[a]? = some 32) : words (t.take a ++ 32 :: t.drop a) = words t := by
  rw [words_join]
  rcases h with rfl | rfl | ⟨h0, h⟩ | h
  · simp [words, splitOn]
  · simp [words, splitOn]
  · have e1 : t.take a = t.take (a - 1) ++ [32] := by
      have : a = (a - 1) + 1 := by omega
      conv => lhs; rw [this]
      rw [List.take_add_one, h]
      rfl
    have e2 : t = t.take (a - 1) ++ 32 :: t.drop a := by
      conv => lhs; rw [← List.take_append_drop a t, e1]
      simp
    rw [e1, words_join (t.take (a - 1)) []]
    conv => rhs; rw [e2, words_join]
    simp [words, splitOn]
  · have e1 : t.drop a = 32 :: t.drop (a + 1) := by
      obtain ⟨hl, he⟩ := List.getElem?_eq_some_iff.1 h
      rw [List.drop_eq_getElem_cons hl, he]
    rw [e1, words_blank]
    conv => rhs; rw [← List.take_append_drop a t, e1, words_join]
theorem sayOnly_ok : ∀ (l1 : List (List PV)) (which2 at3 : Int) (s4 : ByteArray) (y : Bool), sSayOnly l1 which2 at3 s4 = some y → ∃ n, ∀ (R : Type) (k : Bool → Option R), sayOnly_b n l1 which2 at3 s4 k = k y := by
  intro es which at3 s y h
  unfold sSayOnly at h
  obtain ⟨zs, h1, h2⟩ := bind_inv h
  split at h2
  case isFalse => cases h2
  rename_i hh
  cases h2
  obtain ⟨rfl, hz'⟩ := unI_inv h1
  obtain ⟨_, hat, hl, hsz⟩ := hh
  refine ⟨zs.length + 100, fun R k => ?_⟩
  unfold sayOnly_b
  obtain ⟨j, hj, e⟩ := within_ok which (m := 4) (by omega) (by omega)
  have e' : within_d which 4 = some (j : Int) := e
  obtain ⟨t1, t2⟩ := word_tab (L := onlyWs) j hj
  obtain ⟨w0, w1, w2, w3⟩ := backWs_ok _ (List.mem_append_right _ t2)
  rw [e', Option.bind_some, if_pos (by omega)]
  refine (bind_at t1 _).trans ?_
  generalize onlyWs.getD j [] = w at w0 w1 w2 w3
  simp only [Option.bind_some, List.getElem?_cons_zero, PV.asS, iRow_length]
  obtain ⟨ns, n1, n2, n3⟩ := sayOnly_small (R := R) hl at3 s (text w) zs [] [] (zs.length + 100) rfl rfl (by simp) (by omega)
  have n3' := n3
  simp only [List.length_nil, iRow, List.map_nil] at n3'
  refine (n3' _).trans ?_
  unfold mega at hl hsz
  have hi : ∀ n ∈ ns, inI n = true := fun n hn => small18_inI (n2 n hn)
  have hall : ns.all small18 = true := List.all_eq_true.2 n2
  have htl := tailW_len hi
  show (Option.bind (sSayList (text w) (iRow ns)) _) = _
  rw [sSayList_of hi (by omega), Option.bind_some]
  have hr : readL (w ++ tailW ns) = some (w, ns) := by rw [readL_list w0 w1 w2 hi, if_pos hall]
  have htlen : (w ++ tailW ns).length ≤ 100000000 := by simp; omega
  generalize w ++ tailW ns = t at hr htlen
  rw [sSayRead_text (by unfold lim; omega), hr, Option.bind_some]
  simp only
  rw [show ((0 : Int) != 0) = false from rfl, cond_false, text_toList, beq_list, decide_eq_true rfl, Bool.not_true, cond_false]
  show (Option.bind (sSameI (iRow ns) (iRow ns)) _) = _
  rw [sSameI_of hi hi (by unfold big; omega), decide_eq_true rfl, Option.bind_some, Bool.not_true, cond_false, text_size, wrapN (by omega) (by omega)]
  obtain ⟨a, ha, ea⟩ := within_ok at3 (m := t.length + 1) (by omega) (by omega)
  have ea' : within_d at3 ((t.length : Int) + 1) = some (a : Int) := ea
  rw [ea', Option.bind_some, if_pos (by omega), if_pos (by omega)]
  have x1 : ByteArray.extract (text t) 0 (Int.toNat (a : Int)) = text (t.take a) := by rw [Int.toNat_natCast, text_extract]; rfl
  have x2 : ByteArray.extract (text t) (Int.toNat (a : Int)) (Int.toNat (t.length : Int)) = text (t.drop a) := by rw [Int.toNat_natCast, Int.toNat_natCast, text_extract, List.take_length]
  rw [x1, x2, show ByteArray.mk #[32] = text [32] from rfl, if_pos (by rw [text_size, text_size]; simp; omega), text_append, if_pos (by rw [text_size, text_size]; simp; omega), text_append]
  have ex : t.take a ++ [32] ++ t.drop a = t.take a ++ 32 :: t.drop a := by simp
  have hxl : (t.take a ++ 32 :: t.drop a).length = t.length + 1 := by simp; omega
  rw [ex, sSayRead_text (by unfold lim; omega), Option.bind_some]
  -- where the blank joins another one, or stands at an end, nothing is read
  have no : (a = 0 ∨ a = t.length ∨ (0 < a ∧ t[a - 1]? = some 32) ∨ t[a]? = some 32) → readL (t.take a ++ 32 :: t.drop a) = none := fun hc => readL_words (words_twice (by omega) hc) (by rw [hr]; rfl) (by omega)
  have q16f : (a = 0 ∨ a = t.length ∨ (0 < a ∧ t[a - 1]? = some 32) ∨ t[a]? = some 32) → sayOnly_q16 (zs.length + 100) s (match readL (t.take a ++ 32 :: t.drop a) with | some x => (text x.1, iRow x.2, (0 : Int)) | none => (text [], [], 2)).2.2 false k = k true := by
    intro hc
    rw [no hc]
    unfold sayOnly_q16
    rw [Bool.not_false, cond_true]
    simp only
    rw [show ((2 : Int) != 2) = false from rfl, cond_false]
    have := sayOnly_q18_ok (R := R) (zs.length + 100) (l := s.data.toList) (by rw [size_data]; unfold mega; omega) k
    rwa [text_of] at this
  have q16t : ∀ f : Int, sayOnly_q16 (zs.length + 100) s f true k = k true := by
    intro f
    unfold sayOnly_q16
    rw [Bool.not_true, cond_false]
    have := sayOnly_q18_ok (R := R) (zs.length + 100) (l := s.data.toList) (by rw [size_data]; unfold mega; omega) k
    rwa [text_of] at this
  by_cases c1 : (a : Int) > 0
  · rw [decide_eq_true c1, cond_true]
    by_cases c2 : (a : Int) < t.length
    · rw [decide_eq_true c2, cond_true, wrapN (by omega) (by omega)]
      have h1 : a - 1 < t.length := by omega
      have h2 : a < t.length := by omega
      have i1 : idx (text t).data.toList ((a : Int) - 1) = some t[a - 1] := by
        rw [text_data, show ((a : Int) - 1) = ((a - 1 : Nat) : Int) by omega, idx_nat, List.getElem?_eq_getElem h1]
      have i2 : idx (text t).data.toList (a : Int) = some t[a] := by rw [text_data, idx_nat, List.getElem?_eq_getElem h2]
      have hb : ∀ u : UInt8, (((u.toNat : Int) != 32) : Bool) = decide (u ≠ 32) := by
        intro u
        have := u8_cast u 32
        rw [show (((u.toNat : Int) != 32) : Bool) = !((u.toNat : Int) == ((32 : UInt8).toNat : Int)) from rfl, this, Bool.eq_iff_iff]
        simp
      rw [i1, i2, Option.bind_some, Option.bind_some, hb, hb]
      by_cases c3 : t[a - 1] = 32
      · rw [decide_eq_false (by simp [c3]), cond_false]
        exact q16f (.inr (.inr (.inl ⟨by omega, by rw [List.getElem?_eq_getElem h1, c3]⟩)))
      · rw [decide_eq_true c3, cond_true]
        by_cases c4 : t[a] = 32
        · rw [decide_eq_false (by simp [c4])]
          exact q16f (.inr (.inr (.inr (by rw [List.getElem?_eq_getElem h2, c4]))))
        · rw [decide_eq_true c4]
          exact q16t _
    · rw [decide_eq_false c2, cond_false]
      exact q16f (.inr (.inl (by omega)))
  · rw [decide_eq_false c1, cond_false]
    exact q16f (.inl (by omega))
end Go.Proofs.YtkeklbicmfhemabDoorV
