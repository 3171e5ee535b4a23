/- Chapter 3: which problem may be: what the program's functions come to. -/
import Derived.Test.YtpaifgipdhgfkaaD8
import Derived.Test.YtpaifgipdhgfkaaQIp
namespace Go.Proofs.YtpaifgipdhgfkaaV
open Go
set_option maxRecDepth 20000
set_option linter.unusedSimpArgs false

theorem asI_int3 (n : Int) : PV.asI .i64 (.int .i64 n) = some n := rfl
theorem iWithin_ok (n lo hi : Int) : iWithin_d n lo hi = some (inR n lo hi) := by
  unfold iWithin_d iWithin_b inR
  by_cases h : lo ≤ n
  · rw [decide_eq_true (show n ≥ lo from h), cond_true, Bool.true_and]
  · rw [decide_eq_false (show ¬ n ≥ lo from h), cond_false, Bool.false_and]
theorem iCar_ok (a b c : Int) : iCar_d a b c = some (carOk (a, b, c)) := by
  unfold iCar_d iCar_b
  simp only [iWithin_ok, Option.bind_some]
  have e : (inR a 0 60 && (inR c 0 1000 && inR b 0 c)) = carOk (a, b, c) := by
    rw [Bool.eq_iff_iff]
    simp only [carOk, inR, Bool.and_eq_true, decide_eq_true_eq]
    omega
  rw [← e]
  cases inR a 0 60 <;> cases inR c 0 1000 <;> rfl
theorem iStop_ok (a b c d : Int) : iStop_d a b c d = some (stpOk (a, b, c, d)) := by
  unfold iStop_d iStop_b
  simp only [iWithin_ok, Option.bind_some]
  have e : (inR a (-20) 20 && (inR c 0 1000 && (inR b 0 c && inR d 0 1000))) = stpOk (a, b, c, d) := by
    rw [Bool.eq_iff_iff]
    simp only [stpOk, inR, Bool.and_eq_true, decide_eq_true_eq]
    omega
  rw [← e]
  cases inR a (-20) 20 <;> cases inR c 0 1000 <;> cases inR b 0 c <;> rfl
theorem allCar_rounds {R : Type} {cars : List Car} (hl : cars.length ≤ big) (k0 : Bool → Option R) (k1 : Unit → Option R) : ∀ (rest pre : List Car) (n : Nat), cars = pre ++ rest → rest.length < n →
    allCar_l2 n (carRow cars) (cars.length : Int) (pre.length : Int) k0 k1 = if rest.all carOk = true then k1 () else k0 false
  | [], pre, n, hw, hn => by
    obtain ⟨m, rfl⟩ : ∃ m, n = m + 1 := ⟨n - 1, by omega⟩
    simp only [List.append_nil] at hw
    subst hw
    unfold allCar_l2
    rw [decide_eq_false (by omega), cond_false]
    rfl
  | x :: rest, pre, n, hw, hn => by
    obtain ⟨m, rfl⟩ : ∃ m, n = m + 1 := ⟨n - 1, by omega⟩
    have hlen : cars.length = pre.length + (rest.length + 1) := by rw [hw]; simp
    have ih := allCar_rounds hl k0 k1 rest (pre ++ [x]) m (by rw [hw]; simp) (by simp at hn; omega)
    unfold big at hl
    have hidx : idx (carRow cars) (pre.length : Int) = some [.int .i64 x.1, .int .i64 x.2.1, .int .i64 x.2.2] := by rw [hw]; exact idx_car pre x rest
    have hl3 : ([.int .i64 x.1, .int .i64 x.2.1, .int .i64 x.2.2] : List PV).length = 3 := rfl
    have hsub : subAgg [.int .i64 x.1, .int .i64 x.2.1, .int .i64 x.2.2] 0 3 = some (.agg [.int .i64 x.1, .int .i64 x.2.1, .int .i64 x.2.2]) := rfl
    have hagg : PV.isAgg (.agg [.int .i64 x.1, .int .i64 x.2.1, .int .i64 x.2.2]) 3 = true := rfl
    have hD : iCar_D [.agg [.int .i64 x.1, .int .i64 x.2.1, .int .i64 x.2.2]] = some (carOk x) := iCar_ok x.1 x.2.1 x.2.2
    have hk1 : IntKind.i64.wrap ((pre.length : Int) + 1) = ((pre ++ [x]).length : Int) := (wrapN (by omega) (by omega)).trans (by simp)
    unfold allCar_l2
    rw [decide_eq_true (by omega), cond_true, hidx]
    simp only [Option.bind_some, hl3, if_true, hsub, hagg, hD, hk1, ih, List.all_cons]
    by_cases hc : carOk x = true
    · simp only [hc, Bool.not_true, cond_false, Bool.true_and]
    · rw [Bool.not_eq_true] at hc
      simp only [hc, Bool.not_false, cond_true, Bool.false_and, Bool.false_eq_true, if_false]
theorem allCar_ok : ∀ (l1 : List (List PV)) (y : Bool), sAllCar l1 = some y → ∃ n, ∀ (R : Type) (k : Bool → Option R), allCar_b n l1 k = k y := by
  intro a y h
  unfold sAllCar at h
  obtain ⟨l, h1, h2⟩ := bind_inv h
  split at h2
  case isFalse => cases h2
  rename_i hs
  cases h2
  rw [(unCar_inv h1).1]
  refine ⟨l.length + 1, fun R k => ?_⟩
  unfold allCar_b
  rw [carRow_length]
  refine (allCar_rounds hs k (fun _ => k true) l [] (l.length + 1) rfl (by omega)).trans ?_
  cases l.all carOk <;> rfl
theorem allStop_rounds {R : Type} {stops : List Stp} (hl : stops.length ≤ big) (k0 : Bool → Option R) (k1 : Unit → Option R) : ∀ (rest pre : List Stp) (n : Nat), stops = pre ++ rest → rest.length < n →
    allStop_l2 n (stpRow stops) (stops.length : Int) (pre.length : Int) k0 k1 = if rest.all stpOk = true then k1 () else k0 false
  | [], pre, n, hw, hn => by
    obtain ⟨m, rfl⟩ : ∃ m, n = m + 1 := ⟨n - 1, by omega⟩
    simp only [List.append_nil] at hw
    subst hw
    unfold allStop_l2
    rw [decide_eq_false (by omega), cond_false]
    rfl
  | x :: rest, pre, n, hw, hn => by
    obtain ⟨m, rfl⟩ : ∃ m, n = m + 1 := ⟨n - 1, by omega⟩
    have hlen : stops.length = pre.length + (rest.length + 1) := by rw [hw]; simp
    have ih := allStop_rounds hl k0 k1 rest (pre ++ [x]) m (by rw [hw]; simp) (by simp at hn; omega)
    unfold big at hl
    have hidx : idx (stpRow stops) (pre.length : Int) = some [.int .i64 x.1, .int .i64 x.2.1, .int .i64 x.2.2.1, .int .i64 x.2.2.2] := by rw [hw]; exact idx_stp pre x rest
    have hl3 : ([.int .i64 x.1, .int .i64 x.2.1, .int .i64 x.2.2.1, .int .i64 x.2.2.2] : List PV).length = 4 := rfl
    have hsub : subAgg [.int .i64 x.1, .int .i64 x.2.1, .int .i64 x.2.2.1, .int .i64 x.2.2.2] 0 4 = some (.agg [.int .i64 x.1, .int .i64 x.2.1, .int .i64 x.2.2.1, .int .i64 x.2.2.2]) := rfl
    have hagg : PV.isAgg (.agg [.int .i64 x.1, .int .i64 x.2.1, .int .i64 x.2.2.1, .int .i64 x.2.2.2]) 4 = true := rfl
    have hD : iStop_D [.agg [.int .i64 x.1, .int .i64 x.2.1, .int .i64 x.2.2.1, .int .i64 x.2.2.2]] = some (stpOk x) := iStop_ok x.1 x.2.1 x.2.2.1 x.2.2.2
    have hk1 : IntKind.i64.wrap ((pre.length : Int) + 1) = ((pre ++ [x]).length : Int) := (wrapN (by omega) (by omega)).trans (by simp)
    unfold allStop_l2
    rw [decide_eq_true (by omega), cond_true, hidx]
    simp only [Option.bind_some, hl3, if_true, hsub, hagg, hD, hk1, ih, List.all_cons]
    by_cases hc : stpOk x = true
    · simp only [hc, Bool.not_true, cond_false, Bool.true_and]
    · rw [Bool.not_eq_true] at hc
      simp only [hc, Bool.not_false, cond_true, Bool.false_and, Bool.false_eq_true, if_false]
theorem allStop_ok : ∀ (l1 : List (List PV)) (y : Bool), sAllStop l1 = some y → ∃ n, ∀ (R : Type) (k : Bool → Option R), allStop_b n l1 k = k y := by
  intro a y h
  unfold sAllStop at h
  obtain ⟨l, h1, h2⟩ := bind_inv h
  split at h2
  case isFalse => cases h2
  rename_i hs
  cases h2
  rw [(unStp_inv h1).1]
  refine ⟨l.length + 1, fun R k => ?_⟩
  unfold allStop_b
  rw [stpRow_length]
  refine (allStop_rounds hs k (fun _ => k true) l [] (l.length + 1) rfl (by omega)).trans ?_
  cases l.all stpOk <;> rfl
theorem ipPair {R : Type} {stops : List Stp} (a d : List (List PV)) (e : List (List PV)) (i j : Int) (p : Int × Int) (had : List Int) (hl : stops.length ≤ big) (c : List (List PV)) (n : Nat) (k0 : Bool → Option R) (k1 : List (List PV) → Int → Int → List (List PV) → List (List PV) → List (List PV) → List (List PV) → List (PV × PV) → PV → Option R) :
    iPairs_l8 (n + 3) e i j (.agg [.int .i64 p.1, .int .i64 p.2]) 0 a (stpRow stops) c d (hadMap had) (.agg [.int .i64 p.1, .int .i64 p.2]) k0 k1 =
      if (fresh stops had p.1 && fresh stops (had ++ [p.1]) p.2) = true then k1 e i j a (stpRow stops) c d (hadMap (had ++ [p.1, p.2])) (.agg [.int .i64 p.1, .int .i64 p.2]) else k0 false := by
  have hA : PV.asAgg (.agg [.int .i64 p.1, .int .i64 p.2]) = some [.int .i64 p.1, .int .i64 p.2] := rfl
  have g0 : ([.int .i64 p.1, .int .i64 p.2] : List PV)[(0 : Int).toNat]? = some (.int .i64 p.1) := rfl
  have g1 : ([.int .i64 p.1, .int .i64 p.2] : List PV)[(1 : Int).toNat]? = some (.int .i64 p.2) := rfl
  obtain ⟨r0, m0, b0⟩ := had_get p.1 had
  obtain ⟨r1, m1, b1⟩ := had_get p.2 (had ++ [p.1])
  have w0 : IntKind.i64.wrap ((0 : Int) + 1) = 1 := rfl
  have w1 : IntKind.i64.wrap ((1 : Int) + 1) = 2 := rfl
  have last : ∀ kv q, iPairs_l8 (n + 1) e i j (.agg [.int .i64 p.1, .int .i64 p.2]) 2 a (stpRow stops) c d kv q k0 k1 = k1 e i j a (stpRow stops) c d kv q := by
    intro kv q
    unfold iPairs_l8
    rfl
  unfold iPairs_l8
  rw [show decide ((0 : Int) < 2) = true from rfl, cond_true, hA, Option.bind_some, if_pos (by decide), g0, Option.bind_some, asI_int3, Option.bind_some, iWithin_ok, Option.bind_some, stpRow_length]
  unfold fresh
  cases f0 : inR p.1 1 (stops.length : Int) with
  | false => rw [Bool.not_false, cond_true]; simp
  | true =>
    rw [Bool.not_true, cond_false, m0, Option.bind_some, b0, Option.bind_some]
    cases c0 : had.contains p.1 with
    | true => rw [cond_true]; simp
    | false =>
      rw [cond_false, had_set p.1 had c0, Option.bind_some, w0]
      unfold iPairs_l8
      rw [show decide ((1 : Int) < 2) = true from rfl, cond_true, hA, Option.bind_some, if_pos (by decide), g1, Option.bind_some, asI_int3, Option.bind_some, iWithin_ok, Option.bind_some, stpRow_length]
      cases f1 : inR p.2 1 (stops.length : Int) with
      | false => rw [Bool.not_false, cond_true]; simp
      | true =>
        rw [Bool.not_true, cond_false, m1, Option.bind_some, b1, Option.bind_some]
        cases c1 : (had ++ [p.1]).contains p.2 with
        | true => rw [cond_true]; simp
        | false =>
          rw [cond_false, had_set p.2 (had ++ [p.1]) c1, Option.bind_some, w1, last]
          simp
theorem ipPairs {R : Type} {stops : List Stp} {pairs : List (Int × Int)} (hst : ∀ c ∈ stops, inI c.1 = true ∧ inI c.2.1 = true ∧ inI c.2.2.1 = true ∧ inI c.2.2.2 = true) (hl : pairs.length ≤ big) (hs : stops.length ≤ big) (a c d : List (List PV)) (k0 : Bool → Option R) (k1 : Unit → Option R) : ∀ (rest pre : List (Int × Int)) (had : List Int) (n : Nat), pairs = pre ++ rest → rest.length + 3 < n →
    iPairs_l3 n (prRow pairs) (pairs.length : Int) (pre.length : Int) a (stpRow stops) c d (hadMap had) k0 k1 = if pairsOk stops rest had = true then k1 () else k0 false
  | [], pre, had, n, hw, hn => by
    obtain ⟨m, rfl⟩ : ∃ m, n = m + 1 := ⟨n - 1, by omega⟩
    simp only [List.append_nil] at hw
    subst hw
    unfold iPairs_l3
    rw [decide_eq_false (by omega), cond_false]
    rfl
  | x :: rest, pre, had, n, hw, hn => by
    obtain ⟨m, rfl⟩ : ∃ m, n = m + 1 + 3 := ⟨n - 4, by simp at hn; omega⟩
    have hlen : pairs.length = pre.length + (rest.length + 1) := by rw [hw]; simp
    have ih := ipPairs hst hl hs a c d k0 k1 rest (pre ++ [x]) (had ++ [x.1, x.2]) (m + 3) (by rw [hw]; simp) (by simp at hn; omega)
    unfold big at hl
    have hidx : idx (prRow pairs) (pre.length : Int) = some [.int .i64 x.1, .int .i64 x.2] := by rw [hw]; exact idx_pr pre x rest
    have hl2 : ([.int .i64 x.1, .int .i64 x.2] : List PV).length = 2 := rfl
    have hsub : subAgg [.int .i64 x.1, .int .i64 x.2] 0 2 = some (.agg [.int .i64 x.1, .int .i64 x.2]) := rfl
    have hagg : PV.isAgg (.agg [.int .i64 x.1, .int .i64 x.2]) 2 = true := rfl
    have c0 : (PV.cells (.agg [.int .i64 x.1, .int .i64 x.2]))[0]? = some (.int .i64 x.1) := rfl
    have c1 : (PV.cells (.agg [.int .i64 x.1, .int .i64 x.2]))[1]? = some (.int .i64 x.2) := rfl
    have hk1 : IntKind.i64.wrap ((pre.length : Int) + 1) = ((pre ++ [x]).length : Int) := (wrapN (by omega) (by omega)).trans (by simp)
    unfold iPairs_l3 pairsOk
    rw [decide_eq_true (by omega), cond_true, hidx]
    simp only [Option.bind_some, hl2, if_true, hsub, hagg, c0, c1, asI_int3]
    by_cases hxx : x.1 = x.2
    · rw [show (x.1 == x.2) = true by simp [hxx], cond_true, if_neg]
      have : fresh stops (had ++ [x.1]) x.2 = false := by
        unfold fresh
        rw [hxx]
        simp
      simp [this]
    rw [show (x.1 == x.2) = false by simp [hxx], cond_false]
    have pr := fun k2 => ipPair (R := R) a d (prRow pairs) (pairs.length : Int) (pre.length : Int) x had hs c m k0 k2
    refine (pr _).trans ?_
    cases f0 : fresh stops had x.1 with
    | false => simp
    | true =>
      cases f1 : fresh stops (had ++ [x.1]) x.2 with
      | false => simp
      | true =>
        rw [Bool.true_and, if_pos rfl]
        have r0 : inR x.1 1 stops.length = true := by unfold fresh at f0; simp only [Bool.and_eq_true] at f0; exact f0.1
        have r1 : inR x.2 1 stops.length = true := by unfold fresh at f1; simp only [Bool.and_eq_true] at f1; exact f1.1
        have e0 := stp_idx r0 hs
        have e1 := stp_idx r1 hs
        have hin : inI (demandAt stops x.1) = true := by
          simp only [inR, Bool.and_eq_true, decide_eq_true_eq] at r0
          unfold demandAt
          have hj : (x.1 - 1).toNat < stops.length := by omega
          rw [List.getD_eq_getElem?_getD, List.getElem?_eq_getElem hj, Option.getD_some]
          exact (hst _ (List.getElem_mem hj)).1
        have hin' := (inI_iff _).1 hin
        have hl4 : ∀ (p q r s : PV), ([p, q, r, s] : List PV).length = 4 := fun _ _ _ _ => rfl
        have hz : ∀ (p q r s : PV), ([p, q, r, s] : List PV)[0]? = some p := fun _ _ _ _ => rfl
        simp only [c0, c1, Option.bind_some, asI_int3, e0, e1, hl4, hz, if_true]
        by_cases hneg : demandAt stops x.1 < 0
        · rw [decide_eq_true hneg, cond_true, decide_eq_false (by omega)]
          simp
        · rw [decide_eq_false hneg, cond_false, decide_eq_true (by omega), wrapN (n := 0 - demandAt stops x.1) (by omega) (by omega), Int.zero_sub]
          by_cases hd : demandAt stops x.2 = -demandAt stops x.1
          · rw [show (demandAt stops x.2 != -demandAt stops x.1) = false by simp [hd], cond_false, decide_eq_true hd, hk1, ih]
            simp
          · rw [show (demandAt stops x.2 != -demandAt stops x.1) = true by simpa using hd, cond_true, decide_eq_false hd]
            simp
theorem smallI_parts {i : Inst} (h : smallI i = true) : i.cars.length ≤ big ∧ i.stops.length ≤ big ∧ i.pairs.length ≤ big ∧ i.travel.length ≤ big ∧ ∀ r ∈ i.travel, r.length ≤ big := by
  simp only [smallI, Bool.and_eq_true, decide_eq_true_eq, List.all_eq_true] at h
  exact h
theorem iPairs_ok : ∀ (i1 i2 i3 i4 : List (List PV)) (y : Bool), sIPairs i1 i2 i3 i4 = some y → ∃ n, ∀ (R : Type) (k : Bool → Option R), iPairs_b n i1 i2 i3 i4 k = k y := by
  intro i1 i2 i3 i4 y h
  unfold sIPairs at h
  obtain ⟨i, h1, h2⟩ := bind_inv h
  split at h2
  case isFalse => cases h2
  rename_i hs
  cases h2
  obtain ⟨rfl, rfl, rfl, rfl, g1, g2, g3, g4⟩ := unInst_inv h1
  obtain ⟨s1, s2, s3, s4, s5⟩ := smallI_parts hs
  refine ⟨i.pairs.length + 5, fun R k => ?_⟩
  unfold iPairs_b
  rw [prRow_length]
  refine (ipPairs g2 s3 s2 _ _ _ k (fun _ => k true) i.pairs [] [] (i.pairs.length + 5) rfl (by omega)).trans ?_
  cases pairsOk i.stops i.pairs [] <;> rfl
theorem cellsOk_eq (a : Nat) : ∀ (r : List Int) (b : Nat), cellsOk a b r = (r.all (fun t => inR t 0 1000) && (decide (a < b) || decide (r.getD (a - b) 0 = 0)))
  | [], b => by simp [cellsOk]
  | t :: r, b => by
    rw [cellsOk, cellsOk_eq a r (b + 1), List.all_cons]
    unfold cellOk
    by_cases h1 : a < b
    · rw [decide_eq_true h1, decide_eq_true (show a < b + 1 by omega), show (a == b) = false by simp; omega]
      simp
    by_cases h2 : a = b
    · subst h2
      rw [decide_eq_false h1, decide_eq_true (show a < a + 1 by omega), Nat.sub_self]
      by_cases h3 : t = 0
      · simp [h3]
      · simp [h3]
    · have e : a - b = (a - (b + 1)) + 1 := by omega
      rw [decide_eq_false h1, decide_eq_false (show ¬ a < b + 1 by omega), show (a == b) = false by simp [h2], e]
      simp [Bool.and_assoc]
theorem tvCells {R : Type} {row : List Int} (hl : row.length ≤ big) (many : Int) (e : List (List PV)) (i j : Int) (k0 : Bool → Option R) (k1 : Int → List (List PV) → Int → Int → Option R) : ∀ (rest pre : List Int) (n : Nat), row = pre ++ rest → rest.length < n →
    iTravel_l10 n many e i j (iRow row) (row.length : Int) (pre.length : Int) k0 k1 = if rest.all (fun t => inR t 0 1000) = true then k1 many e i j else k0 false
  | [], pre, n, hw, hn => by
    obtain ⟨m, rfl⟩ : ∃ m, n = m + 1 := ⟨n - 1, by omega⟩
    simp only [List.append_nil] at hw
    subst hw
    unfold iTravel_l10
    rw [decide_eq_false (by omega), cond_false]
    rfl
  | x :: rest, pre, n, hw, hn => by
    obtain ⟨m, rfl⟩ : ∃ m, n = m + 1 := ⟨n - 1, by omega⟩
    have hlen : row.length = pre.length + (rest.length + 1) := by rw [hw]; simp
    have ih := tvCells hl many e i j k0 k1 rest (pre ++ [x]) m (by rw [hw]; simp) (by simp at hn; omega)
    unfold big at hl
    have hidx : idx (iRow row) (pre.length : Int) = some [.int .i64 x] := by rw [hw]; exact idx_iRow pre x rest
    have hk1 : IntKind.i64.wrap ((pre.length : Int) + 1) = ((pre ++ [x]).length : Int) := (wrapN (by omega) (by omega)).trans (by simp)
    unfold iTravel_l10
    rw [decide_eq_true (by omega), cond_true, hidx]
    simp only [Option.bind_some, List.length_singleton, if_true, List.getElem?_cons_zero, asI_int3, iWithin_ok, hk1, ih, List.all_cons]
    by_cases hc : inR x 0 1000 = true
    · simp only [hc, Bool.not_true, cond_false, Bool.true_and]
    · rw [Bool.not_eq_true] at hc
      simp only [hc, Bool.not_false, cond_true, Bool.false_and, Bool.false_eq_true, if_false]
theorem tvRows {R : Type} {travel : List (List Int)} (hl : travel.length ≤ big) (hr : ∀ r ∈ travel, r.length ≤ big) (size : Nat) (hsz : size = travel.length) (k0 : Bool → Option R) (k1 : Unit → Option R) : ∀ (rest pre : List (List Int)) (n : Nat), travel = pre ++ rest → rest.length + size + 1 < n →
    iTravel_l5 n (size : Int) (trRow travel) (travel.length : Int) (pre.length : Int) k0 k1 = if rowsOk size pre.length rest = true then k1 () else k0 false
  | [], pre, n, hw, hn => by
    obtain ⟨m, rfl⟩ : ∃ m, n = m + 1 := ⟨n - 1, by omega⟩
    simp only [List.append_nil] at hw
    subst hw
    unfold iTravel_l5
    rw [decide_eq_false (by omega), cond_false]
    rfl
  | x :: rest, pre, n, hw, hn => by
    obtain ⟨m, rfl⟩ : ∃ m, n = m + 1 := ⟨n - 1, by omega⟩
    have hlen : travel.length = pre.length + (rest.length + 1) := by rw [hw]; simp
    have hxl := hr x (by rw [hw]; simp)
    have ih := tvRows hl hr size hsz k0 k1 rest (pre ++ [x]) m (by rw [hw]; simp) (by simp at hn; omega)
    have hl' := hl
    unfold big at hl'
    have hidx : idx (trRow travel) (pre.length : Int) = some [.fs (iRow x)] := by rw [hw]; exact idx_tr pre x rest
    have hk1 : IntKind.i64.wrap ((pre.length : Int) + 1) = ((pre ++ [x]).length : Int) := (wrapN (by omega) (by omega)).trans (by simp)
    have hfs : ∀ es : List (List PV), PV.asFs (.fs es) = some es := fun _ => rfl
    unfold iTravel_l5
    rw [decide_eq_true (by omega), cond_true, hidx, rowsOk, cellsOk_eq]
    simp only [Option.bind_some, List.length_singleton, if_true, List.getElem?_cons_zero, hfs, iRow_length]
    by_cases hsize : x.length = size
    · rw [show (((x.length : Int) != (size : Int)) : Bool) = false by simp [hsize], cond_false, decide_eq_true hsize]
      have hin : pre.length < x.length := by omega
      have hd : idx (iRow x) (pre.length : Int) = some [.int .i64 (x.getD pre.length 0)] := by
        rw [idx_nat, iRow, List.getElem?_map, List.getElem?_eq_getElem hin, List.getD_eq_getElem?_getD, List.getElem?_eq_getElem hin]
        rfl
      rw [hd]
      simp only [Option.bind_some, List.length_singleton, if_true, List.getElem?_cons_zero, asI_int3]
      rw [decide_eq_false (show ¬ pre.length < 0 by omega), Nat.sub_zero, Bool.false_or, Bool.true_and]
      by_cases h0 : x.getD pre.length 0 = 0
      · rw [show ((x.getD pre.length 0 != 0) : Bool) = false by rw [h0]; rfl, cond_false, decide_eq_true h0, Bool.and_true]
        have tc := fun k2 => tvCells (R := R) hxl (size : Int) (trRow travel) (travel.length : Int) (pre.length : Int) k0 k2 x [] m rfl (by simp at hn; omega)
        simp only [List.length_nil] at tc
        refine (tc _).trans ?_
        rw [hk1, ih]
        cases x.all (fun t => inR t 0 1000) <;> simp
      · rw [show ((x.getD pre.length 0 != 0) : Bool) = true by simpa using h0, cond_true, decide_eq_false h0]
        simp
    · rw [show (((x.length : Int) != (size : Int)) : Bool) = true by simp; omega, cond_true, decide_eq_false hsize]
      simp
theorem iTravel_ok : ∀ (i1 i2 i3 i4 : List (List PV)) (y : Bool), sITravel i1 i2 i3 i4 = some y → ∃ n, ∀ (R : Type) (k : Bool → Option R), iTravel_b n i1 i2 i3 i4 k = k y := by
  intro i1 i2 i3 i4 y h
  unfold sITravel at h
  obtain ⟨i, h1, h2⟩ := bind_inv h
  split at h2
  case isFalse => cases h2
  rename_i hs
  cases h2
  obtain ⟨rfl, rfl, rfl, rfl, g1, g2, g3, g4⟩ := unInst_inv h1
  obtain ⟨s1, s2, s3, s4, s5⟩ := smallI_parts hs
  refine ⟨2 * i.travel.length + 3, fun R k => ?_⟩
  have s2' := s2
  unfold big at s2'
  unfold iTravel_b
  rw [trRow_length, stpRow_length, wrapN (by omega) (by omega)]
  by_cases hl : i.travel.length = i.stops.length + 1
  · rw [show (((i.travel.length : Int) != (i.stops.length : Int) + 1) : Bool) = false by simp; omega, cond_false, decide_eq_true hl, Bool.true_and]
    have := tvRows (R := R) s4 s5 (i.stops.length + 1) hl.symm k (fun _ => k true) i.travel [] (2 * i.travel.length + 3) rfl (by omega)
    rw [show ((i.stops.length : Int) + 1) = ((i.stops.length + 1 : Nat) : Int) by omega]
    refine this.trans ?_
    rw [List.length_nil]
    cases rowsOk (i.stops.length + 1) 0 i.travel <;> rfl
  · rw [show (((i.travel.length : Int) != (i.stops.length : Int) + 1) : Bool) = true by simp; omega, cond_true, decide_eq_false hl]
    rfl
/-- Which problem may be. -/
theorem iCheck_of {a b c d : List (List PV)} {i : Inst} (h : Given i a b c d) : iCheck_d a b c d = some (if checkI i = true then 0 else 1) := by
  obtain ⟨hu, hs⟩ := h
  obtain ⟨e1, e2, e3, e4, g1, g2, g3, g4⟩ := unInst_inv hu
  obtain ⟨s1, s2, s3, s4, s5⟩ := smallI_parts hs
  have a1 : sAllCar a = some (i.cars.all carOk) := by unfold sAllCar; rw [e1, unCar_row g1, Option.bind_some, if_pos s1]
  have a2 : sAllStop b = some (i.stops.all stpOk) := by unfold sAllStop; rw [e2, unStp_row g2, Option.bind_some, if_pos s2]
  have a3 : sIPairs a b c d = some (pairsOk i.stops i.pairs []) := by unfold sIPairs; rw [hu, Option.bind_some, if_pos hs]
  have a4 : sITravel a b c d = some (decide (i.travel.length = i.stops.length + 1) && rowsOk (i.stops.length + 1) 0 i.travel) := by unfold sITravel; rw [hu, Option.bind_some, if_pos hs]
  unfold iCheck_d iCheck_b
  simp only [a1, a2, a3, a4, iWithin_ok, Option.bind_some]
  rw [e1, e2, carRow_length, stpRow_length]
  have ht : (decide (i.travel.length = i.stops.length + 1) && rowsOk (i.stops.length + 1) 0 i.travel) = (decide (i.travel.length = i.stops.length + 1) && rowsOk i.travel.length 0 i.travel) := by
    by_cases hl : i.travel.length = i.stops.length + 1
    · rw [hl]
    · rw [decide_eq_false hl]; rfl
  rw [ht]
  unfold checkI
  have h10 : decide ((i.stops.length : Int) > 10) = !decide (i.stops.length ≤ 10) := by
    by_cases h : i.stops.length ≤ 10
    · rw [decide_eq_true h, decide_eq_false (by omega)]; rfl
    · rw [decide_eq_false h, decide_eq_true (by omega)]; rfl
  rw [h10]
  cases inR (i.cars.length : Int) 1 3 <;> cases decide (i.stops.length ≤ 10) <;> cases i.cars.all carOk <;> cases i.stops.all stpOk <;> cases pairsOk i.stops i.pairs [] <;> cases decide (i.travel.length = i.stops.length + 1) <;> cases rowsOk i.travel.length 0 i.travel <;> rfl
/-! Mates. -/
end Go.Proofs.YtpaifgipdhgfkaaV
