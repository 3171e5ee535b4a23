/- Problems: which may be; plans; mates: what the document's functions come to. -/
import Derived.Test.YtkeklbicmfhemaaDoorQI
import Derived.Test.YtkeklbicmfhemaaDoorSI2
import Derived.Test.YtkeklbicmfhemaaDoorDI
namespace Go.Proofs.YtkeklbicmfhemaaDoorV
open Go
set_option maxRecDepth 20000
set_option linter.unusedSimpArgs false

/-! Rows and back. -/
theorem unCar_inv : ∀ {es : List (List PV)} {l : List Car}, unCar es = some l → es = carRow l ∧ ∀ c ∈ l, inI c.1 = true ∧ inI c.2.1 = true ∧ inI c.2.2 = true
  | [], l, h => by cases h; exact ⟨rfl, by simp⟩
  | e :: es, l, h => by
    simp only [unCar, Option.bind_eq_some_iff] at h
    obtain ⟨a, h1, l', h2, h3⟩ := h
    cases h3
    obtain ⟨i1, i2⟩ := unCar_inv h2
    unfold unCar1 at h1
    split at h1
    case h_2 => cases h1
    split at h1
    case isFalse => cases h1
    rename_i hc
    cases h1
    exact ⟨by rw [i1]; rfl, fun c hm => (List.mem_cons.1 hm).elim (fun e => e ▸ hc) (i2 c)⟩
theorem unStp_inv : ∀ {es : List (List PV)} {l : List Stp}, unStp es = some l → es = stpRow l ∧ ∀ c ∈ l, inI c.1 = true ∧ inI c.2.1 = true ∧ inI c.2.2.1 = true ∧ inI c.2.2.2 = true
  | [], l, h => by cases h; exact ⟨rfl, by simp⟩
  | e :: es, l, h => by
    simp only [unStp, Option.bind_eq_some_iff] at h
    obtain ⟨a, h1, l', h2, h3⟩ := h
    cases h3
    obtain ⟨i1, i2⟩ := unStp_inv h2
    unfold unStp1 at h1
    split at h1
    case h_2 => cases h1
    split at h1
    case isFalse => cases h1
    rename_i hc
    cases h1
    exact ⟨by rw [i1]; rfl, fun c hm => (List.mem_cons.1 hm).elim (fun e => e ▸ hc) (i2 c)⟩
theorem unPr_inv : ∀ {es : List (List PV)} {l : List (Int × Int)}, unPr es = some l → es = prRow l ∧ ∀ c ∈ l, inI c.1 = true ∧ inI c.2 = true
  | [], l, h => by cases h; exact ⟨rfl, by simp⟩
  | e :: es, l, h => by
    simp only [unPr, Option.bind_eq_some_iff] at h
    obtain ⟨a, h1, l', h2, h3⟩ := h
    cases h3
    obtain ⟨i1, i2⟩ := unPr_inv h2
    unfold unPr1 at h1
    split at h1
    case h_2 => cases h1
    split at h1
    case isFalse => cases h1
    rename_i hc
    cases h1
    exact ⟨by rw [i1]; rfl, fun c hm => (List.mem_cons.1 hm).elim (fun e => e ▸ hc) (i2 c)⟩
theorem unTr_inv : ∀ {es : List (List PV)} {l : List (List Int)}, unTr es = some l → es = trRow l ∧ ∀ r ∈ l, ∀ n ∈ r, -9223372036854775808 ≤ n ∧ n < 9223372036854775808
  | [], l, h => by cases h; exact ⟨rfl, by simp⟩
  | e :: es, l, h => by
    simp only [unTr, Option.bind_eq_some_iff] at h
    obtain ⟨a, h1, l', h2, h3⟩ := h
    cases h3
    obtain ⟨i1, i2⟩ := unTr_inv h2
    unfold unTr1 at h1
    split at h1
    case h_2 => cases h1
    obtain ⟨j1, j2⟩ := unI_inv h1
    exact ⟨by rw [i1, j1]; rfl, fun c hm => (List.mem_cons.1 hm).elim (fun e => e ▸ j2) (i2 c)⟩
theorem unInst_inv {a b c d : List (List PV)} {i : Inst} (h : unInst a b c d = some i) : a = carRow i.cars ∧ b = stpRow i.stops ∧ c = prRow i.pairs ∧ d = trRow i.travel ∧
    (∀ c ∈ i.cars, inI c.1 = true ∧ inI c.2.1 = true ∧ inI c.2.2 = true) ∧ (∀ c ∈ i.stops, inI c.1 = true ∧ inI c.2.1 = true ∧ inI c.2.2.1 = true ∧ inI c.2.2.2 = true) ∧ (∀ c ∈ i.pairs, inI c.1 = true ∧ inI c.2 = true) ∧ (∀ r ∈ i.travel, ∀ n ∈ r, -9223372036854775808 ≤ n ∧ n < 9223372036854775808) := by
  simp only [unInst, Option.bind_eq_some_iff] at h
  obtain ⟨c1, h1, c2, h2, c3, h3, c4, h4, h5⟩ := h
  cases h5
  exact ⟨(unCar_inv h1).1, (unStp_inv h2).1, (unPr_inv h3).1, (unTr_inv h4).1, (unCar_inv h1).2, (unStp_inv h2).2, (unPr_inv h3).2, (unTr_inv h4).2⟩
theorem carRow_length (l : List Car) : (carRow l).length = l.length := by simp [carRow]
theorem prRow_length (l : List (Int × Int)) : (prRow l).length = l.length := by simp [prRow]
theorem trRow_length (l : List (List Int)) : (trRow l).length = l.length := by simp [trRow]
theorem idx_car (pre : List Car) (x : Car) (rest : List Car) : idx (carRow (pre ++ x :: rest)) (pre.length : Int) = some [.int .i64 x.1, .int .i64 x.2.1, .int .i64 x.2.2] := by
  rw [idx_nat, carRow, List.map_append, List.map_cons, List.getElem?_append_right (by simp)]; simp
theorem idx_stp (pre : List Stp) (x : Stp) (rest : List Stp) : idx (stpRow (pre ++ x :: rest)) (pre.length : Int) = some [.int .i64 x.1, .int .i64 x.2.1, .int .i64 x.2.2.1, .int .i64 x.2.2.2] := by
  rw [idx_nat, stpRow, List.map_append, List.map_cons, List.getElem?_append_right (by simp)]; simp
theorem idx_pr (pre : List (Int × Int)) (x : Int × Int) (rest : List (Int × Int)) : idx (prRow (pre ++ x :: rest)) (pre.length : Int) = some [.int .i64 x.1, .int .i64 x.2] := by
  rw [idx_nat, prRow, List.map_append, List.map_cons, List.getElem?_append_right (by simp)]; simp
theorem idx_tr (pre : List (List Int)) (x : List Int) (rest : List (List Int)) : idx (trRow (pre ++ x :: rest)) (pre.length : Int) = some [.fs (iRow x)] := by
  rw [idx_nat, trRow, List.map_append, List.map_cons, List.getElem?_append_right (by simp)]; simp

/-! Which problem may be. -/
theorem rWithin_ok (n lo hi : Int) : rWithin_d n lo hi = some (inR n lo hi) := by
  unfold rWithin_d rWithin_b inR
  by_cases h : lo ≤ n
  · rw [decide_eq_true (show n ≥ lo from h), cond_true, Bool.true_and]
  · rw [decide_eq_false (show ¬ n ≥ lo from h), cond_false, Bool.false_and]
theorem ckCars {R : Type} {cars : List Car} (hl : cars.length ≤ big) (a b c d : List (List PV)) (k0 : Bool → Option R) (k1 : List (List PV) → List (List PV) → List (List PV) → List (List PV) → Option R) : ∀ (rest pre : List Car) (n : Nat), cars = pre ++ rest → rest.length < n →
    rCheckInst_l4 n (carRow cars) (cars.length : Int) (pre.length : Int) a b c d k0 k1 = if rest.all carOk = true then k1 a b c d else k0 false
  | [], pre, n, hw, hn => by
    obtain ⟨m, rfl⟩ : ∃ m, n = m + 1 := ⟨n - 1, by omega⟩
    simp only [List.append_nil] at hw
    subst hw
    unfold rCheckInst_l4
    rw [decide_eq_false (by omega), cond_false]
    rfl
  | x :: rest, pre, n, hw, hn => by
    obtain ⟨m, rfl⟩ : ∃ m, n = m + 1 := ⟨n - 1, by omega⟩
    have hlen : cars.length = pre.length + (rest.length + 1) := by rw [hw]; simp
    have ih := ckCars hl a b c d k0 k1 rest (pre ++ [x]) m (by rw [hw]; simp) (by simp at hn; omega)
    unfold big at hl
    have hidx : idx (carRow cars) (pre.length : Int) = some [.int .i64 x.1, .int .i64 x.2.1, .int .i64 x.2.2] := by rw [hw]; exact idx_car pre x rest
    have hl3 : ([.int .i64 x.1, .int .i64 x.2.1, .int .i64 x.2.2] : List PV).length = 3 := rfl
    have hsub : subAgg [.int .i64 x.1, .int .i64 x.2.1, .int .i64 x.2.2] 0 3 = some (.agg [.int .i64 x.1, .int .i64 x.2.1, .int .i64 x.2.2]) := rfl
    have hagg : PV.isAgg (.agg [.int .i64 x.1, .int .i64 x.2.1, .int .i64 x.2.2]) 3 = true := rfl
    have c0 : (PV.cells (.agg [.int .i64 x.1, .int .i64 x.2.1, .int .i64 x.2.2]))[0]? = some (.int .i64 x.1) := rfl
    have c1 : (PV.cells (.agg [.int .i64 x.1, .int .i64 x.2.1, .int .i64 x.2.2]))[1]? = some (.int .i64 x.2.1) := rfl
    have c2 : (PV.cells (.agg [.int .i64 x.1, .int .i64 x.2.1, .int .i64 x.2.2]))[2]? = some (.int .i64 x.2.2) := rfl
    have hk1 : IntKind.i64.wrap ((pre.length : Int) + 1) = ((pre ++ [x]).length : Int) := (wrapN (by omega) (by omega)).trans (by simp)
    unfold rCheckInst_l4
    rw [decide_eq_true (by omega), cond_true, hidx]
    simp only [Option.bind_some, hl3, if_true, hsub, hagg, c0, c1, c2, asI_int, rWithin_ok, hk1, ih]
    have good : carOk x = true → (if rest.all carOk = true then k1 a b c d else k0 false) = (if (x :: rest).all carOk = true then k1 a b c d else k0 false) := fun h => by rw [show (x :: rest).all carOk = rest.all carOk by simp [h]]
    have bad : carOk x = false → k0 false = (if (x :: rest).all carOk = true then k1 a b c d else k0 false) := fun h => by rw [if_neg (by simp [h])]
    rcases Bool.eq_false_or_eq_true (inR x.1 0 60) with f0 | f0
    · rcases Bool.eq_false_or_eq_true (inR x.2.1 0 x.2.2) with f1 | f1
      · by_cases h : x.2.2 > 1000
        · rw [f0, f1, Bool.not_true, cond_false, cond_false, decide_eq_true h, cond_true]
          exact bad (by simp [carOk, f0, f1, show ¬ x.2.2 ≤ 1000 by omega])
        · rw [f0, f1, Bool.not_true, cond_false, cond_false, decide_eq_false h, cond_false]
          exact good (by simp [carOk, f0, f1, show x.2.2 ≤ 1000 by omega])
      · rw [f0, f1, Bool.not_true, cond_false, Bool.not_false, cond_true]
        exact bad (by simp [carOk, f0, f1])
    · rw [f0, Bool.not_false, cond_true]
      exact bad (by simp [carOk, f0])
theorem ckStops {R : Type} {stops : List Stp} (hl : stops.length ≤ big) (a b c d : List (List PV)) (k0 : Bool → Option R) (k1 : List (List PV) → List (List PV) → List (List PV) → List (List PV) → Option R) : ∀ (rest pre : List Stp) (n : Nat), stops = pre ++ rest → rest.length < n →
    rCheckInst_l10 n (stpRow stops) (stops.length : Int) (pre.length : Int) a b c d k0 k1 = if rest.all stpOk = true then k1 a b c d else k0 false
  | [], pre, n, hw, hn => by
    obtain ⟨m, rfl⟩ : ∃ m, n = m + 1 := ⟨n - 1, by omega⟩
    simp only [List.append_nil] at hw
    subst hw
    unfold rCheckInst_l10
    rw [decide_eq_false (by omega), cond_false]
    rfl
  | x :: rest, pre, n, hw, hn => by
    obtain ⟨m, rfl⟩ : ∃ m, n = m + 1 := ⟨n - 1, by omega⟩
    have hlen : stops.length = pre.length + (rest.length + 1) := by rw [hw]; simp
    have ih := ckStops hl a b c d k0 k1 rest (pre ++ [x]) m (by rw [hw]; simp) (by simp at hn; omega)
    unfold big at hl
    have hidx : idx (stpRow stops) (pre.length : Int) = some [.int .i64 x.1, .int .i64 x.2.1, .int .i64 x.2.2.1, .int .i64 x.2.2.2] := by rw [hw]; exact idx_stp pre x rest
    have hl4 : ([.int .i64 x.1, .int .i64 x.2.1, .int .i64 x.2.2.1, .int .i64 x.2.2.2] : List PV).length = 4 := rfl
    have hsub : subAgg [.int .i64 x.1, .int .i64 x.2.1, .int .i64 x.2.2.1, .int .i64 x.2.2.2] 0 4 = some (.agg [.int .i64 x.1, .int .i64 x.2.1, .int .i64 x.2.2.1, .int .i64 x.2.2.2]) := rfl
    have hagg : PV.isAgg (.agg [.int .i64 x.1, .int .i64 x.2.1, .int .i64 x.2.2.1, .int .i64 x.2.2.2]) 4 = true := rfl
    have c0 : (PV.cells (.agg [.int .i64 x.1, .int .i64 x.2.1, .int .i64 x.2.2.1, .int .i64 x.2.2.2]))[0]? = some (.int .i64 x.1) := rfl
    have c1 : (PV.cells (.agg [.int .i64 x.1, .int .i64 x.2.1, .int .i64 x.2.2.1, .int .i64 x.2.2.2]))[1]? = some (.int .i64 x.2.1) := rfl
    have c2 : (PV.cells (.agg [.int .i64 x.1, .int .i64 x.2.1, .int .i64 x.2.2.1, .int .i64 x.2.2.2]))[2]? = some (.int .i64 x.2.2.1) := rfl
    have c3 : (PV.cells (.agg [.int .i64 x.1, .int .i64 x.2.1, .int .i64 x.2.2.1, .int .i64 x.2.2.2]))[3]? = some (.int .i64 x.2.2.2) := rfl
    have hk1 : IntKind.i64.wrap ((pre.length : Int) + 1) = ((pre ++ [x]).length : Int) := (wrapN (by omega) (by omega)).trans (by simp)
    unfold rCheckInst_l10
    rw [decide_eq_true (by omega), cond_true, hidx]
    simp only [Option.bind_some, hl4, if_true, hsub, hagg, c0, c1, c2, c3, asI_int, rWithin_ok, hk1, ih]
    have good : stpOk x = true → (if rest.all stpOk = true then k1 a b c d else k0 false) = (if (x :: rest).all stpOk = true then k1 a b c d else k0 false) := fun h => by rw [show (x :: rest).all stpOk = rest.all stpOk by simp [h]]
    have bad : stpOk x = false → k0 false = (if (x :: rest).all stpOk = true then k1 a b c d else k0 false) := fun h => by rw [if_neg (by simp [h])]
    rcases Bool.eq_false_or_eq_true (inR x.1 (-20) 20) with f0 | f0
    · rcases Bool.eq_false_or_eq_true (inR x.2.1 0 x.2.2.1) with f1 | f1
      · by_cases h : x.2.2.1 > 1000
        · rw [f0, f1, Bool.not_true, cond_false, cond_false, decide_eq_true h, cond_true]
          exact bad (by simp [stpOk, f0, f1, show ¬ x.2.2.1 ≤ 1000 by omega])
        · rcases Bool.eq_false_or_eq_true (inR x.2.2.2 0 1000) with f3 | f3
          · rw [f0, f1, f3, Bool.not_true, cond_false, cond_false, decide_eq_false h, cond_false, cond_false]
            exact good (by simp [stpOk, f0, f1, f3, show x.2.2.1 ≤ 1000 by omega])
          · rw [f0, f1, f3, Bool.not_true, cond_false, cond_false, decide_eq_false h, cond_false, Bool.not_false, cond_true]
            exact bad (by simp [stpOk, f0, f1, f3])
      · rw [f0, f1, Bool.not_true, cond_false, Bool.not_false, cond_true]
        exact bad (by simp [stpOk, f0, f1])
    · rw [f0, Bool.not_false, cond_true]
      exact bad (by simp [stpOk, f0])
/-- What has been, as a map. -/
def hadMap (l : List Int) : List (PV × PV) := l.map fun n => (.int .i64 n, .bool true)
theorem had_get (x : Int) : ∀ l : List Int, ∃ r, mget T 3 (.int .i64 x) (hadMap l) = some r ∧ PV.asB (Option.getD r (.bool false)) = some (l.contains x)
  | [] => ⟨none, rfl, rfl⟩
  | n :: l => by
    obtain ⟨r, h1, h2⟩ := had_get x l
    have h3 : ∀ x y : Int, eqvT T 3 (.int .i64 x) (.int .i64 y) = some (x == y) := fun x y => rfl
    simp only [hadMap, List.map_cons, mget, h3, Option.bind_some] at h1 ⊢
    by_cases e : x = n
    · refine ⟨some (.bool true), by simp [e], ?_⟩
      simp [e, PV.asB]
    · refine ⟨r, ?_, ?_⟩
      · rw [if_neg (by simpa using e)]; exact h1
      · rw [h2]; simp [e]
theorem had_set (x : Int) : ∀ l : List Int, l.contains x = false → mset T 3 (.int .i64 x) (.bool true) (hadMap l) = some (hadMap (l ++ [x]))
  | [], _ => rfl
  | n :: l, h => by
    have h3 : ∀ x y : Int, eqvT T 3 (.int .i64 x) (.int .i64 y) = some (x == y) := fun x y => rfl
    simp only [List.contains_cons, Bool.or_eq_false_iff] at h
    have ih := had_set x l h.2
    simp only [hadMap, List.map_cons, List.cons_append, mset, h3, Option.bind_some] at ih ⊢
    rw [if_neg (by simp [h.1]), ih]
    rfl
theorem ckPair {R : Type} {stops : List Stp} (a d : List (List PV)) (e : List (List PV)) (i j : Int) (p : Int × Int) (had : List Int) (hl : stops.length ≤ big) (c : List (List PV)) (n : Nat) (k0 : Bool → Option R) (k1 : List (List PV) → Int → Int → List (List PV) → List (List PV) → List (List PV) → List (List PV) → List (PV × PV) → PV → Option R) :
    rCheckInst_l20 (n + 3) e i j (.agg [.int .i64 p.1, .int .i64 p.2]) 0 a (stpRow stops) c d (hadMap had) (.agg [.int .i64 p.1, .int .i64 p.2]) k0 k1 =
      if (fresh stops had p.1 && fresh stops (had ++ [p.1]) p.2) = true then k1 e i j a (stpRow stops) c d (hadMap (had ++ [p.1, p.2])) (.agg [.int .i64 p.1, .int .i64 p.2]) else k0 false := by
  have hA : PV.asAgg (.agg [.int .i64 p.1, .int .i64 p.2]) = some [.int .i64 p.1, .int .i64 p.2] := rfl
  have g0 : ([.int .i64 p.1, .int .i64 p.2] : List PV)[(0 : Int).toNat]? = some (.int .i64 p.1) := rfl
  have g1 : ([.int .i64 p.1, .int .i64 p.2] : List PV)[(1 : Int).toNat]? = some (.int .i64 p.2) := rfl
  obtain ⟨r0, m0, b0⟩ := had_get p.1 had
  obtain ⟨r1, m1, b1⟩ := had_get p.2 (had ++ [p.1])
  have w0 : IntKind.i64.wrap ((0 : Int) + 1) = 1 := rfl
  have w1 : IntKind.i64.wrap ((1 : Int) + 1) = 2 := rfl
  have last : ∀ kv q, rCheckInst_l20 (n + 1) e i j (.agg [.int .i64 p.1, .int .i64 p.2]) 2 a (stpRow stops) c d kv q k0 k1 = k1 e i j a (stpRow stops) c d kv q := by
    intro kv q
    unfold rCheckInst_l20
    rfl
  unfold rCheckInst_l20
  rw [show decide ((0 : Int) < 2) = true from rfl, cond_true, hA, Option.bind_some, if_pos (by decide), g0, Option.bind_some, asI_int, Option.bind_some, rWithin_ok, Option.bind_some, stpRow_length]
  unfold fresh
  cases f0 : inR p.1 1 (stops.length : Int) with
  | false => rw [Bool.not_false, cond_true]; simp
  | true =>
    rw [Bool.not_true, cond_false, m0, Option.bind_some, b0, Option.bind_some]
    cases c0 : had.contains p.1 with
    | true => rw [cond_true]; simp
    | false =>
      rw [cond_false, had_set p.1 had c0, Option.bind_some, w0]
      unfold rCheckInst_l20
      rw [show decide ((1 : Int) < 2) = true from rfl, cond_true, hA, Option.bind_some, if_pos (by decide), g1, Option.bind_some, asI_int, Option.bind_some, rWithin_ok, Option.bind_some, stpRow_length]
      cases f1 : inR p.2 1 (stops.length : Int) with
      | false => rw [Bool.not_false, cond_true]; simp
      | true =>
        rw [Bool.not_true, cond_false, m1, Option.bind_some, b1, Option.bind_some]
        cases c1 : (had ++ [p.1]).contains p.2 with
        | true => rw [cond_true]; simp
        | false =>
          rw [cond_false, had_set p.2 (had ++ [p.1]) c1, Option.bind_some, w1, last]
          simp
theorem stp_idx {s : List Stp} {x : Int} (h : inR x 1 s.length = true) (hl : s.length ≤ big) : idx (stpRow s) (IntKind.i64.wrap (x - 1)) = some [.int .i64 (demandAt s x), .int .i64 (s.getD (x - 1).toNat (0, 0, 0, 0)).2.1, .int .i64 (s.getD (x - 1).toNat (0, 0, 0, 0)).2.2.1, .int .i64 (s.getD (x - 1).toNat (0, 0, 0, 0)).2.2.2] := by
  simp only [inR, Bool.and_eq_true, decide_eq_true_eq] at h
  unfold big at hl
  rw [wrapN (by omega) (by omega), show x - 1 = ((x - 1).toNat : Int) by omega, idx_nat, stp_at (by omega)]
  unfold demandAt
  rw [Int.toNat_natCast]
theorem ckPairs {R : Type} {stops : List Stp} {pairs : List (Int × Int)} (hst : ∀ c ∈ stops, inI c.1 = true ∧ inI c.2.1 = true ∧ inI c.2.2.1 = true ∧ inI c.2.2.2 = true) (hl : pairs.length ≤ big) (hs : stops.length ≤ big) (a c d : List (List PV)) (k0 : List (List PV) → List (List PV) → List (List PV) → List (List PV) → Option R) (k1 : Bool → Option R) : ∀ (rest pre : List (Int × Int)) (had : List Int) (n : Nat), pairs = pre ++ rest → rest.length + 3 < n →
    rCheckInst_l17 n (prRow pairs) (pairs.length : Int) (pre.length : Int) a (stpRow stops) c d (hadMap had) k0 k1 = if pairsOk stops rest had = true then k0 a (stpRow stops) c d else k1 false
  | [], pre, had, n, hw, hn => by
    obtain ⟨m, rfl⟩ : ∃ m, n = m + 1 := ⟨n - 1, by omega⟩
    simp only [List.append_nil] at hw
    subst hw
    unfold rCheckInst_l17
    rw [decide_eq_false (by omega), cond_false]
    rfl
  | x :: rest, pre, had, n, hw, hn => by
    obtain ⟨m, rfl⟩ : ∃ m, n = m + 1 + 3 := ⟨n - 4, by simp at hn; omega⟩
    have hlen : pairs.length = pre.length + (rest.length + 1) := by rw [hw]; simp
    have ih := ckPairs hst hl hs a c d k0 k1 rest (pre ++ [x]) (had ++ [x.1, x.2]) (m + 3) (by rw [hw]; simp) (by simp at hn; omega)
    unfold big at hl
    have hidx : idx (prRow pairs) (pre.length : Int) = some [.int .i64 x.1, .int .i64 x.2] := by rw [hw]; exact idx_pr pre x rest
    have hl2 : ([.int .i64 x.1, .int .i64 x.2] : List PV).length = 2 := rfl
    have hsub : subAgg [.int .i64 x.1, .int .i64 x.2] 0 2 = some (.agg [.int .i64 x.1, .int .i64 x.2]) := rfl
    have hagg : PV.isAgg (.agg [.int .i64 x.1, .int .i64 x.2]) 2 = true := rfl
    have c0 : (PV.cells (.agg [.int .i64 x.1, .int .i64 x.2]))[0]? = some (.int .i64 x.1) := rfl
    have c1 : (PV.cells (.agg [.int .i64 x.1, .int .i64 x.2]))[1]? = some (.int .i64 x.2) := rfl
    have hk1 : IntKind.i64.wrap ((pre.length : Int) + 1) = ((pre ++ [x]).length : Int) := (wrapN (by omega) (by omega)).trans (by simp)
    unfold rCheckInst_l17 pairsOk
    rw [decide_eq_true (by omega), cond_true, hidx]
    simp only [Option.bind_some, hl2, if_true, hsub, hagg]
    have pr := fun k2 => ckPair (R := R) a d (prRow pairs) (pairs.length : Int) (pre.length : Int) x had hs c m k1 k2
    refine (pr _).trans ?_
    cases f0 : fresh stops had x.1 with
    | false => simp
    | true =>
      cases f1 : fresh stops (had ++ [x.1]) x.2 with
      | false => simp
      | true =>
        rw [Bool.true_and, if_pos rfl]
        have r0 : inR x.1 1 stops.length = true := by unfold fresh at f0; simp only [Bool.and_eq_true] at f0; exact f0.1
        have r1 : inR x.2 1 stops.length = true := by unfold fresh at f1; simp only [Bool.and_eq_true] at f1; exact f1.1
        have e0 := stp_idx r0 hs
        have e1 := stp_idx r1 hs
        have hin : inI (demandAt stops x.1) = true := by
          simp only [inR, Bool.and_eq_true, decide_eq_true_eq] at r0
          unfold demandAt
          have hj : (x.1 - 1).toNat < stops.length := by omega
          rw [List.getD_eq_getElem?_getD, List.getElem?_eq_getElem hj, Option.getD_some]
          exact (hst _ (List.getElem_mem hj)).1
        have hin' := (inI_iff _).1 hin
        have hl4 : ∀ (p q r s : PV), ([p, q, r, s] : List PV).length = 4 := fun _ _ _ _ => rfl
        have hz : ∀ (p q r s : PV), ([p, q, r, s] : List PV)[0]? = some p := fun _ _ _ _ => rfl
        simp only [c0, c1, Option.bind_some, asI_int, e0, e1, hl4, hz, if_true]
        by_cases hneg : demandAt stops x.1 < 0
        · rw [decide_eq_true hneg, cond_true, decide_eq_false (by omega)]
          simp
        · rw [decide_eq_false hneg, cond_false, decide_eq_true (by omega), wrapN (n := 0 - demandAt stops x.1) (by omega) (by omega), Int.zero_sub]
          by_cases hd : demandAt stops x.2 = -demandAt stops x.1
          · rw [show (demandAt stops x.2 != -demandAt stops x.1) = false by simp [hd], cond_false, decide_eq_true hd, hk1, ih]
            simp
          · rw [show (demandAt stops x.2 != -demandAt stops x.1) = true by simpa using hd, cond_true, decide_eq_false hd]
            simp
theorem ckCells {R : Type} {row : List Int} (hl : row.length ≤ big) (ak : Nat) (e : List (List PV)) (i : Int) (a b c d : List (List PV)) (k0 : Bool → Option R) (k1 : List (List PV) → Int → Int → List (List PV) → List (List PV) → List (List PV) → List (List PV) → Option R) : ∀ (rest pre : List Int) (n : Nat), row = pre ++ rest → rest.length < n →
    rCheckInst_l36 n (ak : Int) e i (ak : Int) (iRow row) (row.length : Int) (pre.length : Int) a b c d k0 k1 = if cellsOk ak pre.length rest = true then k1 e i (ak : Int) a b c d else k0 false
  | [], pre, n, hw, hn => by
    obtain ⟨m, rfl⟩ : ∃ m, n = m + 1 := ⟨n - 1, by omega⟩
    simp only [List.append_nil] at hw
    subst hw
    unfold rCheckInst_l36
    rw [decide_eq_false (by omega), cond_false]
    rfl
  | x :: rest, pre, n, hw, hn => by
    obtain ⟨m, rfl⟩ : ∃ m, n = m + 1 := ⟨n - 1, by omega⟩
    have hlen : row.length = pre.length + (rest.length + 1) := by rw [hw]; simp
    have ih := ckCells hl ak e i a b c d k0 k1 rest (pre ++ [x]) m (by rw [hw]; simp) (by simp at hn; omega)
    unfold big at hl
    have hidx : idx (iRow row) (pre.length : Int) = some [.int .i64 x] := by rw [hw]; exact idx_iRow pre x rest
    have hk1 : IntKind.i64.wrap ((pre.length : Int) + 1) = ((pre ++ [x]).length : Int) := (wrapN (by omega) (by omega)).trans (by simp)
    have e0 : ([PV.int .i64 x] : List PV)[0]? = some (PV.int .i64 x) := rfl
    unfold rCheckInst_l36 cellsOk cellOk
    rw [decide_eq_true (by omega), cond_true, hidx]
    simp only [Option.bind_some, List.length_singleton, if_true, e0, asI_int, rWithin_ok, hk1, ih]
    rw [show (pre ++ [x]).length = pre.length + 1 by simp]
    cases inR x 0 1000
    · simp
    · by_cases h : ak = pre.length
      · by_cases hx : x = 0
        · simp [h, hx]
        · have hb : (x != 0) = true := by simpa using hx
          simp [h, hb]
      · have h' : ¬ (ak : Int) = (pre.length : Int) := by omega
        simp [h, h']
theorem ckRows {R : Type} {travel : List (List Int)} (hl : travel.length ≤ big) (hr : ∀ r ∈ travel, r.length ≤ big) (a b c : List (List PV)) (k0 : Bool → Option R) (k1 : Unit → Option R) : ∀ (rest pre : List (List Int)) (n : Nat), travel = pre ++ rest → rest.length + travel.length + 2 < n →
    rCheckInst_l31 n (trRow travel) (travel.length : Int) (pre.length : Int) a b c (trRow travel) k0 k1 = if rowsOk travel.length pre.length rest = true then k1 () else k0 false
  | [], pre, n, hw, hn => by
    obtain ⟨m, rfl⟩ : ∃ m, n = m + 1 := ⟨n - 1, by omega⟩
    simp only [List.append_nil] at hw
    subst hw
    unfold rCheckInst_l31
    rw [decide_eq_false (by omega), cond_false]
    rfl
  | x :: rest, pre, n, hw, hn => by
    obtain ⟨m, rfl⟩ : ∃ m, n = m + 1 := ⟨n - 1, by omega⟩
    have hlen : travel.length = pre.length + (rest.length + 1) := by rw [hw]; simp
    have ih := ckRows hl hr a b c k0 k1 rest (pre ++ [x]) m (by rw [hw]; simp) (by simp at hn; omega)
    have hxl := hr x (by rw [hw]; simp)
    have hidx : idx (trRow travel) (pre.length : Int) = some [.fs (iRow x)] := by rw [hw]; exact idx_tr pre x rest
    have hbig := hl
    unfold big at hl
    have hk1 : IntKind.i64.wrap ((pre.length : Int) + 1) = ((pre ++ [x]).length : Int) := (wrapN (by omega) (by omega)).trans (by simp)
    have e0 : ([PV.fs (iRow x)] : List PV)[0]? = some (PV.fs (iRow x)) := rfl
    unfold rCheckInst_l31 rowsOk
    rw [decide_eq_true (by omega), cond_true, hidx]
    simp only [Option.bind_some, List.length_singleton, if_true, e0, asFs_fs, iRow_length, trRow_length]
    by_cases hx : x.length = travel.length
    · rw [show (((x.length : Int) != (travel.length : Int)) : Bool) = false by simp [hx], cond_false]
      have ce := fun k2 => ckCells (R := R) hxl pre.length (trRow travel) (travel.length : Int) a b c (trRow travel) k0 k2 x [] m rfl (by simp at hn; omega)
      refine (ce _).trans ?_
      rw [hk1, ih, decide_eq_true hx, Bool.true_and, show (pre ++ [x]).length = pre.length + 1 by simp, List.length_nil]
      cases cellsOk pre.length 0 x <;> simp
    · rw [show (((x.length : Int) != (travel.length : Int)) : Bool) = true by rw [bne_iff_ne]; omega, cond_true, decide_eq_false hx]
      simp
theorem rCheckInst_ok : ∀ (i1 i2 i3 i4 : List (List PV)) (y : Bool), sCheckInst i1 i2 i3 i4 = some y → ∃ n, ∀ (R : Type) (k : Bool → Option R), rCheckInst_b n i1 i2 i3 i4 k = k y := by
  intro i1 i2 i3 i4 y h
  simp only [sCheckInst, Option.bind_eq_some_iff] at h
  obtain ⟨i, h1, h2⟩ := h
  split at h2
  case isFalse => cases h2
  rename_i hs
  cases h2
  obtain ⟨rfl, rfl, rfl, rfl, q1, q2, q3, q4⟩ := unInst_inv h1
  simp only [smallI, Bool.and_eq_true, decide_eq_true_eq, List.all_eq_true] at hs
  obtain ⟨s1, s2, s3, s4, s5⟩ := hs
  refine ⟨i.cars.length + i.stops.length + i.pairs.length + 2 * i.travel.length + 10, fun R k => ?_⟩
  generalize hN : i.cars.length + i.stops.length + i.pairs.length + 2 * i.travel.length + 10 = N
  unfold rCheckInst_b checkI
  rw [rWithin_ok, Option.bind_some, carRow_length, stpRow_length, trRow_length]
  cases inR i.cars.length 1 3 with
  | false => rw [Bool.not_false, cond_true, Bool.false_and]
  | true =>
    rw [Bool.not_true, cond_false, Bool.true_and]
    by_cases h10 : i.stops.length ≤ 10
    · rw [decide_eq_false (show ¬ ((i.stops.length : Int) > 10) by omega), cond_false, decide_eq_true h10, Bool.true_and, wrapN (by omega) (by omega)]
      by_cases ht : i.travel.length = i.stops.length + 1
      · rw [show (((i.travel.length : Int) != (i.stops.length : Int) + 1) : Bool) = false by simp [ht], cond_false, decide_eq_true ht, Bool.true_and]
        have p1 := fun k1 => ckCars (R := R) s1 (carRow i.cars) (stpRow i.stops) (prRow i.pairs) (trRow i.travel) k k1 i.cars [] N rfl (by omega)
        refine (p1 _).trans ?_
        cases i.cars.all carOk with
        | false => rw [if_neg (by simp), Bool.false_and]
        | true =>
          rw [if_pos rfl, Bool.true_and, stpRow_length]
          have p2 := fun k1 => ckStops (R := R) s2 (carRow i.cars) (stpRow i.stops) (prRow i.pairs) (trRow i.travel) k k1 i.stops [] N rfl (by omega)
          refine (p2 _).trans ?_
          cases i.stops.all stpOk with
          | false => rw [if_neg (by simp), Bool.false_and]
          | true =>
            rw [if_pos rfl, Bool.true_and, prRow_length]
            have p3 := fun k0 => ckPairs (R := R) q2 s3 s2 (carRow i.cars) (prRow i.pairs) (trRow i.travel) k0 k i.pairs [] [] N rfl (by omega)
            refine (p3 _).trans ?_
            cases pairsOk i.stops i.pairs [] with
            | false => rw [if_neg (by simp), Bool.false_and]
            | true =>
              rw [if_pos rfl, Bool.true_and, trRow_length]
              have p4 := fun k1 => ckRows (R := R) s4 s5 (carRow i.cars) (stpRow i.stops) (prRow i.pairs) k k1 i.travel [] N rfl (by omega)
              refine (p4 _).trans ?_
              cases rowsOk i.travel.length 0 i.travel <;> simp [*]
      · rw [show (((i.travel.length : Int) != (i.stops.length : Int) + 1) : Bool) = true by rw [bne_iff_ne]; omega, cond_true, decide_eq_false ht, Bool.false_and]
    · rw [decide_eq_true (show ((i.stops.length : Int) > 10) by omega), cond_true, decide_eq_false h10, Bool.false_and]
end Go.Proofs.YtkeklbicmfhemaaDoorV
