/- Chapter 3's law: problems printed and read back; mates. -/
import Derived.Test.YtkeklbicmfhemabGreatDoorD03b
import Derived.Test.YtkeklbicmfhemabGreatDoorQ03p
import Derived.Test.YtkeklbicmfhemabGreatDoorQI5
import Derived.Test.YtkeklbicmfhemabGreatDoorQSI
namespace Go.Proofs.YtkeklbicmfhemabGreatDoorV
open Go
set_option maxRecDepth 20000
set_option linter.unusedSimpArgs false

/-! Problems held against one another. -/
theorem eqInts (v : Int) : eqvT T 3 (.int .i64 v) (.int .i64 v) = some true := by
  show some (v == v) = some true
  rw [beq_self_eq_true]
theorem eqC (a b : Car) : eqvs T [(3, 0), (3, 1), (3, 2)] [.int .i64 a.1, .int .i64 a.2.1, .int .i64 a.2.2] [.int .i64 b.1, .int .i64 b.2.1, .int .i64 b.2.2] = some (decide (a = b)) := by
  have h3 : ∀ x y : Int, eqvT T 3 (.int .i64 x) (.int .i64 y) = some (x == y) := fun x y => rfl
  simp only [eqvs, h3, Option.bind_some]
  congr 1
  obtain ⟨a1, a2, a3⟩ := a
  obtain ⟨b1, b2, b3⟩ := b
  rw [Bool.eq_iff_iff]
  simp only [Bool.and_eq_true, beq_iff_eq, decide_eq_true_eq, Prod.mk.injEq, and_true]
theorem eqS4 (a b : Stp) : eqvs T [(3, 0), (3, 1), (3, 2), (3, 3)] [.int .i64 a.1, .int .i64 a.2.1, .int .i64 a.2.2.1, .int .i64 a.2.2.2] [.int .i64 b.1, .int .i64 b.2.1, .int .i64 b.2.2.1, .int .i64 b.2.2.2] = some (decide (a = b)) := by
  have h3 : ∀ x y : Int, eqvT T 3 (.int .i64 x) (.int .i64 y) = some (x == y) := fun x y => rfl
  simp only [eqvs, h3, Option.bind_some]
  congr 1
  obtain ⟨a1, a2, a3, a4⟩ := a
  obtain ⟨b1, b2, b3, b4⟩ := b
  rw [Bool.eq_iff_iff]
  simp only [Bool.and_eq_true, beq_iff_eq, decide_eq_true_eq, Prod.mk.injEq, and_true]
theorem eqP2 (a b : Int × Int) : eqvs T [(3, 0), (3, 1)] [.int .i64 a.1, .int .i64 a.2] [.int .i64 b.1, .int .i64 b.2] = some (decide (a = b)) := by
  have h3 : ∀ x y : Int, eqvT T 3 (.int .i64 x) (.int .i64 y) = some (x == y) := fun x y => rfl
  simp only [eqvs, h3, Option.bind_some]
  congr 1
  obtain ⟨a1, a2⟩ := a
  obtain ⟨b1, b2⟩ := b
  rw [Bool.eq_iff_iff]
  simp only [Bool.and_eq_true, beq_iff_eq, decide_eq_true_eq, Prod.mk.injEq, and_true]
theorem sameCar_rounds {R : Type} {a b : List Car} (ha : a.length ≤ big) (k0 : Bool → Option R) (k1 : Unit → Option R) : ∀ (ra rb pa pb : List Car) (n : Nat), a = pa ++ ra → b = pb ++ rb → pa.length = pb.length → ra.length = rb.length → ra.length < n →
    sameCar_l4 n (carRow a) (carRow b) (pa.length : Int) k0 k1 = if ra = rb then k1 () else k0 false
  | [], rb, pa, pb, n, h1, h2, h3, h4, hn => by
    obtain ⟨m, rfl⟩ : ∃ m, n = m + 1 := ⟨n - 1, by omega⟩
    cases rb with
    | cons => simp at h4
    | nil =>
      simp only [List.append_nil] at h1
      subst h1
      unfold sameCar_l4
      rw [carRow_length, decide_eq_false (by omega), cond_false, if_pos rfl]
  | x :: ra, rb, pa, pb, n, h1, h2, h3, h4, hn => by
    obtain ⟨m, rfl⟩ : ∃ m, n = m + 1 := ⟨n - 1, by omega⟩
    cases rb with
    | nil => simp at h4
    | cons y rb =>
      have hlen : a.length = pa.length + (ra.length + 1) := by rw [h1]; simp
      unfold big at ha
      unfold sameCar_l4
      have i1 : idx (carRow a) (pa.length : Int) = some [.int .i64 x.1, .int .i64 x.2.1, .int .i64 x.2.2] := by rw [h1]; exact idx_car pa x ra
      have i2 : idx (carRow b) (pa.length : Int) = some [.int .i64 y.1, .int .i64 y.2.1, .int .i64 y.2.2] := by rw [h2, h3]; exact idx_car pb y rb
      have hs : ∀ z : Car, subAgg [.int .i64 z.1, .int .i64 z.2.1, .int .i64 z.2.2] 0 3 = some (.agg [.int .i64 z.1, .int .i64 z.2.1, .int .i64 z.2.2]) := fun _ => rfl
      have hg : ∀ z : Car, PV.asAgg (.agg [.int .i64 z.1, .int .i64 z.2.1, .int .i64 z.2.2]) = some [.int .i64 z.1, .int .i64 z.2.1, .int .i64 z.2.2] := fun _ => rfl
      have hl3 : ∀ z : Car, ([.int .i64 z.1, .int .i64 z.2.1, .int .i64 z.2.2] : List PV).length = 3 := fun _ => rfl
      rw [carRow_length, decide_eq_true (by omega), cond_true, i1, i2]
      simp only [Option.bind_some, hl3, if_true, hs, hg, eqC]
      by_cases hxy : x = y
      · subst hxy
        rw [decide_eq_true rfl, Bool.not_true, cond_false, wrapN (by omega) (by omega), show ((pa.length : Int) + 1) = ((pa ++ [x]).length : Int) by simp, sameCar_rounds (by unfold big; omega) k0 k1 ra rb (pa ++ [x]) (pb ++ [x]) m (by rw [h1]; simp) (by rw [h2]; simp) (by simp [h3]) (by simpa using h4) (by simp at hn; omega)]
        simp
      · rw [decide_eq_false hxy, Bool.not_false, cond_true, if_neg (by simp [hxy])]
theorem sameCar_ok : ∀ (a1 b2 : List (List PV)) (y : Bool), sSameCar a1 b2 = some y → ∃ n, ∀ (R : Type) (k : Bool → Option R), sameCar_b n a1 b2 k = k y := by
  intro a b y h
  unfold sSameCar at h
  obtain ⟨l, h1, h2⟩ := bind_inv h
  obtain ⟨m, h3, h4⟩ := bind_inv h2
  split at h4
  case isFalse => cases h4
  rename_i hl
  cases h4
  rw [(unCar_inv h1).1, (unCar_inv h3).1]
  refine ⟨l.length + 1, fun R k => ?_⟩
  unfold sameCar_b
  rw [carRow_length, carRow_length]
  by_cases hlen : l.length = m.length
  · rw [show (((l.length : Int) != (m.length : Int)) : Bool) = false by simp [hlen], cond_false]
    refine (sameCar_rounds hl k (fun _ => k true) l m [] [] (l.length + 1) rfl rfl rfl hlen (by omega)).trans ?_
    by_cases e : l = m
    · rw [if_pos e, decide_eq_true e]
    · rw [if_neg e, decide_eq_false e]
  · rw [show (((l.length : Int) != (m.length : Int)) : Bool) = true by rw [bne_iff_ne]; omega, cond_true, decide_eq_false (fun e => hlen (by rw [e]))]
theorem sameStop_rounds {R : Type} {a b : List Stp} (ha : a.length ≤ big) (k0 : Bool → Option R) (k1 : Unit → Option R) : ∀ (ra rb pa pb : List Stp) (n : Nat), a = pa ++ ra → b = pb ++ rb → pa.length = pb.length → ra.length = rb.length → ra.length < n →
    sameStop_l4 n (stpRow a) (stpRow b) (pa.length : Int) k0 k1 = if ra = rb then k1 () else k0 false
  | [], rb, pa, pb, n, h1, h2, h3, h4, hn => by
    obtain ⟨m, rfl⟩ : ∃ m, n = m + 1 := ⟨n - 1, by omega⟩
    cases rb with
    | cons => simp at h4
    | nil =>
      simp only [List.append_nil] at h1
      subst h1
      unfold sameStop_l4
      rw [stpRow_length, decide_eq_false (by omega), cond_false, if_pos rfl]
  | x :: ra, rb, pa, pb, n, h1, h2, h3, h4, hn => by
    obtain ⟨m, rfl⟩ : ∃ m, n = m + 1 := ⟨n - 1, by omega⟩
    cases rb with
    | nil => simp at h4
    | cons y rb =>
      have hlen : a.length = pa.length + (ra.length + 1) := by rw [h1]; simp
      unfold big at ha
      unfold sameStop_l4
      have i1 : idx (stpRow a) (pa.length : Int) = some [.int .i64 x.1, .int .i64 x.2.1, .int .i64 x.2.2.1, .int .i64 x.2.2.2] := by rw [h1]; exact idx_stp pa x ra
      have i2 : idx (stpRow b) (pa.length : Int) = some [.int .i64 y.1, .int .i64 y.2.1, .int .i64 y.2.2.1, .int .i64 y.2.2.2] := by rw [h2, h3]; exact idx_stp pb y rb
      have hs : ∀ z : Stp, subAgg [.int .i64 z.1, .int .i64 z.2.1, .int .i64 z.2.2.1, .int .i64 z.2.2.2] 0 4 = some (.agg [.int .i64 z.1, .int .i64 z.2.1, .int .i64 z.2.2.1, .int .i64 z.2.2.2]) := fun _ => rfl
      have hg : ∀ z : Stp, PV.asAgg (.agg [.int .i64 z.1, .int .i64 z.2.1, .int .i64 z.2.2.1, .int .i64 z.2.2.2]) = some [.int .i64 z.1, .int .i64 z.2.1, .int .i64 z.2.2.1, .int .i64 z.2.2.2] := fun _ => rfl
      have hl3 : ∀ z : Stp, ([.int .i64 z.1, .int .i64 z.2.1, .int .i64 z.2.2.1, .int .i64 z.2.2.2] : List PV).length = 4 := fun _ => rfl
      rw [stpRow_length, decide_eq_true (by omega), cond_true, i1, i2]
      simp only [Option.bind_some, hl3, if_true, hs, hg, eqS4]
      by_cases hxy : x = y
      · subst hxy
        rw [decide_eq_true rfl, Bool.not_true, cond_false, wrapN (by omega) (by omega), show ((pa.length : Int) + 1) = ((pa ++ [x]).length : Int) by simp, sameStop_rounds (by unfold big; omega) k0 k1 ra rb (pa ++ [x]) (pb ++ [x]) m (by rw [h1]; simp) (by rw [h2]; simp) (by simp [h3]) (by simpa using h4) (by simp at hn; omega)]
        simp
      · rw [decide_eq_false hxy, Bool.not_false, cond_true, if_neg (by simp [hxy])]
theorem sameStop_ok : ∀ (a1 b2 : List (List PV)) (y : Bool), sSameStop a1 b2 = some y → ∃ n, ∀ (R : Type) (k : Bool → Option R), sameStop_b n a1 b2 k = k y := by
  intro a b y h
  unfold sSameStop at h
  obtain ⟨l, h1, h2⟩ := bind_inv h
  obtain ⟨m, h3, h4⟩ := bind_inv h2
  split at h4
  case isFalse => cases h4
  rename_i hl
  cases h4
  rw [(unStp_inv h1).1, (unStp_inv h3).1]
  refine ⟨l.length + 1, fun R k => ?_⟩
  unfold sameStop_b
  rw [stpRow_length, stpRow_length]
  by_cases hlen : l.length = m.length
  · rw [show (((l.length : Int) != (m.length : Int)) : Bool) = false by simp [hlen], cond_false]
    refine (sameStop_rounds hl k (fun _ => k true) l m [] [] (l.length + 1) rfl rfl rfl hlen (by omega)).trans ?_
    by_cases e : l = m
    · rw [if_pos e, decide_eq_true e]
    · rw [if_neg e, decide_eq_false e]
  · rw [show (((l.length : Int) != (m.length : Int)) : Bool) = true by rw [bne_iff_ne]; omega, cond_true, decide_eq_false (fun e => hlen (by rw [e]))]
theorem samePair_rounds {R : Type} {a b : List (Int × Int)} (ha : a.length ≤ big) (k0 : Bool → Option R) (k1 : Unit → Option R) : ∀ (ra rb pa pb : List (Int × Int)) (n : Nat), a = pa ++ ra → b = pb ++ rb → pa.length = pb.length → ra.length = rb.length → ra.length < n →
    samePair_l4 n (prRow a) (prRow b) (pa.length : Int) k0 k1 = if ra = rb then k1 () else k0 false
  | [], rb, pa, pb, n, h1, h2, h3, h4, hn => by
    obtain ⟨m, rfl⟩ : ∃ m, n = m + 1 := ⟨n - 1, by omega⟩
    cases rb with
    | cons => simp at h4
    | nil =>
      simp only [List.append_nil] at h1
      subst h1
      unfold samePair_l4
      rw [prRow_length, decide_eq_false (by omega), cond_false, if_pos rfl]
  | x :: ra, rb, pa, pb, n, h1, h2, h3, h4, hn => by
    obtain ⟨m, rfl⟩ : ∃ m, n = m + 1 := ⟨n - 1, by omega⟩
    cases rb with
    | nil => simp at h4
    | cons y rb =>
      have hlen : a.length = pa.length + (ra.length + 1) := by rw [h1]; simp
      unfold big at ha
      unfold samePair_l4
      have i1 : idx (prRow a) (pa.length : Int) = some [.int .i64 x.1, .int .i64 x.2] := by rw [h1]; exact idx_pr pa x ra
      have i2 : idx (prRow b) (pa.length : Int) = some [.int .i64 y.1, .int .i64 y.2] := by rw [h2, h3]; exact idx_pr pb y rb
      have hs : ∀ z : Int × Int, subAgg [.int .i64 z.1, .int .i64 z.2] 0 2 = some (.agg [.int .i64 z.1, .int .i64 z.2]) := fun _ => rfl
      have hg : ∀ z : Int × Int, PV.asAgg (.agg [.int .i64 z.1, .int .i64 z.2]) = some [.int .i64 z.1, .int .i64 z.2] := fun _ => rfl
      have hl3 : ∀ z : Int × Int, ([.int .i64 z.1, .int .i64 z.2] : List PV).length = 2 := fun _ => rfl
      rw [prRow_length, decide_eq_true (by omega), cond_true, i1, i2]
      simp only [Option.bind_some, hl3, if_true, hs, hg, eqP2]
      by_cases hxy : x = y
      · subst hxy
        rw [decide_eq_true rfl, Bool.not_true, cond_false, wrapN (by omega) (by omega), show ((pa.length : Int) + 1) = ((pa ++ [x]).length : Int) by simp, samePair_rounds (by unfold big; omega) k0 k1 ra rb (pa ++ [x]) (pb ++ [x]) m (by rw [h1]; simp) (by rw [h2]; simp) (by simp [h3]) (by simpa using h4) (by simp at hn; omega)]
        simp
      · rw [decide_eq_false hxy, Bool.not_false, cond_true, if_neg (by simp [hxy])]
theorem samePair_ok : ∀ (a1 b2 : List (List PV)) (y : Bool), sSamePair a1 b2 = some y → ∃ n, ∀ (R : Type) (k : Bool → Option R), samePair_b n a1 b2 k = k y := by
  intro a b y h
  unfold sSamePair at h
  obtain ⟨l, h1, h2⟩ := bind_inv h
  obtain ⟨m, h3, h4⟩ := bind_inv h2
  split at h4
  case isFalse => cases h4
  rename_i hl
  cases h4
  rw [(unPr_inv h1).1, (unPr_inv h3).1]
  refine ⟨l.length + 1, fun R k => ?_⟩
  unfold samePair_b
  rw [prRow_length, prRow_length]
  by_cases hlen : l.length = m.length
  · rw [show (((l.length : Int) != (m.length : Int)) : Bool) = false by simp [hlen], cond_false]
    refine (samePair_rounds hl k (fun _ => k true) l m [] [] (l.length + 1) rfl rfl rfl hlen (by omega)).trans ?_
    by_cases e : l = m
    · rw [if_pos e, decide_eq_true e]
    · rw [if_neg e, decide_eq_false e]
  · rw [show (((l.length : Int) != (m.length : Int)) : Bool) = true by rw [bne_iff_ne]; omega, cond_true, decide_eq_false (fun e => hlen (by rw [e]))]
theorem sameTr_rounds {R : Type} {a b : List (List Int)} (ha : a.length ≤ big) (hr : ∀ r ∈ a, r.length ≤ big) (ai : ∀ r ∈ a, ∀ n ∈ r, inI n = true) (bi : ∀ r ∈ b, ∀ n ∈ r, inI n = true) (e1 e2 e3 f1 f2 f3 : List (List PV)) (k0 : Bool → Option R) (k1 : Unit → Option R) : ∀ (ra rb pa pb : List (List Int)) (n : Nat), a = pa ++ ra → b = pb ++ rb → pa.length = pb.length → ra.length = rb.length → ra.length < n →
    sameInst_l4 n (a.length : Int) (pa.length : Int) e1 e2 e3 (trRow a) f1 f2 f3 (trRow b) k0 k1 = if ra = rb then k1 () else k0 false
  | [], rb, pa, pb, n, h1, h2, h3, h4, hn => by
    obtain ⟨m, rfl⟩ : ∃ m, n = m + 1 := ⟨n - 1, by omega⟩
    cases rb with
    | cons => simp at h4
    | nil =>
      simp only [List.append_nil] at h1
      subst h1
      unfold sameInst_l4
      rw [decide_eq_false (by omega), cond_false, if_pos rfl]
  | x :: ra, rb, pa, pb, n, h1, h2, h3, h4, hn => by
    obtain ⟨m, rfl⟩ : ∃ m, n = m + 1 := ⟨n - 1, by omega⟩
    cases rb with
    | nil => simp at h4
    | cons y rb =>
      have hlen : a.length = pa.length + (ra.length + 1) := by rw [h1]; simp
      have hS := sSameI_of (ai x (by rw [h1]; simp)) (bi y (by rw [h2]; simp)) (hr x (by rw [h1]; simp))
      have ha' := ha
      unfold big at ha'
      have i1 : idx (trRow a) (pa.length : Int) = some [.fs (iRow x)] := by rw [h1]; exact idx_tr pa x ra
      have i2 : idx (trRow b) (pa.length : Int) = some [.fs (iRow y)] := by rw [h2, h3]; exact idx_tr pb y rb
      have hfs : ∀ es : List (List PV), PV.asFs (.fs es) = some es := fun _ => rfl
      unfold sameInst_l4
      rw [decide_eq_true (by omega), cond_true, i1, i2]
      simp only [Option.bind_some, List.length_singleton, if_true, List.getElem?_cons_zero, hfs, hS, meet_self]
      by_cases hxy : x = y
      · subst hxy
        rw [decide_eq_true rfl, Bool.not_true, cond_false, wrapN (by omega) (by omega), show ((pa.length : Int) + 1) = ((pa ++ [x]).length : Int) by simp, sameTr_rounds ha hr ai bi e1 e2 e3 f1 f2 f3 k0 k1 ra rb (pa ++ [x]) (pb ++ [x]) m (by rw [h1]; simp) (by rw [h2]; simp) (by simp [h3]) (by simpa using h4) (by simp at hn; omega)]
        simp
      · rw [decide_eq_false hxy, Bool.not_false, cond_true, if_neg (by simp [hxy])]
theorem sameInst_ok : ∀ (a1 a2 a3 a4 b5 b6 b7 b8 : List (List PV)) (y : Bool), sSameInst a1 a2 a3 a4 b5 b6 b7 b8 = some y → ∃ n, ∀ (R : Type) (k : Bool → Option R), sameInst_b n a1 a2 a3 a4 b5 b6 b7 b8 k = k y := by
  intro a b c d e f g h y hy
  unfold sSameInst at hy
  obtain ⟨i, h1, h2⟩ := bind_inv hy
  obtain ⟨j, h3, h4⟩ := bind_inv h2
  split at h4
  case isFalse => cases h4
  rename_i hs
  cases h4
  obtain ⟨i1, i2, i3, i4, p1, p2, p3, p4⟩ := unInst_inv h1
  obtain ⟨j1, j2, j3, j4, q1, q2, q3, q4⟩ := unInst_inv h3
  obtain ⟨s1, s2, s3, s4, s5⟩ := smallI_parts hs.1
  have e1 : sSameCar a e = some (decide (i.cars = j.cars)) := by unfold sSameCar; rw [i1, j1, unCar_row p1, unCar_row q1, Option.bind_some, Option.bind_some, if_pos s1]
  have e2 : sSameStop b f = some (decide (i.stops = j.stops)) := by unfold sSameStop; rw [i2, j2, unStp_row p2, unStp_row q2, Option.bind_some, Option.bind_some, if_pos s2]
  have e3 : sSamePair c g = some (decide (i.pairs = j.pairs)) := by unfold sSamePair; rw [i3, j3, unPr_row p3, unPr_row q3, Option.bind_some, Option.bind_some, if_pos s3]
  refine ⟨i.travel.length + 1, fun R k => ?_⟩
  unfold sameInst_b sameI3
  rw [e1, Option.bind_some]
  cases decide (i.cars = j.cars) with
  | false => rfl
  | true =>
    rw [Bool.not_true, cond_false, e2, Option.bind_some]
    cases decide (i.stops = j.stops) with
    | false => rfl
    | true =>
      rw [Bool.not_true, cond_false, e3, Option.bind_some]
      cases decide (i.pairs = j.pairs) with
      | false => rfl
      | true =>
        rw [Bool.not_true, cond_false, i4, j4, trRow_length, trRow_length, Bool.true_and, Bool.true_and, Bool.true_and]
        by_cases hl : i.travel.length = j.travel.length
        · rw [show (((i.travel.length : Int) != (j.travel.length : Int)) : Bool) = false by simp [hl], cond_false]
          refine (sameTr_rounds s4 s5 (fun r hr n hn => (inI_iff n).2 (p4 r hr n hn)) (fun r hr n hn => (inI_iff n).2 (q4 r hr n hn)) a b c e f g k (fun _ => k true) i.travel j.travel [] [] (i.travel.length + 1) rfl rfl rfl hl (by omega)).trans ?_
          by_cases e : i.travel = j.travel
          · rw [if_pos e, decide_eq_true e]
          · rw [if_neg e, decide_eq_false e]
        · rw [show (((i.travel.length : Int) != (j.travel.length : Int)) : Bool) = true by rw [bne_iff_ne]; omega, cond_true, decide_eq_false (fun e => hl (by rw [e]))]

/-! Printed and read back. -/
def lw (w : List UInt8) (ns : List Int) : List (List UInt8) := w :: ns.map dig
def carN (c : Car) : List Int := [c.1, c.2.1, c.2.2]
def stopN (s : Stp) : List Int := [s.1, s.2.1, s.2.2.1, s.2.2.2]
def pairN (p : Int × Int) : List Int := [p.1, p.2]
def lineOk (w : List (List UInt8)) : Prop := w ≠ [] ∧ words (joinB w) = w ∧ ∀ b ∈ joinB w, b ≠ 10
theorem linesF_text : ∀ (ls : List (List (List UInt8))) (n : Nat) (out : List (List (List UInt8))), (∀ w ∈ ls, lineOk w) → ((ls.map fun w => joinB w ++ [10]).flatten).length < n →
    linesF n ((ls.map fun w => joinB w ++ [10]).flatten) out = some (out ++ ls)
  | [], n, out, _, hn => by
    obtain ⟨m, rfl⟩ : ∃ m, n = m + 1 := ⟨n - 1, by omega⟩
    simp [linesF]
  | w :: ls, n, out, h, hn => by
    obtain ⟨m, rfl⟩ : ∃ m, n = m + 1 := ⟨n - 1, by omega⟩
    obtain ⟨h1, h2, h3⟩ := h w (by simp)
    have e : ((w :: ls).map fun w => joinB w ++ [10]).flatten = joinB w ++ 10 :: (ls.map fun w => joinB w ++ [10]).flatten := by simp
    rw [e] at hn ⊢
    rw [List.length_append, List.length_cons] at hn
    rw [linesF, if_neg (by simp), cutAt_line _ h3]
    simp only
    rw [h2, if_pos ⟨trivial, h1, rfl⟩, linesF_text ls m _ (fun x hx => h x (by simp [hx])) (by omega)]
    simp
theorem lw_ok {w : List UInt8} {ns : List Int} (h0 : w ≠ []) (h1 : ∀ b ∈ w, b ≠ 32 ∧ b ≠ 10) (h : ∀ n ∈ ns, inI n = true) : lineOk (lw w ns) := by
  unfold lw lineOk
  rw [joinB_digs]
  refine ⟨by simp, words_line h0 (fun b hb => (h1 b hb).1) h, fun b hb => ?_⟩
  rcases List.mem_append.1 hb with hb | hb
  · exact (h1 b hb).2
  · unfold tailW at hb
    rw [List.mem_flatten] at hb
    obtain ⟨l, hl, hb⟩ := hb
    obtain ⟨n, hn, rfl⟩ := List.mem_map.1 hl
    rcases List.mem_cons.1 hb with rfl | hb
    · decide
    · intro e
      subst e
      rcases dig_chars (h n hn) 10 hb with h' | h'
      · exact absurd h' (by decide)
      · exact absurd h' (by decide)
theorem takeV_lines (word : List UInt8) (many : Int) (rest : List (List (List UInt8))) : ∀ {l : List (List Int)}, (∀ ns ∈ l, (0 ≤ many → (ns.length : Int) = many) ∧ 1 ≤ ns.length ∧ (∀ n ∈ ns, inI n = true) ∧ ns.all small18 = true) →
    takeV word many (l.map (lw word) ++ rest) = (l ++ (takeV word many rest).1, (takeV word many rest).2)
  | [], _ => by simp
  | ns :: l, h => by
    obtain ⟨h1, h2, h3, h4⟩ := h ns (by simp)
    have ih := takeV_lines word many rest (l := l) fun x hx => h x (by simp [hx])
    have hv : nextV (lw word ns :: (l.map (lw word) ++ rest)) word many = some ns := by
      rw [nextV_cons, if_pos ⟨rfl, fun hm => by have := h1 hm; simp only [lw, List.length_cons, List.length_map]; omega, by simp only [lw, List.length_cons, List.length_map]; omega⟩]
      show numsV (ns.map dig) = some ns
      rw [numsV_dig h3, if_pos h4]
    rw [List.map_cons, List.cons_append, takeV, hv, ih]
    rfl
theorem takeV_skip {word : List UInt8} {many : Int} {rest : List (List (List UInt8))} (h : ∀ w ∈ rest, w.head? ≠ some word) : takeV word many rest = ([], rest) := by
  cases rest with
  | nil => rfl
  | cons w rest =>
    have : nextV (w :: rest) word many = none := by
      unfold nextV
      exact if_neg fun hh => h w (by simp) hh.1
    exact takeV_none this
def instLines (i : Inst) : List (List (List UInt8)) := (i.cars.map carN).map (lw wCar) ++ ((i.stops.map stopN).map (lw wStop) ++ ((i.pairs.map pairN).map (lw wPair) ++ i.travel.map (lw wRowW)))
theorem instText_lines (i : Inst) : instText i = ((instLines i).map fun w => joinB w ++ [10]).flatten := by
  have e : ∀ (w : List UInt8) (ns : List Int), joinB (lw w ns) ++ [10] = lineN w ns := fun w ns => by
    unfold lw lineN
    rw [joinB_digs]
  unfold instText instLines
  simp only [List.map_append, List.flatten_append, List.map_map, Function.comp_def, e, List.append_assoc]
  rfl
theorem small_of {n : Int} (h0 : -1000 ≤ n) (h1 : n ≤ 1000) : inI n = true ∧ small18 n = true := by
  refine ⟨inI_of (by omega) (by omega), ?_⟩
  simp only [small18, decide_eq_true_eq]
  omega
theorem all_small {l : List Int} (h : ∀ n ∈ l, -1000 ≤ n ∧ n ≤ 1000) : (∀ n ∈ l, inI n = true) ∧ l.all small18 = true := by
  refine ⟨fun n hn => (small_of (h n hn).1 (h n hn).2).1, ?_⟩
  rw [List.all_eq_true]
  exact fun n hn => (small_of (h n hn).1 (h n hn).2).2
theorem pairsOk_in {s : List Stp} : ∀ {q : List (Int × Int)} {had : List Int}, pairsOk s q had = true → ∀ p ∈ q, (1 ≤ p.1 ∧ p.1 ≤ s.length) ∧ 1 ≤ p.2 ∧ p.2 ≤ s.length
  | [], _, _, _, hp => by cases hp
  | x :: q, had, h, p, hp => by
    rw [pairsOk] at h
    simp only [Bool.and_eq_true, fresh, inR_iff] at h
    rcases List.mem_cons.1 hp with rfl | hp
    · exact ⟨h.1.1, h.2.1.1⟩
    · exact pairsOk_in h.2.2.2.2 p hp
theorem cars_small {i : Inst} (h : checkI i = true) : ∀ c ∈ i.cars, ∀ n ∈ carN c, -1000 ≤ n ∧ n ≤ 1000 := by
  intro c hc n hn
  have h4 := (checkI_parts h).2.2.2.1
  rw [List.all_eq_true] at h4
  have := h4 c hc
  simp only [carOk, Bool.and_eq_true, inR_iff, decide_eq_true_eq] at this
  simp only [carN, List.mem_cons, List.not_mem_nil, or_false] at hn
  rcases hn with rfl | rfl | rfl <;> omega
theorem stops_small {i : Inst} (h : checkI i = true) : ∀ c ∈ i.stops, ∀ n ∈ stopN c, -1000 ≤ n ∧ n ≤ 1000 := by
  intro c hc n hn
  have h4 := (checkI_parts h).2.2.2.2.1
  rw [List.all_eq_true] at h4
  have := h4 c hc
  simp only [stpOk, Bool.and_eq_true, inR_iff, decide_eq_true_eq] at this
  simp only [stopN, List.mem_cons, List.not_mem_nil, or_false] at hn
  rcases hn with rfl | rfl | rfl | rfl <;> omega
theorem pairs_small {i : Inst} (h : checkI i = true) : ∀ c ∈ i.pairs, ∀ n ∈ pairN c, -1000 ≤ n ∧ n ≤ 1000 := by
  intro c hc n hn
  obtain ⟨-, h2, -, -, -, h6, -⟩ := checkI_parts h
  have := pairsOk_in h6 c hc
  simp only [pairN, List.mem_cons, List.not_mem_nil, or_false] at hn
  rcases hn with rfl | rfl <;> omega
theorem rows_small {i : Inst} (h : checkI i = true) : ∀ r ∈ i.travel, 1 ≤ r.length ∧ ∀ n ∈ r, -1000 ≤ n ∧ n ≤ 1000 := by
  intro r hr
  obtain ⟨-, -, h3, -, -, -, h7⟩ := checkI_parts h
  obtain ⟨g1, g2⟩ := rowsOk_len h7 r hr
  refine ⟨by omega, fun n hn => ?_⟩
  rw [List.all_eq_true] at g2
  have := (inR_iff _ _ _).1 (g2 n hn)
  omega
theorem instLines_ok {i : Inst} (h : checkI i = true) : ∀ w ∈ instLines i, lineOk w := by
  intro w hw
  unfold instLines at hw
  rcases List.mem_append.1 hw with hw | hw
  · obtain ⟨l, hl, rfl⟩ := List.mem_map.1 hw
    obtain ⟨c, hc, rfl⟩ := List.mem_map.1 hl
    exact lw_ok (by decide) (by decide) (all_small (cars_small h c hc)).1
  rcases List.mem_append.1 hw with hw | hw
  · obtain ⟨l, hl, rfl⟩ := List.mem_map.1 hw
    obtain ⟨c, hc, rfl⟩ := List.mem_map.1 hl
    exact lw_ok (by decide) (by decide) (all_small (stops_small h c hc)).1
  rcases List.mem_append.1 hw with hw | hw
  · obtain ⟨l, hl, rfl⟩ := List.mem_map.1 hw
    obtain ⟨c, hc, rfl⟩ := List.mem_map.1 hl
    exact lw_ok (by decide) (by decide) (all_small (pairs_small h c hc)).1
  · obtain ⟨l, hl, rfl⟩ := List.mem_map.1 hw
    exact lw_ok (by decide) (by decide) (all_small (rows_small h l hl).2).1
theorem head_lw {w word : List UInt8} {l : List (List Int)} (h : w ≠ word) : ∀ x ∈ l.map (lw w), x.head? ≠ some word := by
  intro x hx
  obtain ⟨ns, _, rfl⟩ := List.mem_map.1 hx
  simpa [lw] using h
theorem mem_app {α : Type} {p : α → Prop} {a b : List α} (h1 : ∀ x ∈ a, p x) (h2 : ∀ x ∈ b, p x) : ∀ x ∈ a ++ b, p x := by
  intro x hx
  rcases List.mem_append.1 hx with hx | hx
  · exact h1 x hx
  · exact h2 x hx
theorem instW_lines {i : Inst} (h : checkI i = true) : instW (instLines i) = (i, []) := by
  have t1 : takeV wCar 3 (instLines i) = (i.cars.map carN, (i.stops.map stopN).map (lw wStop) ++ ((i.pairs.map pairN).map (lw wPair) ++ i.travel.map (lw wRowW))) := by
    unfold instLines
    rw [takeV_lines, takeV_skip]
    · simp
    · exact mem_app (head_lw (by decide)) (mem_app (head_lw (by decide)) (head_lw (by decide)))
    · intro ns hn
      obtain ⟨c, hc, rfl⟩ := List.mem_map.1 hn
      have := all_small (cars_small h c hc)
      exact ⟨fun _ => rfl, by simp [carN], this.1, this.2⟩
  have t2 : takeV wStop 4 ((i.stops.map stopN).map (lw wStop) ++ ((i.pairs.map pairN).map (lw wPair) ++ i.travel.map (lw wRowW))) = (i.stops.map stopN, (i.pairs.map pairN).map (lw wPair) ++ i.travel.map (lw wRowW)) := by
    rw [takeV_lines, takeV_skip]
    · simp
    · exact mem_app (head_lw (by decide)) (head_lw (by decide))
    · intro ns hn
      obtain ⟨c, hc, rfl⟩ := List.mem_map.1 hn
      have := all_small (stops_small h c hc)
      exact ⟨fun _ => rfl, by simp [stopN], this.1, this.2⟩
  have t3 : takeV wPair 2 ((i.pairs.map pairN).map (lw wPair) ++ i.travel.map (lw wRowW)) = (i.pairs.map pairN, i.travel.map (lw wRowW)) := by
    rw [takeV_lines, takeV_skip]
    · simp
    · exact head_lw (by decide)
    · intro ns hn
      obtain ⟨c, hc, rfl⟩ := List.mem_map.1 hn
      have := all_small (pairs_small h c hc)
      exact ⟨fun _ => rfl, by simp [pairN], this.1, this.2⟩
  have t4 : takeV wRowW (-1) (i.travel.map (lw wRowW)) = (i.travel, []) := by
    have := takeV_lines wRowW (-1) [] (l := i.travel) fun ns hn => by
      have := rows_small h ns hn
      have h2 := all_small this.2
      exact ⟨fun hm => absurd hm (by decide), this.1, h2.1, h2.2⟩
    rw [List.append_nil] at this
    rw [this]
    simp [takeV]
  unfold instW
  simp only [t1, t2, t3, t4]
  simp only [List.map_map]
  rw [show toCar ∘ carN = id from rfl, show toStp ∘ stopN = id from rfl, show toPair ∘ pairN = id from rfl, List.map_id, List.map_id, List.map_id]
theorem parse_print {i : Inst} (h : checkI i = true) : parseI (instText i) = (i, 0) := by
  have hl : linesV (instText i) = some (instLines i) := by
    unfold linesV
    rw [instText_lines, linesF_text _ _ _ (instLines_ok h) (by omega), List.nil_append]
  unfold parseI
  rw [hl]
  simp only
  rw [instW_lines h]
  simp only [ne_eq, not_true_eq_false, if_false, h, if_true]

/-! Mates. -/
theorem pairsOk_cons {s : List Stp} {p : Int × Int} {q : List (Int × Int)} {had : List Int} (h : pairsOk s (p :: q) had = true) :
    (1 ≤ p.1 ∧ p.1 ≤ s.length) ∧ p.1 ∉ had ∧ (1 ≤ p.2 ∧ p.2 ≤ s.length) ∧ p.2 ∉ had ∧ p.2 ≠ p.1 ∧ pairsOk s q (had ++ [p.1, p.2]) = true := by
  rw [pairsOk] at h
  simp only [Bool.and_eq_true, fresh, inR_iff, Bool.not_eq_true', List.contains_eq_mem, decide_eq_false_iff_not, List.mem_append, List.mem_singleton, not_or] at h
  exact ⟨h.1.1, h.1.2, h.2.1.1, h.2.1.2.1, h.2.1.2.2, h.2.2.2.2⟩
theorem mateOf_cons (p : Int × Int) (q : List (Int × Int)) (y : Int) : mateOf (p :: q) y = if p.1 = y then p.2 else if p.2 = y then p.1 else mateOf q y := rfl
theorem mate_had {s : List Stp} : ∀ {q : List (Int × Int)} {had : List Int}, pairsOk s q had = true → ∀ x ∈ had, mateOf q x = 0 ∧ firstOf q x = false
  | [], _, _, _, _ => ⟨rfl, rfl⟩
  | p :: q, had, h, x, hx => by
    obtain ⟨-, h1, -, h2, -, h3⟩ := pairsOk_cons h
    have n1 : p.1 ≠ x := fun e => h1 (e ▸ hx)
    have n2 : p.2 ≠ x := fun e => h2 (e ▸ hx)
    have ih := mate_had h3 x (by simp [hx])
    unfold mateOf
    rw [if_neg n1, if_neg n2]
    refine ⟨ih.1, ?_⟩
    unfold firstOf at ih ⊢
    rw [List.any_cons, ih.2, Bool.or_false]
    simpa using n1
theorem mate_mate {s : List Stp} : ∀ {q : List (Int × Int)} {had : List Int}, pairsOk s q had = true → ∀ x, mateOf q x ≠ 0 → mateOf q x ∉ had ∧ mateOf q (mateOf q x) = x ∧ mateOf q x ≠ x ∧ firstOf q x ≠ firstOf q (mateOf q x)
  | [], _, _, _, h => absurd rfl h
  | p :: q, had, h, x, hx => by
    obtain ⟨r1, h1, r2, h2, hne, h3⟩ := pairsOk_cons h
    have m1 := mate_had h3 p.1 (by simp)
    have m2 := mate_had h3 p.2 (by simp)
    have f : ∀ z, firstOf (p :: q) z = (p.1 == z || firstOf q z) := fun z => rfl
    by_cases e1 : p.1 = x
    · have e : mateOf (p :: q) x = p.2 := by unfold mateOf; rw [if_pos e1]
      have e' : mateOf (p :: q) p.2 = p.1 := by unfold mateOf; rw [if_neg (fun h => hne h.symm), if_pos rfl]
      rw [e, e', f, f, m2.2]
      refine ⟨h2, e1, fun h => hne (h.trans e1.symm), ?_⟩
      rw [show (p.1 == x) = true by simp [e1], show (p.1 == p.2) = false by simpa using fun h => hne h.symm]
      simp
    by_cases e2 : p.2 = x
    · have e : mateOf (p :: q) x = p.1 := by unfold mateOf; rw [if_neg e1, if_pos e2]
      have e' : mateOf (p :: q) p.1 = p.2 := by unfold mateOf; rw [if_pos rfl]
      rw [e, e', f, f]
      refine ⟨h1, e2, e1, ?_⟩
      rw [show (p.1 == x) = false by simpa using e1, ← e2, m2.2, show (p.1 == p.1) = true by simp]
      simp
    have e : mateOf (p :: q) x = mateOf q x := by conv => lhs; unfold mateOf
                                                  rw [if_neg e1, if_neg e2]
    rw [e] at hx ⊢
    obtain ⟨g1, g2, g3, g4⟩ := mate_mate h3 x hx
    simp only [List.mem_append, List.mem_cons, List.not_mem_nil, or_false, not_or] at g1
    have e' : mateOf (p :: q) (mateOf q x) = mateOf q (mateOf q x) := by
      conv => lhs; unfold mateOf
      rw [if_neg (fun h => g1.2.1 h.symm), if_neg (fun h => g1.2.2 h.symm)]
    rw [e', f, f]
    refine ⟨g1.1, g2, g3, ?_⟩
    rw [show (p.1 == x) = false by simpa using e1, show (p.1 == mateOf q x) = false by simpa using fun h => g1.2.1 h.symm]
    simpa using g4
theorem mate_first {s : List Stp} : ∀ {q : List (Int × Int)} {had : List Int}, pairsOk s q had = true → ∀ x, mateOf q x = 0 → firstOf q x = false
  | [], _, _, _, _ => rfl
  | p :: q, had, h, x, hx => by
    obtain ⟨r1, h1, r2, h2, hne, h3⟩ := pairsOk_cons h
    unfold mateOf at hx
    split at hx
    · omega
    · rename_i e1
      split at hx
      · omega
      · have := mate_first h3 x hx
        unfold firstOf at this ⊢
        rw [List.any_cons, this, Bool.or_false]
        simpa using e1
theorem count3 {g : Int → Bool} {a b : Int} (hab : b ≠ a) (ga : g a = false) (gb : g b = false) : ∀ l : List Int, l.countP (fun y => y == a || (y == b || g y)) = l.count a + l.count b + l.countP g
  | [] => rfl
  | x :: l => by
    have ih := count3 hab ga gb l
    rw [List.countP_cons, List.countP_cons, List.count_cons, List.count_cons, ih]
    by_cases e1 : x = a
    · subst e1
      have : (x == b) = false := by simpa using fun h => hab h.symm
      simp [ga, this]
      omega
    · by_cases e2 : x = b
      · subst e2
        have : (x == a) = false := by simpa using e1
        simp [gb, this]
        omega
      · have h1 : (x == a) = false := by simpa using e1
        have h2 : (x == b) = false := by simpa using e2
        simp [h1, h2]
        omega
def upto (n : Nat) : List Int := (List.range n).map fun (j : Nat) => (j : Int) + 1
theorem upto_succ (n : Nat) : upto (n + 1) = upto n ++ [(n : Int) + 1] := by simp [upto, List.range_succ]
theorem upto_length (n : Nat) : (upto n).length = n := by simp [upto]
theorem count_upto (x : Int) : ∀ n : Nat, (upto n).count x = if 1 ≤ x ∧ x ≤ n then 1 else 0
  | 0 => by
    rw [if_neg (by omega)]
    rfl
  | n + 1 => by
    rw [upto_succ, List.count_append, count_upto x n, List.count_singleton]
    by_cases h : (n : Int) + 1 = x
    · rw [if_neg (show ¬(1 ≤ x ∧ x ≤ (n : Int)) by omega), show (((n : Int) + 1 == x) : Bool) = true by simpa using h, if_pos rfl, if_pos (by omega)]
    · rw [show (((n : Int) + 1 == x) : Bool) = false by simpa using h, if_neg (show ¬(false = true) by decide)]
      by_cases h2 : 1 ≤ x ∧ x ≤ n
      · rw [if_pos h2, if_pos (by omega)]
      · rw [if_neg h2, if_neg (by omega)]
def hasMate (q : List (Int × Int)) (x : Int) : Bool := mateOf q x != 0
def matesTo (q : List (Int × Int)) (n : Nat) : Nat := (upto n).countP (hasMate q)
theorem matesTo_all {s : List Stp} : ∀ {q : List (Int × Int)} {had : List Int}, pairsOk s q had = true → matesTo q s.length = 2 * q.length
  | [], _, _ => by
    unfold matesTo
    rw [List.countP_eq_zero.2 (fun x _ => by simp [hasMate, mateOf])]
    rfl
  | p :: q, had, h => by
    obtain ⟨r1, h1, r2, h2, hne, h3⟩ := pairsOk_cons h
    have ih := matesTo_all h3
    have m1 := mate_had h3 p.1 (by simp)
    have m2 := mate_had h3 p.2 (by simp)
    have e : hasMate (p :: q) = fun y => y == p.1 || (y == p.2 || hasMate q y) := by
      funext y
      unfold hasMate
      rw [mateOf_cons]
      by_cases e1 : p.1 = y
      · rw [if_pos e1, show (y == p.1) = true by simp [e1], Bool.true_or, bne_iff_ne]
        omega
      · rw [if_neg e1, show (y == p.1) = false by simpa using fun h => e1 h.symm, Bool.false_or]
        by_cases e2 : p.2 = y
        · rw [if_pos e2, show (y == p.2) = true by simp [e2], Bool.true_or, bne_iff_ne]
          omega
        · rw [if_neg e2, show (y == p.2) = false by simpa using fun h => e2 h.symm, Bool.false_or]
    unfold matesTo at ih ⊢
    rw [e, count3 hne (by simp [hasMate, m1.1]) (by simp [hasMate, m2.1]), count_upto, count_upto, if_pos r1, if_pos r2, ih, List.length_cons]
    omega
theorem matesTo_le (q : List (Int × Int)) (n : Nat) : matesTo q n ≤ n := by
  have := List.countP_le_length (p := hasMate q) (l := upto n)
  rw [upto_length] at this
  exact this
theorem matesTo_succ (q : List (Int × Int)) (n : Nat) : matesTo q (n + 1) = matesTo q n + if hasMate q ((n : Int) + 1) = true then 1 else 0 := by
  unfold matesTo
  rw [upto_succ, List.countP_append, List.countP_singleton]
theorem back_rounds {R : Type} {i : Inst} {a b c d : List (List PV)} (g : Given i a b c d) (hp : pairsOk i.stops i.pairs [] = true) (hs : i.stops.length ≤ 10) (k0 : Bool → Option R) (k1 : Int → List (List PV) → List (List PV) → List (List PV) → List (List PV) → Option R) : ∀ (r j n : Nat), j + r = i.stops.length → r < n →
    instBack_l8 n (matesTo i.pairs j : Int) ((j : Int) + 1) a b c d k0 k1 = k1 (matesTo i.pairs i.stops.length : Int) a b c d
  | 0, j, n, hj, hn => by
    obtain ⟨m, rfl⟩ : ∃ m, n = m + 1 := ⟨n - 1, by omega⟩
    have e2 := (unInst_inv g.un).2.1
    have hl : b.length = i.stops.length := by rw [e2, stpRow_length]
    unfold instBack_l8
    rw [hl, decide_eq_false (by omega), cond_false, show j = i.stops.length by omega]
  | r + 1, j, n, hj, hn => by
    obtain ⟨m, rfl⟩ : ∃ m, n = m + 1 := ⟨n - 1, by omega⟩
    have ih := back_rounds g hp hs k0 k1 r (j + 1) m (by omega) (by omega)
    have e2 := (unInst_inv g.un).2.1
    have hl : b.length = i.stops.length := by rw [e2, stpRow_length]
    have hk : IntKind.i64.wrap ((j : Int) + 1 + 1) = ((j + 1 : Nat) : Int) + 1 := (wrapN (by omega) (by omega)).trans (by omega)
    have hm := matesTo_succ i.pairs j
    have hle := matesTo_le i.pairs j
    unfold instBack_l8
    rw [hl, decide_eq_true (by omega), cond_true, g.mate, Option.bind_some, hk]
    by_cases h0 : mateOf i.pairs ((j : Int) + 1) = 0
    · rw [show ((mateOf i.pairs ((j : Int) + 1) == 0) : Bool) = true by simp [h0], cond_true, g.first, Option.bind_some, mate_first hp _ h0, cond_false]
      have hm' : matesTo i.pairs (j + 1) = matesTo i.pairs j := by rw [hm, if_neg (by simp [hasMate, h0])]; rfl
      rw [← hm']
      exact ih
    · obtain ⟨-, g2, g3, g4⟩ := mate_mate hp _ h0
      rw [show ((mateOf i.pairs ((j : Int) + 1) == 0) : Bool) = false by simp [h0], cond_false, g.mate, Option.bind_some, g2, show (((j : Int) + 1 != (j : Int) + 1) : Bool) = false by simp, cond_false]
      simp only [g.first, Option.bind_some]
      rw [meet_self, show ((firstOf i.pairs ((j : Int) + 1) == firstOf i.pairs (mateOf i.pairs ((j : Int) + 1))) : Bool) = false by simpa using g4, cond_false, show ((mateOf i.pairs ((j : Int) + 1) == (j : Int) + 1) : Bool) = false by simpa using g3, cond_false]
      rw [if_pos (by simpa [hasMate] using h0)] at hm
      have hk2 : IntKind.i64.wrap ((matesTo i.pairs j : Int) + 1) = (matesTo i.pairs (j + 1) : Int) := (wrapN (by omega) (by omega)).trans (by rw [hm]; omega)
      rw [hk2]
      exact ih
theorem wakes03_ok : wakes03_d = some true := by
  have g1 : Given ⟨[], [], [], []⟩ [] [] [] [] := given_of (i := ⟨[], [], [], []⟩) (by simp) (by simp) (by simp) (by simp) (by simp [smallI])
  have g2 : Given ⟨[(0, 0, 5)], [], [], [[0]]⟩ [[(PV.int .i64 0), (PV.int .i64 0), (PV.int .i64 5)]] [] [] [[(PV.fs [[(PV.int .i64 0)]])]] := given_of (i := ⟨[(0, 0, 5)], [], [], [[0]]⟩) (by simp; decide) (by simp) (by simp) (by simp; decide) (by simp [smallI, big])
  unfold wakes03_d wakes03_b
  rw [iCheck_of g1, iCheck_of g2, Option.bind_some, Option.bind_some, if_neg (by decide), if_pos (by decide)]
  rfl
theorem instBack_ok : ∀ (l1 : List (List PV)) (y : Bool), sInstBack l1 = some y → ∃ n, ∀ (R : Type) (k : Bool → Option R), instBack_b n l1 k = k y := by
  intro es y h
  unfold sInstBack at h
  obtain ⟨l, h1, h2⟩ := bind_inv h
  split at h2
  case isFalse => cases h2
  rename_i hl
  cases h2
  obtain ⟨rfl, hz⟩ := unI_inv h1
  have hck := instOf_check l
  have g := (instOf_given l).1
  have hP := sPInst_of hz hl
  generalize instOf l = i at hck g hP
  obtain ⟨c1, c2, c3, c4, c5, c6, c7⟩ := checkI_parts hck
  obtain ⟨t1, t2, t3, t4⟩ := instText_len g hck
  have hmt := matesTo_all c6
  have hml := matesTo_le i.pairs i.stops.length
  have hlen : (instText i).length ≤ lim := by
    rw [instText_eq]
    simp only [List.length_append]
    unfold lim
    omega
  have hPr : sIPrint (carRow i.cars) (stpRow i.stops) (prRow i.pairs) (trRow i.travel) = some (text (instText i), 0) := by
    unfold sIPrint
    rw [g.un, Option.bind_some, if_pos g.small, if_pos hck]
  have hPa : sIParse (text (instText i)) = some (carRow i.cars, stpRow i.stops, prRow i.pairs, trRow i.travel, 0) := by
    unfold sIParse
    rw [text_size, if_pos hlen, text_data, parse_print hck]
  have hSa : sSameInst (carRow i.cars) (stpRow i.stops) (prRow i.pairs) (trRow i.travel) (carRow i.cars) (stpRow i.stops) (prRow i.pairs) (trRow i.travel) = some true := by
    unfold sSameInst
    rw [g.un, Option.bind_some, Option.bind_some, if_pos ⟨g.small, g.small⟩]
    simp [sameI3]
  refine ⟨i.stops.length + 1, fun R k => ?_⟩
  unfold instBack_b
  rw [hP, Option.bind_some]
  simp only
  rw [hPr, Option.bind_some]
  simp only
  rw [hPa, Option.bind_some]
  simp only
  rw [show (((0 : Int) != 0) : Bool) = false from rfl, cond_false, cond_false, hSa, Option.bind_some, Bool.not_true, cond_false, iCheck_of g, Option.bind_some, if_pos hck, show (((0 : Int) != 0) : Bool) = false from rfl, cond_false]
  have := fun k1 => back_rounds (R := R) g c6 c2 k k1 i.stops.length 0 (i.stops.length + 1) (by omega) (by omega)
  rw [show matesTo i.pairs 0 = 0 from rfl] at this
  refine (this _).trans ?_
  rw [prRow_length, hmt, wrapN (by omega) (by omega), show ((((2 * i.pairs.length : Nat) : Int) == 2 * (i.pairs.length : Int)) : Bool) = true by rw [beq_iff_eq]; omega, cond_true, wakes03_ok, Option.bind_some]
end Go.Proofs.YtkeklbicmfhemabGreatDoorV
