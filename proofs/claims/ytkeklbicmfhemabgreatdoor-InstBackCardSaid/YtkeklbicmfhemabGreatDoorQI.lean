/- Problems made of numbers: what the maker comes to. -/
import Derived.Test.YtkeklbicmfhemabGreatDoorSI
import Derived.Test.YtkeklbicmfhemabGreatDoorQ02
import Derived.Test.YtkeklbicmfhemabGreatDoorDP
import Derived.Test.YtkeklbicmfhemabGreatDoorQIp
namespace Go.Proofs.YtkeklbicmfhemabGreatDoorV
open Go
set_option maxRecDepth 20000
set_option linter.unusedSimpArgs false

/-! Rows. -/
theorem wn_bounds (n : Int) {m : Nat} (h : 0 < m) : 0 ≤ wn n m ∧ wn n m < m := ⟨Int.emod_nonneg _ (by omega), Int.emod_lt_of_pos _ (by omega)⟩
theorem within_wn (n : Int) (m : Nat) (h : 0 < m) (h' : m < 1000000) : within_d n (m : Int) = some (wn n m) := within_val n (by omega) (by omega)
theorem w_2 (n : Int) : within_d n 2 = some (wn n 2) := within_wn n 2 (by omega) (by omega)
theorem w_3 (n : Int) : within_d n 3 = some (wn n 3) := within_wn n 3 (by omega) (by omega)
theorem w_4 (n : Int) : within_d n 4 = some (wn n 4) := within_wn n 4 (by omega) (by omega)
theorem w_6 (n : Int) : within_d n 6 = some (wn n 6) := within_wn n 6 (by omega) (by omega)
theorem w_7 (n : Int) : within_d n 7 = some (wn n 7) := within_wn n 7 (by omega) (by omega)
theorem w_8 (n : Int) : within_d n 8 = some (wn n 8) := within_wn n 8 (by omega) (by omega)
theorem w_9 (n : Int) : within_d n 9 = some (wn n 9) := within_wn n 9 (by omega) (by omega)
theorem w_11 (n : Int) : within_d n 11 = some (wn n 11) := within_wn n 11 (by omega) (by omega)
theorem w_12 (n : Int) : within_d n 12 = some (wn n 12) := within_wn n 12 (by omega) (by omega)
theorem w_14 (n : Int) : within_d n 14 = some (wn n 14) := within_wn n 14 (by omega) (by omega)
theorem w_17 (n : Int) : within_d n 17 = some (wn n 17) := within_wn n 17 (by omega) (by omega)
theorem w_20 (n : Int) : within_d n 20 = some (wn n 20) := within_wn n 20 (by omega) (by omega)
theorem w_30 (n : Int) : within_d n 30 = some (wn n 30) := within_wn n 30 (by omega) (by omega)
theorem w_40 (n : Int) : within_d n 40 = some (wn n 40) := within_wn n 40 (by omega) (by omega)
theorem w_1000 (n : Int) : within_d n 1000 = some (wn n 1000) := within_wn n 1000 (by omega) (by omega)
theorem asI_int (n : Int) : PV.asI .i64 (.int .i64 n) = some n := rfl
theorem asFs_fs (es : List (List PV)) : PV.asFs (.fs es) = some es := rfl
theorem idx_iAt {l : List Int} {j : Nat} (h : j < l.length) : idx (iRow l) (j : Int) = some [PV.int .i64 (l.getD j 0)] := by
  rw [idx_nat, iRow, List.getElem?_map, List.getElem?_eq_getElem h, List.getD_eq_getElem?_getD, List.getElem?_eq_getElem h]
  rfl
theorem pNum_ok {l : List Int} (hl : l.length ≤ maxLen) (k : Nat) (hk : k ≤ 1000) : pNum_d (iRow l) (k : Int) = some (numV l k) := by
  unfold pNum_d pNum_b numV
  rw [iRow_length]
  unfold maxLen at hl
  by_cases h0 : l = []
  · subst h0
    rw [if_pos rfl, show (((([] : List Int).length : Nat) : Int) == 0) = true from rfl, cond_true]
    rfl
  · have hpos : 0 < l.length := List.length_pos_iff.2 h0
    rw [if_neg h0, show (((l.length : Nat) : Int) == 0) = false by rw [beq_eq_false_iff_ne]; omega, cond_false, if_neg (by omega)]
    have e1 : Int.tmod (k : Int) (l.length : Int) = ((k % l.length : Nat) : Int) := by rw [Int.tmod_eq_emod_of_nonneg (by omega)]; rfl
    have e2 : Int.tdiv (k : Int) (l.length : Int) = ((k / l.length : Nat) : Int) := by rw [Int.tdiv_eq_ediv_of_nonneg (by omega)]; rfl
    have hm : k % l.length < l.length := Nat.mod_lt _ hpos
    have hd : k / l.length ≤ k := Nat.div_le_self _ _
    rw [e1, e2, idx_iAt hm]
    generalize k / l.length = j at hd
    generalize k % l.length = i at hm
    have hw : IntKind.i64.wrap (j : Int) = (j : Int) := wrapN (by omega) (by omega)
    have hw1 : IntKind.i64.wrap (1 + (j : Int)) = 1 + (j : Int) := wrapN (by omega) (by omega)
    simp only [Option.bind_some, List.length_singleton, if_true, List.getElem?_cons_zero, asI_int, w64, hw, hw1]
    rw [if_neg (by omega), if_neg (by omega), if_neg (by omega)]
theorem tab_cap : ∀ y : Int, 0 ≤ y → y < 4 → (([[(PV.int .i64 20)], [(PV.int .i64 60)], [(PV.int .i64 9)], [(PV.int .i64 30)]] : List (List PV))[Int.toNat y]?) = some [PV.int .i64 (([20, 60, 9, 30] : List Int).getD y.toNat 0)] := by
  intro y h0 h4
  have : y = 0 ∨ y = 1 ∨ y = 2 ∨ y = 3 := by omega
  rcases this with rfl | rfl | rfl | rfl <;> rfl
theorem tab_end : ∀ y : Int, 0 ≤ y → y < 4 → (([[(PV.int .i64 1000)], [(PV.int .i64 200)], [(PV.int .i64 90)], [(PV.int .i64 60)]] : List (List PV))[Int.toNat y]?) = some [PV.int .i64 (([1000, 200, 90, 60] : List Int).getD y.toNat 0)] := by
  intro y h0 h4
  have : y = 0 ∨ y = 1 ∨ y = 2 ∨ y = 3 := by omega
  rcases this with rfl | rfl | rfl | rfl <;> rfl
theorem tab_close : ∀ y : Int, 0 ≤ y → y < 4 → (([[(PV.int .i64 900)], [(PV.int .i64 60)], [(PV.int .i64 25)], [(PV.int .i64 8)]] : List (List PV))[Int.toNat y]?) = some [PV.int .i64 (([900, 60, 25, 8] : List Int).getD y.toNat 0)] := by
  intro y h0 h4
  have : y = 0 ∨ y = 1 ∨ y = 2 ∨ y = 3 := by omega
  rcases this with rfl | rfl | rfl | rfl <;> rfl
theorem close_small (y : Int) : 0 ≤ ([900, 60, 25, 8] : List Int).getD y.toNat 0 ∧ ([900, 60, 25, 8] : List Int).getD y.toNat 0 ≤ 900 := by
  generalize y.toNat = j
  match j with
  | 0 => decide
  | 1 => decide
  | 2 => decide
  | 3 => decide
  | j + 4 => simp

/-! Cars. -/
theorem range_snoc {α : Type} (f : Nat → α) (k : Nat) : (List.range k).map f ++ [f k] = (List.range (k + 1)).map f := by rw [List.range_succ, List.map_append]; rfl
theorem carRow_append (a b : List Car) : carRow (a ++ b) = carRow a ++ carRow b := by simp [carRow]
theorem stpRow_append (a b : List Stp) : stpRow (a ++ b) = stpRow a ++ stpRow b := by simp [stpRow]
theorem prRow_append (a b : List (Int × Int)) : prRow (a ++ b) = prRow a ++ prRow b := by simp [prRow]
theorem trRow_append (a b : List (List Int)) : trRow (a ++ b) = trRow a ++ trRow b := by simp [trRow]
theorem iRow_append (a b : List Int) : iRow (a ++ b) = iRow a ++ iRow b := by simp [iRow]
theorem cars_rounds {R : Type} {l : List Int} (hl : l.length ≤ maxLen) (k0 : List (List PV) → List (List PV) → Option R) : ∀ (f k n : Nat), k + f = 1 + (wn (numV l 0) 3).toNat → f < n →
    pInst_l4 n (iRow l) (k : Int) (carRow ((List.range k).map (carAt l))) k0 = k0 (iRow l) (carRow (carsOf l))
  | f, k, n, hk, hn => by
    obtain ⟨m, rfl⟩ : ∃ m, n = m + 1 := ⟨n - 1, by omega⟩
    have hb := wn_bounds (numV l 0) (m := 3) (by omega)
    unfold pInst_l4
    have p0 : pNum_d (iRow l) 0 = some (numV l 0) := pNum_ok hl 0 (by omega)
    rw [p0, Option.bind_some, w_3, Option.bind_some, wrapN (by omega) (by omega)]
    cases f with
    | zero =>
      rw [decide_eq_false (by omega), cond_false]
      unfold carsOf
      rw [show k = 1 + (wn (numV l 0) 3).toNat by omega]
    | succ f =>
      rw [decide_eq_true (by omega), cond_true, wrapN (n := 1 + (k : Int)) (by omega) (by omega), show (1 + (k : Int)) = ((1 + k : Nat) : Int) by omega, pNum_ok hl (1 + k) (by omega), Option.bind_some]
      have ih := cars_rounds hl k0 f (k + 1) m (by omega) (by omega)
      have b1 := wn_bounds (numV l (1 + k)) (m := 4) (by omega)
      have b3 := wn_bounds (w64 (Int.tdiv (numV l (1 + k)) 36)) (m := 4) (by omega)
      unfold w64 at b3
      have hlen : (carRow ((List.range k).map (carAt l))).length = k := by simp [carRow]
      have hsz : ∀ x y z : PV, ((carRow ((List.range k).map (carAt l))).length + ([[x, y, z]] : List (List PV)).length) * 24 ≤ maxBytes := by
        intro x y z
        rw [hlen]
        unfold maxBytes
        simp
        omega
      have hrow : carRow ((List.range k).map (carAt l)) ++ [[PV.int .i64 (([20, 60, 9, 30] : List Int).getD (wn (numV l (1 + k)) 4).toNat 0), PV.int .i64 (wn (IntKind.i64.wrap (Int.tdiv (numV l (1 + k)) 4)) 9), PV.int .i64 (([1000, 200, 90, 60] : List Int).getD (wn (IntKind.i64.wrap (Int.tdiv (numV l (1 + k)) 36)) 4).toNat 0)]] = carRow ((List.range (k + 1)).map (carAt l)) := by
        rw [← range_snoc, carRow_append]
        rfl
      have e0 : ∀ n : Int, ([PV.int .i64 n] : List PV)[0]? = some (PV.int .i64 n) := fun _ => rfl
      have hk1 : IntKind.i64.wrap ((k : Int) + 1) = ((k + 1 : Nat) : Int) := (wrapN (by omega) (by omega)).trans (by omega)
      have c1 : wn (numV l (1 + k)) 4 < 4 := b1.2
      have c3 : wn (IntKind.i64.wrap (Int.tdiv (numV l (1 + k)) 36)) 4 < 4 := b3.2
      have t1 := tab_cap _ b1.1 c1
      have t3 := tab_end _ b3.1 c3
      simp only [w_4, w_9, Option.bind_some, b1.1, c1, b3.1, c3, and_self, if_true, t1, t3, e0, asI_int, hsz, meet_self, hrow, hk1, ih]

/-! Stops. -/
theorem stops_rounds {R : Type} {l : List Int} (hl : l.length ≤ maxLen) (cs : List (List PV)) (k0 : List (List PV) → Int → List (List PV) → List (List PV) → Option R) : ∀ (f k n : Nat), k + f = sizeOf' l → f < n →
    pInst_l10 n (iRow l) (sizeOf' l : Int) (k : Int) cs (stpRow ((List.range k).map (stopAt l))) k0 = k0 (iRow l) (sizeOf' l : Int) cs (stpRow (stopsOf l))
  | f, k, n, hk, hn => by
    obtain ⟨m, rfl⟩ : ∃ m, n = m + 1 := ⟨n - 1, by omega⟩
    have hb := wn_bounds (numV l 4) (m := 7) (by omega)
    have hsz8 : sizeOf' l ≤ 8 := by unfold sizeOf'; omega
    unfold pInst_l10
    cases f with
    | zero =>
      rw [decide_eq_false (by omega), cond_false]
      unfold stopsOf
      rw [show k = sizeOf' l by omega]
    | succ f =>
      rw [decide_eq_true (by omega), cond_true, wrapN (n := 5 + (k : Int)) (by omega) (by omega), show (5 + (k : Int)) = ((5 + k : Nat) : Int) by omega, pNum_ok hl (5 + k) (by omega), Option.bind_some]
      have ih := stops_rounds hl cs k0 f (k + 1) m (by omega) (by omega)
      have b1 := wn_bounds (w64 (Int.tdiv (numV l (5 + k)) 7)) (m := 4) (by omega)
      have b2 := wn_bounds (w64 (Int.tdiv (numV l (5 + k)) 8)) (m := 30) (by omega)
      have b4 := wn_bounds (w64 (Int.tdiv (numV l (5 + k)) 9)) (m := 4) (by omega)
      have hcl := close_small (wn (w64 (Int.tdiv (numV l (5 + k)) 7)) 4)
      have hlen : (stpRow ((List.range k).map (stopAt l))).length = k := by simp [stpRow]
      have hsz : ∀ x y z t : PV, ((stpRow ((List.range k).map (stopAt l))).length + ([[x, y, z, t]] : List (List PV)).length) * 32 ≤ maxBytes := by
        intro x y z t
        rw [hlen]
        unfold maxBytes
        simp
        omega
      have e0 : ∀ n : Int, ([PV.int .i64 n] : List PV)[0]? = some (PV.int .i64 n) := fun _ => rfl
      have hk1 : IntKind.i64.wrap ((k : Int) + 1) = ((k + 1 : Nat) : Int) := (wrapN (by omega) (by omega)).trans (by omega)
      have c3 : wn (w64 (Int.tdiv (numV l (5 + k)) 7)) 4 < 4 := b1.2
      have t3 := tab_close _ b1.1 c3
      have hclose : IntKind.i64.wrap (wn (w64 (Int.tdiv (numV l (5 + k)) 8)) 30 + ([900, 60, 25, 8] : List Int).getD (wn (w64 (Int.tdiv (numV l (5 + k)) 7)) 4).toNat 0) = wn (w64 (Int.tdiv (numV l (5 + k)) 8)) 30 + ([900, 60, 25, 8] : List Int).getD (wn (w64 (Int.tdiv (numV l (5 + k)) 7)) 4).toNat 0 := wrapN (by omega) (by omega)
      have hneg : IntKind.i64.wrap (-1 - wn (w64 (Int.tdiv (numV l (5 + k)) 9)) 4) = -1 - wn (w64 (Int.tdiv (numV l (5 + k)) 9)) 4 := wrapN (by omega) (by omega)
      have q : ∀ k1 : List (List PV) → Int → Int → List (List PV) → List (List PV) → Option R, pInst_q16 m (iRow l) (sizeOf' l : Int) (k : Int) (numV l (5 + k)) cs (stpRow ((List.range k).map (stopAt l))) (wn (numV l (5 + k)) 8) (wn (w64 (Int.tdiv (numV l (5 + k)) 8)) 30)
          (if (1000 : Int) < wn (w64 (Int.tdiv (numV l (5 + k)) 8)) 30 + ([900, 60, 25, 8] : List Int).getD (wn (w64 (Int.tdiv (numV l (5 + k)) 7)) 4).toNat 0 then (1000 : Int) else wn (w64 (Int.tdiv (numV l (5 + k)) 8)) 30 + ([900, 60, 25, 8] : List Int).getD (wn (w64 (Int.tdiv (numV l (5 + k)) 7)) 4).toNat 0) (wn (w64 (Int.tdiv (numV l (5 + k)) 240)) 6) k1 =
          k1 (iRow l) (sizeOf' l : Int) (k : Int) cs (stpRow ((List.range (k + 1)).map (stopAt l))) := by
        intro k1
        unfold pInst_q16
        rw [w_9, Option.bind_some, ← range_snoc, stpRow_append]
        have hat : stpRow [stopAt l k] = [[PV.int .i64 (if wn (numV l (5 + k)) 9 = 8 then -1 - wn (w64 (Int.tdiv (numV l (5 + k)) 9)) 4 else wn (numV l (5 + k)) 8), PV.int .i64 (wn (w64 (Int.tdiv (numV l (5 + k)) 8)) 30), PV.int .i64 (if (1000 : Int) < wn (w64 (Int.tdiv (numV l (5 + k)) 8)) 30 + ([900, 60, 25, 8] : List Int).getD (wn (w64 (Int.tdiv (numV l (5 + k)) 7)) 4).toNat 0 then (1000 : Int) else wn (w64 (Int.tdiv (numV l (5 + k)) 8)) 30 + ([900, 60, 25, 8] : List Int).getD (wn (w64 (Int.tdiv (numV l (5 + k)) 7)) 4).toNat 0), PV.int .i64 (wn (w64 (Int.tdiv (numV l (5 + k)) 240)) 6)]] := rfl
        rw [hat]
        by_cases h8 : wn (numV l (5 + k)) 9 = 8
        · rw [h8, beq_self_eq_true, cond_true, if_pos rfl]
          unfold w64 at hneg
          rw [w_4, Option.bind_some, if_pos (hsz _ _ _ _), hneg]
          rfl
        · rw [show (wn (numV l (5 + k)) 9 == 8) = false by simpa using h8, cond_false, if_neg h8, if_pos (hsz _ _ _ _)]
      unfold w64 at c3 b1 t3 hclose q
      simp only [w_8, w_30, w_6, w_4, Option.bind_some, b1.1, c3, and_self, if_true, t3, e0, asI_int, hclose, q, hk1, ih, meet_self]

theorem setDemand_length (s : List Stp) (j : Nat) (d : Int) : (setDemand s j d).length = s.length := by simp [setDemand]
theorem pairStep_length (l : List Int) (k : Nat) (s : List Stp) : (pairStep l k s).length = s.length := by simp [pairStep, setDemand_length]
theorem stp_set {s : List Stp} {j : Nat} (d : Int) : (stpRow s).set j (List.set [.int .i64 (s.getD j (0, 0, 0, 0)).1, .int .i64 (s.getD j (0, 0, 0, 0)).2.1, .int .i64 (s.getD j (0, 0, 0, 0)).2.2.1, .int .i64 (s.getD j (0, 0, 0, 0)).2.2.2] 0 (.int .i64 d)) = stpRow (setDemand s j d) := by
  unfold stpRow setDemand
  rw [List.map_set]
  rfl
theorem pair_step {R : Type} {l : List Int} (hl : l.length ≤ maxLen) (cs : List (List PV)) (s : List Stp) (p : List (Int × Int)) (k m : Nat) (size : Int) (hk : k ≤ 2) (hs : 2 * k + 2 ≤ s.length) (hs8 : s.length ≤ 8) (hp : p.length ≤ 10) (k0 : List (List PV) → Int → Int → List (List PV) → List (List PV) → List (List PV) → Option R) :
    pInst_q25 m (iRow l) size (k : Int) ((pairOf l k).1 : Int) ((pairOf l k).2 : Int) cs (stpRow s) (prRow p) k0 = k0 (iRow l) size (k : Int) cs (stpRow (pairStep l k s)) (prRow (p ++ [(((pairOf l k).1 : Int), ((pairOf l k).2 : Int))])) := by
  unfold pInst_q25
  rw [wrapN (n := 16 + (k : Int)) (by omega) (by omega), show (16 + (k : Int)) = ((16 + k : Nat) : Int) by omega, pNum_ok hl (16 + k) (by omega), Option.bind_some, w_9, Option.bind_some]
  have hd := wn_bounds (numV l (16 + k)) (m := 9) (by omega)
  have hab : 1 ≤ (pairOf l k).1 ∧ (pairOf l k).1 ≤ s.length ∧ 1 ≤ (pairOf l k).2 ∧ (pairOf l k).2 ≤ s.length := by
    unfold pairOf
    split <;> simp only <;> omega
  unfold pairStep
  generalize wn (numV l (16 + k)) 9 = d at hd
  generalize (pairOf l k).1 = a at hab
  generalize (pairOf l k).2 = b at hab
  obtain ⟨a1, a2, b1, b2⟩ := hab
  have ha : IntKind.i64.wrap ((a : Int) - 1) = ((a - 1 : Nat) : Int) := by
    by_cases h : (a : Int) < 9223372036854775808
    · rw [wrapN (by omega) (by omega)]; omega
    · omega
  have hb : IntKind.i64.wrap ((b : Int) - 1) = ((b - 1 : Nat) : Int) := by
    by_cases h : (b : Int) < 9223372036854775808
    · rw [wrapN (by omega) (by omega)]; omega
    · omega
  have hneg : IntKind.i64.wrap (0 - d) = -d := (wrapN (by omega) (by omega)).trans (by omega)
  have e0 : ∀ (s : List Stp) (j : Nat), ([.int .i64 (s.getD j (0, 0, 0, 0)).1, .int .i64 (s.getD j (0, 0, 0, 0)).2.1, .int .i64 (s.getD j (0, 0, 0, 0)).2.2.1, .int .i64 (s.getD j (0, 0, 0, 0)).2.2.2] : List PV)[0]? = some (.int .i64 (s.getD j (0, 0, 0, 0)).1) := fun _ _ => rfl
  have ga := stp_at (s := s) (j := a - 1) (by omega)
  have gb := stp_at (s := setDemand s (a - 1) d) (j := b - 1) (by rw [setDemand_length]; omega)
  have c1 : 0 ≤ ((a - 1 : Nat) : Int) ∧ ((a - 1 : Nat) : Int) < ((stpRow s).length : Int) := by rw [stpRow_length]; omega
  have c2 : 0 ≤ ((b - 1 : Nat) : Int) ∧ ((b - 1 : Nat) : Int) < ((stpRow (setDemand s (a - 1) d)).length : Int) := by rw [stpRow_length, setDemand_length]; omega
  have hfin : ∀ s', pInst_q27 m (iRow l) size (k : Int) (a : Int) (b : Int) cs s' (prRow p) k0 = k0 (iRow l) size (k : Int) cs s' (prRow (p ++ [((a : Int), (b : Int))])) := by
    intro s'
    unfold pInst_q27
    rw [if_pos (by rw [prRow, List.length_map]; unfold maxBytes; simp; omega), prRow_append]
    rfl
  simp only [ha, hb, hneg, Int.toNat_natCast, ga, e0, Option.bind_some, stp_set, gb, if_pos c1, if_pos c2, hfin, meet_self]
theorem pairs_rounds {R : Type} {l : List Int} (hl : l.length ≤ maxLen) (cs : List (List PV)) (size : Nat) (hsz : size ≤ 8) (k0 : List (List PV) → Int → List (List PV) → List (List PV) → List (List PV) → Option R) : ∀ (f k n : Nat) (s : List Stp) (p : List (Int × Int)), k + f = 4 → f < n → s.length = size → p.length ≤ k → k ≤ (wn (numV l 14) 3).toNat →
    pInst_l19 n (iRow l) (size : Int) (k : Int) cs (stpRow s) (prRow p) k0 = k0 (iRow l) (size : Int) cs (stpRow (pairsFrom l size f k s p).1) (prRow (pairsFrom l size f k s p).2)
  | f, k, n, s, p, hk, hn, hs, hp, hkw => by
    obtain ⟨m, rfl⟩ : ∃ m, n = m + 1 := ⟨n - 1, by omega⟩
    have hb := wn_bounds (numV l 14) (m := 3) (by omega)
    cases f with
    | zero => omega
    | succ f =>
      unfold pInst_l19 pairsFrom
      have p14 : pNum_d (iRow l) 14 = some (numV l 14) := pNum_ok hl 14 (by omega)
      rw [p14, Option.bind_some, w_3, Option.bind_some]
      by_cases h1 : k < (wn (numV l 14) 3).toNat
      · rw [decide_eq_true (by omega), cond_true]
        have e2 : IntKind.i64.wrap (IntKind.i64.wrap (2 * (k : Int)) + 2) = 2 * (k : Int) + 2 := by rw [wrapN (n := 2 * (k : Int)) (by omega) (by omega), wrapN (by omega) (by omega)]
        rw [e2]
        by_cases h2 : 2 * k + 2 ≤ size
        · rw [decide_eq_true (by omega), cond_true, if_pos ⟨h1, h2⟩, wrapN (n := 15 + (k : Int)) (by omega) (by omega), show (15 + (k : Int)) = ((15 + k : Nat) : Int) by omega, pNum_ok hl (15 + k) (by omega), Option.bind_some, w_2, Option.bind_some]
          have st := pair_step hl cs s p k m (size : Int) (by omega) (by omega) (by omega) (by omega) (fun l228 size229 k230 es231 es232 es233 => pInst_l19 m l228 size229 (IntKind.i64.wrap (k230 + (1 : Int))) es231 es232 es233 k0)
          have hk1 : IntKind.i64.wrap ((k : Int) + 1) = ((k + 1 : Nat) : Int) := (wrapN (by omega) (by omega)).trans (by omega)
          have ih := pairs_rounds hl cs size hsz k0 f (k + 1) m (pairStep l k s) (p ++ [(((pairOf l k).1 : Int), ((pairOf l k).2 : Int))]) (by omega) (by omega) (by rw [pairStep_length, hs]) (by simp; omega) (by omega)
          rw [hk1, ih] at st
          have e1 : IntKind.i64.wrap (IntKind.i64.wrap (2 * (k : Int)) + 1) = 2 * (k : Int) + 1 := by rw [wrapN (n := 2 * (k : Int)) (by omega) (by omega), wrapN (by omega) (by omega)]
          rw [e1]
          unfold pairOf at st ⊢
          by_cases h3 : wn (numV l (15 + k)) 2 = 1
          · rw [h3, beq_self_eq_true, cond_true]
            simp only [h3, if_true] at st ⊢
            rw [show ((2 * k + 2 : Nat) : Int) = 2 * (k : Int) + 2 by omega, show ((2 * k + 1 : Nat) : Int) = 2 * (k : Int) + 1 by omega] at st ⊢
            exact st
          · rw [show (wn (numV l (15 + k)) 2 == 1) = false by simpa using h3, cond_false]
            simp only [h3, if_false] at st ⊢
            rw [show ((2 * k + 2 : Nat) : Int) = 2 * (k : Int) + 2 by omega, show ((2 * k + 1 : Nat) : Int) = 2 * (k : Int) + 1 by omega] at st ⊢
            exact st
        · rw [decide_eq_false (by omega), cond_false, if_neg (fun h => h2 h.2)]
      · rw [decide_eq_false (by omega), cond_false, if_neg (fun h => h1 h.1)]

/-! Travel. -/
theorem row_rounds {R : Type} {l : List Int} (hl : l.length ≤ maxLen) (cs ss ps ts : List (List PV)) (size a : Nat) (hsz : size ≤ 8) (ha : a ≤ 8) (k0 : List (List PV) → Int → Int → List (List PV) → List (List PV) → List (List PV) → List (List PV) → List (List PV) → Option R) : ∀ (f b n : Nat), b + f = size + 1 → f < n →
    pInst_l32 n (iRow l) (size : Int) (a : Int) (b : Int) cs ss ps ts (iRow ((List.range b).map (tripAt l a))) k0 = k0 (iRow l) (size : Int) (a : Int) cs ss ps ts (iRow ((List.range (size + 1)).map (tripAt l a)))
  | f, b, n, hb, hn => by
    obtain ⟨m, rfl⟩ : ∃ m, n = m + 1 := ⟨n - 1, by omega⟩
    unfold pInst_l32
    cases f with
    | zero =>
      rw [decide_eq_false (by omega), cond_false, show b = size + 1 by omega]
    | succ f =>
      have ih := row_rounds hl cs ss ps ts size a hsz ha k0 f (b + 1) m (by omega) (by omega)
      have e3 : IntKind.i64.wrap (IntKind.i64.wrap (20 + IntKind.i64.wrap (3 * (a : Int))) + IntKind.i64.wrap (5 * (b : Int))) = ((20 + 3 * a + 5 * b : Nat) : Int) := by
        rw [wrapN (n := 3 * (a : Int)) (by omega) (by omega), wrapN (n := 5 * (b : Int)) (by omega) (by omega), wrapN (n := 20 + 3 * (a : Int)) (by omega) (by omega), wrapN (by omega) (by omega)]
        omega
      have hbd := wn_bounds (numV l (20 + 3 * a + 5 * b)) (m := 14) (by omega)
      have hb1 : IntKind.i64.wrap ((b : Int) + 1) = ((b + 1 : Nat) : Int) := (wrapN (by omega) (by omega)).trans (by omega)
      have hlen : ∀ x : PV, ((iRow ((List.range b).map (tripAt l a))).length + ([[x]] : List (List PV)).length) * 8 ≤ maxBytes := by
        intro x
        rw [iRow_length]
        unfold maxBytes
        simp
        omega
      rw [decide_eq_true (by omega), cond_true, e3, pNum_ok hl _ (by omega), Option.bind_some, w_14, Option.bind_some, hb1]
      have hrow : ∀ x : Int, tripAt l a b = x → iRow ((List.range b).map (tripAt l a)) ++ [[PV.int .i64 x]] = iRow ((List.range (b + 1)).map (tripAt l a)) := by
        intro x hx
        rw [← range_snoc, iRow_append, hx]
        rfl
      by_cases hab : a = b
      · rw [show ((a : Int) == (b : Int)) = true by simp [hab], cond_true, if_pos (hlen _), hrow 0 (by unfold tripAt; rw [if_pos hab]), ih]
      · rw [show ((a : Int) == (b : Int)) = false by rw [beq_eq_false_iff_ne]; omega, cond_false, if_pos (hlen _), hrow _ (by unfold tripAt; rw [if_neg hab]; exact (wrapN (by omega) (by omega)).symm), ih]
theorem travel_rounds {R : Type} {l : List Int} (hl : l.length ≤ maxLen) (cs ss ps : List (List PV)) (size : Nat) (hsz : size ≤ 8) (k0 : List (List PV) → List (List PV) → List (List PV) → List (List PV) → Option R) : ∀ (f a n : Nat), a + f = size + 1 → f + 12 < n →
    pInst_l28 n (iRow l) (size : Int) (a : Int) cs ss ps (trRow ((List.range a).map fun a => (List.range (size + 1)).map (tripAt l a))) k0 = k0 cs ss ps (trRow ((List.range (size + 1)).map fun a => (List.range (size + 1)).map (tripAt l a)))
  | f, a, n, ha, hn => by
    obtain ⟨m, rfl⟩ : ∃ m, n = m + 1 := ⟨n - 1, by omega⟩
    unfold pInst_l28
    cases f with
    | zero =>
      rw [decide_eq_false (by omega), cond_false, show a = size + 1 by omega]
    | succ f =>
      have ih := travel_rounds hl cs ss ps size hsz k0 f (a + 1) m (by omega) (by omega)
      have ha1 : IntKind.i64.wrap ((a : Int) + 1) = ((a + 1 : Nat) : Int) := (wrapN (by omega) (by omega)).trans (by omega)
      rw [decide_eq_true (by omega), cond_true]
      have r := fun k1 => row_rounds (R := R) hl cs ss ps (trRow ((List.range a).map fun a => (List.range (size + 1)).map (tripAt l a))) size a hsz (by omega) k1 (size + 1) 0 m (by omega) (by omega)
      refine (r _).trans ?_
      rw [if_pos (by rw [trRow, List.length_map, List.length_map, List.length_range]; unfold maxBytes; simp; omega), ha1]
      have hrow : trRow ((List.range a).map fun a => (List.range (size + 1)).map (tripAt l a)) ++ [[PV.fs (iRow ((List.range (size + 1)).map (tripAt l a)))]] = trRow ((List.range (a + 1)).map fun a => (List.range (size + 1)).map (tripAt l a)) := by
        rw [← range_snoc (fun a => (List.range (size + 1)).map (tripAt l a)), trRow_append]
        rfl
      rw [hrow, ih]
theorem pInst_ok : ∀ (l1 : List (List PV)) (y : List (List PV) × List (List PV) × List (List PV) × List (List PV)), sPInst l1 = some y → ∃ n, ∀ (R : Type) (k : List (List PV) → List (List PV) → List (List PV) → List (List PV) → Option R), pInst_b n l1 k = k y.1 y.2.1 y.2.2.1 y.2.2.2 := by
  intro es y h
  simp only [sPInst, Option.bind_eq_some_iff] at h
  obtain ⟨l, h1, h2⟩ := h
  split at h2
  case isFalse => cases h2
  rename_i hl
  cases h2
  rw [(unI_inv h1).1]
  refine ⟨40, fun R k => ?_⟩
  have hb := wn_bounds (numV l 4) (m := 7) (by omega)
  have hb0 := wn_bounds (numV l 0) (m := 3) (by omega)
  have hb14 := wn_bounds (numV l 14) (m := 3) (by omega)
  have hsz8 : sizeOf' l ≤ 8 := by unfold sizeOf'; omega
  unfold pInst_b
  have c := fun k0 => cars_rounds (R := R) hl k0 (1 + (wn (numV l 0) 3).toNat) 0 40 (by omega) (by omega)
  refine (c _).trans ?_
  have p4 : pNum_d (iRow l) 4 = some (numV l 4) := pNum_ok hl 4 (by omega)
  rw [p4, Option.bind_some, w_7, Option.bind_some, wrapN (by omega) (by omega), show (2 + wn (numV l 4) 7) = (sizeOf' l : Int) by unfold sizeOf'; omega]
  have s := fun k0 => stops_rounds (R := R) hl (carRow (carsOf l)) k0 (sizeOf' l) 0 40 (by omega) (by omega)
  refine (s _).trans ?_
  have p := fun k0 => pairs_rounds (R := R) hl (carRow (carsOf l)) (sizeOf' l) hsz8 k0 4 0 40 (stopsOf l) [] (by omega) (by omega) (by simp [stopsOf]) (by simp) (by omega)
  refine (p _).trans ?_
  have t := fun cs ss ps => travel_rounds (R := R) hl cs ss ps (sizeOf' l) hsz8 k (sizeOf' l + 1) 0 40 (by omega) (by omega)
  refine (t _ _ _).trans ?_
  rfl
end Go.Proofs.YtkeklbicmfhemabGreatDoorV
