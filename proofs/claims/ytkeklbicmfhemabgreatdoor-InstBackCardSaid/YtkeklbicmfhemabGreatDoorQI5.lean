/- The problems that numbers make: small ones. -/
import Derived.Test.YtkeklbicmfhemabGreatDoorQI
namespace Go.Proofs.YtkeklbicmfhemabGreatDoorV
open Go
set_option maxRecDepth 20000
set_option linter.unusedSimpArgs false

theorem getD_in {l : List Int} (h : l.all (fun x => inI x) = true) (j : Nat) : inI (l.getD j 0) = true := by
  rw [List.getD_eq_getElem?_getD]
  cases hj : l[j]? with
  | none => decide
  | some x => exact List.all_eq_true.1 h x (List.mem_of_getElem? hj)
def okStp (c : Stp) : Prop := inI c.1 = true ∧ inI c.2.1 = true ∧ inI c.2.2.1 = true ∧ inI c.2.2.2 = true
theorem stopAt_in (l : List Int) (k : Nat) : okStp (stopAt l k) := by
  have b0 := wn_bounds (numV l (5 + k)) (m := 8) (by omega)
  have b1 := wn_bounds (w64 (Int.tdiv (numV l (5 + k)) 8)) (m := 30) (by omega)
  have b2 := wn_bounds (w64 (Int.tdiv (numV l (5 + k)) 240)) (m := 6) (by omega)
  have b4 := wn_bounds (w64 (Int.tdiv (numV l (5 + k)) 9)) (m := 4) (by omega)
  have hc := close_small (wn (w64 (Int.tdiv (numV l (5 + k)) 7)) 4)
  unfold okStp stopAt
  refine ⟨?_, inI_of (by simp only; omega) (by simp only; omega), ?_, inI_of (by simp only; omega) (by simp only; omega)⟩
  · simp only
    split
    · exact inI_of (by omega) (by omega)
    · exact inI_of (by omega) (by omega)
  · simp only
    split
    · decide
    · exact inI_of (by omega) (by omega)
theorem setDemand_in {s : List Stp} (h : ∀ c ∈ s, okStp c) (j : Nat) {d : Int} (hd : inI d = true) : ∀ c ∈ setDemand s j d, okStp c := by
  intro c hc
  unfold setDemand at hc
  rcases List.mem_or_eq_of_mem_set hc with h' | rfl
  · exact h c h'
  · have : okStp (s.getD j (0, 0, 0, 0)) := by
      rw [List.getD_eq_getElem?_getD]
      cases hj : s[j]? with
      | none => exact ⟨by decide, by decide, by decide, by decide⟩
      | some x => exact h x (List.mem_of_getElem? hj)
    exact ⟨hd, this.2⟩
theorem pairStep_in {s : List Stp} (h : ∀ c ∈ s, okStp c) (l : List Int) (k : Nat) : ∀ c ∈ pairStep l k s, okStp c := by
  have b := wn_bounds (numV l (16 + k)) (m := 9) (by omega)
  unfold pairStep
  exact setDemand_in (setDemand_in h _ (inI_of (by omega) (by omega))) _ (inI_of (by omega) (by omega))
theorem pairsFrom_in (l : List Int) (size : Nat) (hs : size ≤ 8) : ∀ (f k : Nat) (s : List Stp) (p : List (Int × Int)), (∀ c ∈ s, okStp c) → (∀ c ∈ p, 0 ≤ c.1 ∧ c.1 ≤ 8 ∧ 0 ≤ c.2 ∧ c.2 ≤ 8) →
    (∀ c ∈ (pairsFrom l size f k s p).1, okStp c) ∧ (∀ c ∈ (pairsFrom l size f k s p).2, 0 ≤ c.1 ∧ c.1 ≤ 8 ∧ 0 ≤ c.2 ∧ c.2 ≤ 8) ∧ (pairsFrom l size f k s p).1.length = s.length ∧ (pairsFrom l size f k s p).2.length ≤ p.length + f
  | 0, k, s, p, h1, h2 => ⟨h1, h2, rfl, by simp [pairsFrom]⟩
  | f + 1, k, s, p, h1, h2 => by
    unfold pairsFrom
    split
    · rename_i hk
      obtain ⟨i1, i2, i3, i4⟩ := pairsFrom_in l size hs f (k + 1) (pairStep l k s) (p ++ [(((pairOf l k).1 : Int), ((pairOf l k).2 : Int))]) (pairStep_in h1 l k) (fun c hc => by
        rcases List.mem_append.1 hc with hc | hc
        · exact h2 c hc
        · simp only [List.mem_singleton] at hc
          subst hc
          unfold pairOf
          split <;> simp only <;> omega)
      refine ⟨i1, i2, by rw [i3, pairStep_length], ?_⟩
      rw [List.length_append, List.length_singleton] at i4
      omega
    · exact ⟨h1, h2, rfl, Nat.le_add_right _ _⟩
theorem instOf_given (l : List Int) : Given (instOf l) (carRow (instOf l).cars) (stpRow (instOf l).stops) (prRow (instOf l).pairs) (trRow (instOf l).travel) ∧ 1 ≤ (instOf l).cars.length := by
  have hb := wn_bounds (numV l 4) (m := 7) (by omega)
  have hb0 := wn_bounds (numV l 0) (m := 3) (by omega)
  have hsz8 : sizeOf' l ≤ 8 := by unfold sizeOf'; omega
  obtain ⟨p1, p2, p3, p4⟩ := pairsFrom_in l (sizeOf' l) hsz8 4 0 (stopsOf l) [] (fun c hc => by
    unfold stopsOf at hc
    obtain ⟨k, _, rfl⟩ := List.mem_map.1 hc
    exact stopAt_in l k) (fun c hc => by cases hc)
  have hcl : (instOf l).cars.length = 1 + (wn (numV l 0) 3).toNat := by simp [instOf, carsOf]
  have hsl : (instOf l).stops.length = sizeOf' l := by
    show (pairsFrom l (sizeOf' l) 4 0 (stopsOf l) []).1.length = _
    rw [p3]
    simp [stopsOf]
  have hpl : (instOf l).pairs.length ≤ 4 := by
    have h := p4
    rw [List.length_nil, Nat.zero_add] at h
    exact h
  have htl : (instOf l).travel.length = sizeOf' l + 1 := by simp [instOf, travelOf]
  refine ⟨⟨?_, ?_⟩, by omega⟩
  · unfold unInst
    rw [unCar_row, unStp_row, unPr_row, unTr_row]
    · rfl
    · intro r hr n hn
      simp only [instOf, travelOf] at hr
      obtain ⟨a, _, rfl⟩ := List.mem_map.1 hr
      obtain ⟨b, _, rfl⟩ := List.mem_map.1 hn
      have hw := wn_bounds (numV l (20 + 3 * a + 5 * b)) (m := 14) (by omega)
      unfold tripAt
      split <;> omega
    · intro c hc
      have := p2 c hc
      exact ⟨inI_of (by omega) (by omega), inI_of (by omega) (by omega)⟩
    · exact p1
    · intro c hc
      simp only [instOf, carsOf] at hc
      obtain ⟨k, _, rfl⟩ := List.mem_map.1 hc
      have b2 := wn_bounds (w64 (Int.tdiv (numV l (1 + k)) 4)) (m := 9) (by omega)
      unfold carAt
      exact ⟨getD_in (by decide) _, inI_of (by simp only; omega) (by simp only; omega), getD_in (by decide) _⟩
  · simp only [smallI, Bool.and_eq_true, decide_eq_true_eq, List.all_eq_true]
    unfold big
    refine ⟨by omega, by omega, by omega, by omega, fun r hr => ?_⟩
    simp only [instOf, travelOf] at hr
    obtain ⟨a, _, rfl⟩ := List.mem_map.1 hr
    simp
    omega
theorem sPInst_of {l : List Int} (h1 : ∀ n ∈ l, -9223372036854775808 ≤ n ∧ n < 9223372036854775808) (h2 : l.length ≤ maxLen) : sPInst (iRow l) = some (carRow (instOf l).cars, stpRow (instOf l).stops, prRow (instOf l).pairs, trRow (instOf l).travel) := by
  unfold sPInst
  rw [unI_row h1, Option.bind_some, if_pos h2]
theorem big_max {n : Nat} (h : n ≤ big) : n ≤ maxLen := by unfold big at h; unfold maxLen; omega
/-! Each is one that may be. -/
theorem inR_iff (n lo hi : Int) : inR n lo hi = true ↔ lo ≤ n ∧ n ≤ hi := by simp [inR]
theorem carOk_mk {a b c : Int} (h1 : 0 ≤ a) (h2 : a ≤ 60) (h3 : 0 ≤ b) (h4 : b ≤ c) (h5 : c ≤ 1000) : carOk (a, b, c) = true := by
  unfold carOk
  rw [Bool.and_eq_true, Bool.and_eq_true, inR_iff, inR_iff]
  exact ⟨⟨h1, h2⟩, ⟨h3, h4⟩, decide_eq_true h5⟩
theorem stpOk_mk {a b c d : Int} (h1 : -20 ≤ a) (h2 : a ≤ 20) (h3 : 0 ≤ b) (h4 : b ≤ c) (h5 : c ≤ 1000) (h6 : 0 ≤ d) (h7 : d ≤ 1000) : stpOk (a, b, c, d) = true := by
  unfold stpOk
  rw [Bool.and_eq_true, Bool.and_eq_true, Bool.and_eq_true, inR_iff, inR_iff, inR_iff]
  exact ⟨⟨h1, h2⟩, ⟨h3, h4⟩, decide_eq_true h5, h6, h7⟩
theorem carsOf_ok (l : List Int) : (carsOf l).all carOk = true := by
  rw [List.all_eq_true]
  intro c hc
  unfold carsOf at hc
  obtain ⟨k, _, rfl⟩ := List.mem_map.1 hc
  have b1 := wn_bounds (numV l (1 + k)) (m := 4) (by omega)
  have b2 := wn_bounds (w64 (Int.tdiv (numV l (1 + k)) 4)) (m := 9) (by omega)
  have b3 := wn_bounds (w64 (Int.tdiv (numV l (1 + k)) 36)) (m := 4) (by omega)
  have t1 : ∀ y : Int, 0 ≤ y → y < 4 → 0 ≤ ([20, 60, 9, 30] : List Int).getD y.toNat 0 ∧ ([20, 60, 9, 30] : List Int).getD y.toNat 0 ≤ 60 := by
    intro y h0 h1
    obtain rfl | rfl | rfl | rfl : y = 0 ∨ y = 1 ∨ y = 2 ∨ y = 3 := by omega
    all_goals decide
  have t3 : ∀ y : Int, 0 ≤ y → y < 4 → 60 ≤ ([1000, 200, 90, 60] : List Int).getD y.toNat 0 ∧ ([1000, 200, 90, 60] : List Int).getD y.toNat 0 ≤ 1000 := by
    intro y h0 h1
    obtain rfl | rfl | rfl | rfl : y = 0 ∨ y = 1 ∨ y = 2 ∨ y = 3 := by omega
    all_goals decide
  have u1 := t1 _ b1.1 b1.2
  have u3 := t3 _ b3.1 b3.2
  exact carOk_mk u1.1 u1.2 b2.1 (by omega) u3.2
theorem stopAt_ok (l : List Int) (k : Nat) : stpOk (stopAt l k) = true := by
  have b1 := wn_bounds (numV l (5 + k)) (m := 8) (by omega)
  have b2 := wn_bounds (w64 (Int.tdiv (numV l (5 + k)) 8)) (m := 30) (by omega)
  have b4 := wn_bounds (w64 (Int.tdiv (numV l (5 + k)) 9)) (m := 4) (by omega)
  have b5 := wn_bounds (w64 (Int.tdiv (numV l (5 + k)) 240)) (m := 6) (by omega)
  have hc := close_small (wn (w64 (Int.tdiv (numV l (5 + k)) 7)) 4)
  exact stpOk_mk (by split <;> omega) (by split <;> omega) b2.1 (by split <;> omega) (by split <;> omega) b5.1 (by omega)
theorem setDemand_ok {s : List Stp} (h : s.all stpOk = true) (j : Nat) {d : Int} (h0 : -20 ≤ d) (h1 : d ≤ 20) : (setDemand s j d).all stpOk = true := by
  by_cases hj : j < s.length
  · rw [List.all_eq_true] at h ⊢
    intro c hc
    unfold setDemand at hc
    rcases List.mem_or_eq_of_mem_set hc with hc | rfl
    · exact h c hc
    · have := h _ (List.getElem_mem hj)
      rw [List.getD_eq_getElem?_getD, List.getElem?_eq_getElem hj, Option.getD_some]
      simp only [stpOk, Bool.and_eq_true, inR_iff, decide_eq_true_eq] at this ⊢
      exact ⟨⟨h0, h1⟩, this.2⟩
  · unfold setDemand
    rw [List.set_eq_of_length_le (by omega)]
    exact h
theorem demand_same (s : List Stp) (j : Nat) (d : Int) (h : j < s.length) : ((setDemand s j d).getD j (0, 0, 0, 0)).1 = d := by
  unfold setDemand
  rw [List.getD_eq_getElem?_getD, List.getElem?_set_self h]
  rfl
theorem demand_other (s : List Stp) {j k : Nat} (d : Int) (h : j ≠ k) : ((setDemand s j d).getD k (0, 0, 0, 0)).1 = (s.getD k (0, 0, 0, 0)).1 := by
  unfold setDemand
  rw [List.getD_eq_getElem?_getD, List.getElem?_set_ne h, ← List.getD_eq_getElem?_getD]
theorem pairStep_len (l : List Int) (k : Nat) (s : List Stp) : (pairStep l k s).length = s.length := pairStep_length l k s
theorem pairOf_cases (l : List Int) (k : Nat) : pairOf l k = (2 * k + 2, 2 * k + 1) ∨ pairOf l k = (2 * k + 1, 2 * k + 2) := by
  unfold pairOf
  split
  · exact .inl rfl
  · exact .inr rfl
/-- What a step makes of two stops. -/
theorem pairStep_here (l : List Int) (k : Nat) {s : List Stp} (h : 2 * k + 2 ≤ s.length) : ∃ d : Int, 0 ≤ d ∧ d ≤ 8 ∧ ((pairStep l k s).getD ((pairOf l k).1 - 1) (0, 0, 0, 0)).1 = d ∧ ((pairStep l k s).getD ((pairOf l k).2 - 1) (0, 0, 0, 0)).1 = -d := by
  have b := wn_bounds (numV l (16 + k)) (m := 9) (by omega)
  refine ⟨wn (numV l (16 + k)) 9, b.1, by omega, ?_, ?_⟩
  · unfold pairStep
    simp only
    rcases pairOf_cases l k with e | e <;> rw [e]
    · rw [demand_other _ _ (by simp), demand_same _ _ _ (by simp; omega)]
    · rw [demand_other _ _ (by simp), demand_same _ _ _ (by simp; omega)]
  · unfold pairStep
    simp only
    rcases pairOf_cases l k with e | e <;> rw [e] <;> rw [demand_same _ _ _ (by rw [setDemand_length]; simp; omega)]
theorem pairStep_else (l : List Int) (k : Nat) (s : List Stp) {j : Nat} (h1 : j ≠ 2 * k) (h2 : j ≠ 2 * k + 1) : ((pairStep l k s).getD j (0, 0, 0, 0)).1 = (s.getD j (0, 0, 0, 0)).1 := by
  unfold pairStep
  simp only
  rcases pairOf_cases l k with e | e <;> rw [e]
  · rw [demand_other _ _ (by simp; omega), demand_other _ _ (by simp; omega)]
  · rw [demand_other _ _ (by simp; omega), demand_other _ _ (by simp; omega)]
theorem pairStep_all (l : List Int) (k : Nat) {s : List Stp} (h : s.all stpOk = true) : (pairStep l k s).all stpOk = true := by
  have b := wn_bounds (numV l (16 + k)) (m := 9) (by omega)
  unfold pairStep
  exact setDemand_ok (setDemand_ok h _ (by omega) (by omega)) _ (by omega) (by omega)
theorem pairsFrom_ok (l : List Int) (size : Nat) : ∀ (f k : Nat) (s : List Stp) (p : List (Int × Int)), s.length = size → s.all stpOk = true → p.length = k →
    (∀ j, j < k → ∃ d : Int, 0 ≤ d ∧ (p.getD j (0, 0) = (((pairOf l j).1 : Int), ((pairOf l j).2 : Int))) ∧ 2 * j + 2 ≤ size ∧ (s.getD ((pairOf l j).1 - 1) (0, 0, 0, 0)).1 = d ∧ (s.getD ((pairOf l j).2 - 1) (0, 0, 0, 0)).1 = -d) →
    (pairsFrom l size f k s p).1.length = size ∧ (pairsFrom l size f k s p).1.all stpOk = true ∧
    (∀ j, j < (pairsFrom l size f k s p).2.length → ∃ d : Int, 0 ≤ d ∧ ((pairsFrom l size f k s p).2.getD j (0, 0) = (((pairOf l j).1 : Int), ((pairOf l j).2 : Int))) ∧ 2 * j + 2 ≤ size ∧ ((pairsFrom l size f k s p).1.getD ((pairOf l j).1 - 1) (0, 0, 0, 0)).1 = d ∧ ((pairsFrom l size f k s p).1.getD ((pairOf l j).2 - 1) (0, 0, 0, 0)).1 = -d)
  | 0, k, s, p, h1, h2, h3, h4 => ⟨h1, h2, fun j hj => h4 j (by rw [← h3]; exact hj)⟩
  | f + 1, k, s, p, h1, h2, h3, h4 => by
    unfold pairsFrom
    split
    · rename_i hk
      refine pairsFrom_ok l size f (k + 1) (pairStep l k s) _ (by rw [pairStep_len, h1]) (pairStep_all l k h2) (by simp [h3]) fun j hj => ?_
      by_cases e : j = k
      · subst e
        obtain ⟨d, d0, _, d1, d2⟩ := pairStep_here l j (s := s) (by omega)
        refine ⟨d, d0, ?_, hk.2, d1, d2⟩
        rw [List.getD_eq_getElem?_getD, List.getElem?_append_right (by omega), h3]
        simp
      · obtain ⟨d, d0, d1, d2, d3, d4⟩ := h4 j (by omega)
        refine ⟨d, d0, ?_, d2, ?_, ?_⟩
        · rw [List.getD_eq_getElem?_getD, List.getElem?_append_left (by omega), ← List.getD_eq_getElem?_getD, d1]
        · rcases pairOf_cases l j with e2 | e2 <;> rw [e2] at d3 ⊢
          · rw [pairStep_else _ _ _ (by simp; omega) (by simp; omega)]; exact d3
          · rw [pairStep_else _ _ _ (by simp; omega) (by simp; omega)]; exact d3
        · rcases pairOf_cases l j with e2 | e2 <;> rw [e2] at d4 ⊢
          · rw [pairStep_else _ _ _ (by simp; omega) (by simp; omega)]; exact d4
          · rw [pairStep_else _ _ _ (by simp; omega) (by simp; omega)]; exact d4
    · exact ⟨h1, h2, fun j hj => h4 j (by rw [← h3]; exact hj)⟩
theorem pairsOk_from {s : List Stp} (l : List Int) : ∀ (q : List (Int × Int)) (k : Nat) (had : List Int), (∀ x ∈ had, x ≤ 2 * k) →
    (∀ j, j < q.length → ∃ d : Int, 0 ≤ d ∧ q.getD j (0, 0) = (((pairOf l (k + j)).1 : Int), ((pairOf l (k + j)).2 : Int)) ∧ 2 * (k + j) + 2 ≤ s.length ∧ (s.getD ((pairOf l (k + j)).1 - 1) (0, 0, 0, 0)).1 = d ∧ (s.getD ((pairOf l (k + j)).2 - 1) (0, 0, 0, 0)).1 = -d) → pairsOk s q had = true
  | [], _, _, _, _ => rfl
  | p :: q, k, had, hh, h => by
    obtain ⟨d, d0, d1, d2, d3, d4⟩ := h 0 (by simp)
    have ih := pairsOk_from (s := s) l q (k + 1) (had ++ [p.1, p.2])
    have e1 : p = (((pairOf l k).1 : Int), ((pairOf l k).2 : Int)) := by simpa using d1
    simp only [Nat.add_zero] at d2 d3 d4
    rw [pairsOk]
    have hno : ∀ x : Int, 2 * (k : Int) < x → had.contains x = false := fun x hx => by
      cases hc : had.contains x with
      | false => rfl
      | true => have := hh x (List.contains_iff_mem.1 hc); omega
    have hq : pairsOk s q (had ++ [p.1, p.2]) = true := ih (by
      intro x hx
      rcases List.mem_append.1 hx with hx | hx
      · have := hh x hx; omega
      · rw [e1] at hx
        rcases pairOf_cases l k with e | e <;> rw [e] at hx <;> simp at hx <;> omega) (fun j hj => by
      have := h (j + 1) (by simpa using hj)
      simpa [Nat.add_assoc, Nat.add_comm 1 j] using this)
    have dm1 : demandAt s p.1 = d := by
      unfold demandAt
      rw [e1]
      simp only
      rw [show ((((pairOf l k).1 : Nat) : Int) - 1).toNat = (pairOf l k).1 - 1 by omega]
      exact d3
    have dm2 : demandAt s p.2 = -d := by
      unfold demandAt
      rw [e1]
      simp only
      rw [show ((((pairOf l k).2 : Nat) : Int) - 1).toNat = (pairOf l k).2 - 1 by omega]
      exact d4
    rw [dm1, dm2, decide_eq_true d0, decide_eq_true rfl, hq]
    have f1 : fresh s had p.1 = true := by
      unfold fresh
      rw [Bool.and_eq_true, inR_iff, Bool.not_eq_true', e1]
      rcases pairOf_cases l k with e | e <;> rw [e] <;> refine ⟨by simp; omega, hno _ (by simp; omega)⟩
    have f2 : fresh s (had ++ [p.1]) p.2 = true := by
      unfold fresh
      rw [Bool.and_eq_true, inR_iff, Bool.not_eq_true', List.contains_append, hno p.2 (by rw [e1]; rcases pairOf_cases l k with e | e <;> rw [e] <;> simp <;> omega), Bool.false_or]
      rw [e1]
      rcases pairOf_cases l k with e | e <;> rw [e] <;> refine ⟨by simp <;> omega, by simp <;> omega⟩
    rw [f1, f2]
    rfl
theorem rowsOk_of (f : Nat → Nat → Int) (hf : ∀ a b, 0 ≤ f a b ∧ f a b ≤ 1000 ∧ (a = b → f a b = 0)) (n : Nat) : ∀ (m a : Nat), rowsOk n a ((List.range' a m).map fun x => (List.range n).map (f x)) = true
  | 0, _ => rfl
  | m + 1, a => by
    have hc : ∀ (j b : Nat), cellsOk a b ((List.range' b j).map (f a)) = true := by
      intro j
      induction j with
      | zero => intro b; rfl
      | succ j ih =>
        intro b
        rw [List.range'_succ, List.map_cons, cellsOk, ih]
        obtain ⟨h0, h1, h2⟩ := hf a b
        have : cellOk a b (f a b) = true := by
          unfold cellOk
          rw [Bool.and_eq_true, inR_iff, Bool.not_eq_true']
          refine ⟨⟨h0, h1⟩, ?_⟩
          by_cases e : a = b
          · rw [h2 e]; simp
          · simp [e]
        rw [this]
        rfl
    rw [List.range'_succ, List.map_cons, rowsOk, rowsOk_of f hf n m (a + 1)]
    have := hc n 0
    rw [← List.range_eq_range'] at this
    rw [this, decide_eq_true (by simp)]
    rfl
theorem instOf_check (l : List Int) : checkI (instOf l) = true := by
  have hb := wn_bounds (numV l 4) (m := 7) (by omega)
  have hb0 := wn_bounds (numV l 0) (m := 3) (by omega)
  have hsz8 : sizeOf' l ≤ 8 := by unfold sizeOf'; omega
  have hst : (stopsOf l).all stpOk = true := by
    rw [List.all_eq_true]
    intro c hc
    unfold stopsOf at hc
    obtain ⟨k, _, rfl⟩ := List.mem_map.1 hc
    exact stopAt_ok l k
  obtain ⟨p1, p2, p3⟩ := pairsFrom_ok l (sizeOf' l) 4 0 (stopsOf l) [] (by simp [stopsOf]) hst rfl (fun j hj => absurd hj (by omega))
  have hcl : (instOf l).cars.length = 1 + (wn (numV l 0) 3).toNat := by simp [instOf, carsOf]
  have hsl : (instOf l).stops.length = sizeOf' l := p1
  have htl : (instOf l).travel.length = sizeOf' l + 1 := by simp [instOf, travelOf]
  have hpairs : pairsOk (instOf l).stops (instOf l).pairs [] = true := pairsOk_from l _ 0 [] (by simp) (fun j hj => by
    obtain ⟨d, d0, d1, d2, d3, d4⟩ := p3 j hj
    rw [Nat.zero_add]
    exact ⟨d, d0, d1, by rw [hsl]; exact d2, d3, d4⟩)
  have hrows : rowsOk (instOf l).travel.length 0 (instOf l).travel = true := by
    rw [htl]
    show rowsOk (sizeOf' l + 1) 0 (travelOf l) = true
    unfold travelOf
    rw [List.range_eq_range' (n := sizeOf' l + 1)]
    have := rowsOk_of (tripAt l) (fun a b => by
      have hw := wn_bounds (numV l (20 + 3 * a + 5 * b)) (m := 14) (by omega)
      unfold tripAt
      refine ⟨by split <;> omega, by split <;> omega, fun e => if_pos e⟩) (sizeOf' l + 1) (sizeOf' l + 1) 0
    rw [List.range_eq_range'] at this
    exact this
  unfold checkI
  rw [hpairs, hrows, show (instOf l).cars.all carOk = true from carsOf_ok l, show (instOf l).stops.all stpOk = true from p2, decide_eq_true (by omega), decide_eq_true (by omega), (inR_iff _ _ _).2 (by omega)]
  rfl
end Go.Proofs.YtkeklbicmfhemabGreatDoorV
