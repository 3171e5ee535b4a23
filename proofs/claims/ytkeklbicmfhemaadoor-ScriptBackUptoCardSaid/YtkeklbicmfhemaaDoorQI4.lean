/- Problems made of numbers: small ones, of small numbers. -/
import Derived.Test.YtkeklbicmfhemaaDoorQ24p
namespace Go.Proofs.YtkeklbicmfhemaaDoorV
open Go
set_option maxRecDepth 20000
set_option linter.unusedSimpArgs false

theorem unCar_row : ∀ {l : List Car}, (∀ c ∈ l, inI c.1 = true ∧ inI c.2.1 = true ∧ inI c.2.2 = true) → unCar (carRow l) = some l
  | [], _ => rfl
  | c :: l, h => by
    have ih := unCar_row (l := l) fun x hx => h x (by simp [hx])
    have hc := h c (by simp)
    have h1 : unCar1 [.int .i64 c.1, .int .i64 c.2.1, .int .i64 c.2.2] = some c := if_pos hc
    unfold carRow at ih ⊢
    simp only [List.map_cons, unCar, h1, ih, Option.bind_some]
theorem unStp_row : ∀ {l : List Stp}, (∀ c ∈ l, inI c.1 = true ∧ inI c.2.1 = true ∧ inI c.2.2.1 = true ∧ inI c.2.2.2 = true) → unStp (stpRow l) = some l
  | [], _ => rfl
  | c :: l, h => by
    have ih := unStp_row (l := l) fun x hx => h x (by simp [hx])
    have hc := h c (by simp)
    have h1 : unStp1 [.int .i64 c.1, .int .i64 c.2.1, .int .i64 c.2.2.1, .int .i64 c.2.2.2] = some c := if_pos hc
    unfold stpRow at ih ⊢
    simp only [List.map_cons, unStp, h1, ih, Option.bind_some]
theorem unPr_row : ∀ {l : List (Int × Int)}, (∀ c ∈ l, inI c.1 = true ∧ inI c.2 = true) → unPr (prRow l) = some l
  | [], _ => rfl
  | c :: l, h => by
    have ih := unPr_row (l := l) fun x hx => h x (by simp [hx])
    have hc := h c (by simp)
    have h1 : unPr1 [.int .i64 c.1, .int .i64 c.2] = some c := if_pos hc
    unfold prRow at ih ⊢
    simp only [List.map_cons, unPr, h1, ih, Option.bind_some]
theorem unTr_row : ∀ {l : List (List Int)}, (∀ r ∈ l, ∀ n ∈ r, -9223372036854775808 ≤ n ∧ n < 9223372036854775808) → unTr (trRow l) = some l
  | [], _ => rfl
  | r :: l, h => by
    have ih := unTr_row (l := l) fun x hx => h x (by simp [hx])
    have h1 : unTr1 [.fs (iRow r)] = some r := unI_row (h r (by simp))
    unfold trRow at ih ⊢
    simp only [List.map_cons, unTr, h1, ih, Option.bind_some]
theorem getD_in {l : List Int} (h : l.all (fun x => inI x) = true) (j : Nat) : inI (l.getD j 0) = true := by
  rw [List.getD_eq_getElem?_getD]
  cases hj : l[j]? with
  | none => decide
  | some x => exact List.all_eq_true.1 h x (List.mem_of_getElem? hj)
def okStp (c : Stp) : Prop := inI c.1 = true ∧ inI c.2.1 = true ∧ inI c.2.2.1 = true ∧ inI c.2.2.2 = true
theorem stopAt_in (l : List Int) (k : Nat) : okStp (stopAt l k) := by
  have b0 := wn_bounds (numV l (5 + k)) (m := 8) (by omega)
  have b1 := wn_bounds (w64 (Int.tdiv (numV l (5 + k)) 8)) (m := 30) (by omega)
  have b2 := wn_bounds (w64 (Int.tdiv (numV l (5 + k)) 240)) (m := 6) (by omega)
  have b4 := wn_bounds (w64 (Int.tdiv (numV l (5 + k)) 9)) (m := 4) (by omega)
  have hc := close_small (wn (w64 (Int.tdiv (numV l (5 + k)) 7)) 4)
  unfold okStp stopAt
  refine ⟨?_, inI_of (by simp only; omega) (by simp only; omega), ?_, inI_of (by simp only; omega) (by simp only; omega)⟩
  · simp only
    split
    · exact inI_of (by omega) (by omega)
    · exact inI_of (by omega) (by omega)
  · simp only
    split
    · decide
    · exact inI_of (by omega) (by omega)
theorem setDemand_in {s : List Stp} (h : ∀ c ∈ s, okStp c) (j : Nat) {d : Int} (hd : inI d = true) : ∀ c ∈ setDemand s j d, okStp c := by
  intro c hc
  unfold setDemand at hc
  rcases List.mem_or_eq_of_mem_set hc with h' | rfl
  · exact h c h'
  · have : okStp (s.getD j (0, 0, 0, 0)) := by
      rw [List.getD_eq_getElem?_getD]
      cases hj : s[j]? with
      | none => exact ⟨by decide, by decide, by decide, by decide⟩
      | some x => exact h x (List.mem_of_getElem? hj)
    exact ⟨hd, this.2⟩
theorem pairStep_in {s : List Stp} (h : ∀ c ∈ s, okStp c) (l : List Int) (k : Nat) : ∀ c ∈ pairStep l k s, okStp c := by
  have b := wn_bounds (numV l (16 + k)) (m := 9) (by omega)
  unfold pairStep
  exact setDemand_in (setDemand_in h _ (inI_of (by omega) (by omega))) _ (inI_of (by omega) (by omega))
theorem pairsFrom_in (l : List Int) (size : Nat) (hs : size ≤ 8) : ∀ (f k : Nat) (s : List Stp) (p : List (Int × Int)), (∀ c ∈ s, okStp c) → (∀ c ∈ p, 0 ≤ c.1 ∧ c.1 ≤ 8 ∧ 0 ≤ c.2 ∧ c.2 ≤ 8) →
    (∀ c ∈ (pairsFrom l size f k s p).1, okStp c) ∧ (∀ c ∈ (pairsFrom l size f k s p).2, 0 ≤ c.1 ∧ c.1 ≤ 8 ∧ 0 ≤ c.2 ∧ c.2 ≤ 8) ∧ (pairsFrom l size f k s p).1.length = s.length ∧ (pairsFrom l size f k s p).2.length ≤ p.length + f
  | 0, k, s, p, h1, h2 => ⟨h1, h2, rfl, by simp [pairsFrom]⟩
  | f + 1, k, s, p, h1, h2 => by
    unfold pairsFrom
    split
    · rename_i hk
      obtain ⟨i1, i2, i3, i4⟩ := pairsFrom_in l size hs f (k + 1) (pairStep l k s) (p ++ [(((pairOf l k).1 : Int), ((pairOf l k).2 : Int))]) (pairStep_in h1 l k) (fun c hc => by
        rcases List.mem_append.1 hc with hc | hc
        · exact h2 c hc
        · simp only [List.mem_singleton] at hc
          subst hc
          unfold pairOf
          split <;> simp only <;> omega)
      refine ⟨i1, i2, by rw [i3, pairStep_length], ?_⟩
      rw [List.length_append, List.length_singleton] at i4
      omega
    · exact ⟨h1, h2, rfl, Nat.le_add_right _ _⟩
theorem instOf_given (l : List Int) : Given (instOf l) (carRow (instOf l).cars) (stpRow (instOf l).stops) (prRow (instOf l).pairs) (trRow (instOf l).travel) ∧ 1 ≤ (instOf l).cars.length := by
  have hb := wn_bounds (numV l 4) (m := 7) (by omega)
  have hb0 := wn_bounds (numV l 0) (m := 3) (by omega)
  have hsz8 : sizeOf' l ≤ 8 := by unfold sizeOf'; omega
  obtain ⟨p1, p2, p3, p4⟩ := pairsFrom_in l (sizeOf' l) hsz8 4 0 (stopsOf l) [] (fun c hc => by
    unfold stopsOf at hc
    obtain ⟨k, _, rfl⟩ := List.mem_map.1 hc
    exact stopAt_in l k) (fun c hc => by cases hc)
  have hcl : (instOf l).cars.length = 1 + (wn (numV l 0) 3).toNat := by simp [instOf, carsOf]
  have hsl : (instOf l).stops.length = sizeOf' l := by
    show (pairsFrom l (sizeOf' l) 4 0 (stopsOf l) []).1.length = _
    rw [p3]
    simp [stopsOf]
  have hpl : (instOf l).pairs.length ≤ 4 := by
    have h := p4
    rw [List.length_nil, Nat.zero_add] at h
    exact h
  have htl : (instOf l).travel.length = sizeOf' l + 1 := by simp [instOf, travelOf]
  refine ⟨⟨?_, ?_⟩, by omega⟩
  · unfold unInst
    rw [unCar_row, unStp_row, unPr_row, unTr_row]
    · rfl
    · intro r hr n hn
      simp only [instOf, travelOf] at hr
      obtain ⟨a, _, rfl⟩ := List.mem_map.1 hr
      obtain ⟨b, _, rfl⟩ := List.mem_map.1 hn
      have hw := wn_bounds (numV l (20 + 3 * a + 5 * b)) (m := 14) (by omega)
      unfold tripAt
      split <;> omega
    · intro c hc
      have := p2 c hc
      exact ⟨inI_of (by omega) (by omega), inI_of (by omega) (by omega)⟩
    · exact p1
    · intro c hc
      simp only [instOf, carsOf] at hc
      obtain ⟨k, _, rfl⟩ := List.mem_map.1 hc
      have b2 := wn_bounds (w64 (Int.tdiv (numV l (1 + k)) 4)) (m := 9) (by omega)
      unfold carAt
      exact ⟨getD_in (by decide) _, inI_of (by simp only; omega) (by simp only; omega), getD_in (by decide) _⟩
  · simp only [smallI, Bool.and_eq_true, decide_eq_true_eq, List.all_eq_true]
    unfold big
    refine ⟨by omega, by omega, by omega, by omega, fun r hr => ?_⟩
    simp only [instOf, travelOf] at hr
    obtain ⟨a, _, rfl⟩ := List.mem_map.1 hr
    simp
    omega
theorem sPInst_of {l : List Int} (h1 : ∀ n ∈ l, -9223372036854775808 ≤ n ∧ n < 9223372036854775808) (h2 : l.length ≤ big) : sPInst (iRow l) = some (carRow (instOf l).cars, stpRow (instOf l).stops, prRow (instOf l).pairs, trRow (instOf l).travel) := by
  unfold sPInst
  rw [unI_row h1, Option.bind_some, if_pos h2]

/-! Acts. -/
theorem beside_nil (s : ByteArray) : beside s (text []) := ⟨by rw [text_size]; simp, by rw [text_data]; simp⟩
theorem beside_self (s : ByteArray) : beside s s := ⟨by omega, id⟩
theorem newPlan_routes (i : Inst) : (newPlan i).routes.length ≤ big ∧ ∀ r ∈ (newPlan i).routes, r.length ≤ big := by
  unfold newPlan
  split
  · rename_i h
    have := checkI_small h
    refine ⟨by simp only [List.length_replicate]; unfold big; omega, fun r hr => ?_⟩
    rw [List.eq_of_mem_replicate hr]
    simp
  · exact ⟨by simp, fun r hr => by cases hr⟩
theorem actQ9 {L : List Int} (hL : L.length ≤ big) {k : Nat} (hk : k + 2 < L.length) (s : ByteArray) {i : Inst} {a1 a2 a3 a4 : List (List PV)} (g : Given i a1 a2 a3 a4) (hcars : 1 ≤ i.cars.length) {routes : List (List Int)} (hr : routes.length ≤ big) (hr' : ∀ r ∈ routes, r.length ≤ big) (p6 p7 p8 p9 p10 : List (List PV)) (p11 : Int) (n : Nat) (acc : List Act) (hacc : acc.length ≤ 20) {c y : Int} (hc : 1 ≤ c ∧ c ≤ 6) (hy : 0 ≤ y ∧ y ≤ 3) :
    ∃ a, actP s a ∧ ∀ (R : Type) (k0 : List (List PV) → ByteArray → Int → List (List PV) → List (List PV) → List (List PV) → List (List PV) → List (List PV) → List (List PV) → List (List PV) → List (List PV) → List (List PV) → List (List PV) → Int → List (List PV) → Option R),
      acts24_q9 n (iRow L) s (k : Int) a1 a2 a3 a4 (trRow routes) p6 p7 p8 p9 p10 p11 (aRow acc) c y (text []) k0 = k0 (iRow L) s (k : Int) a1 a2 a3 a4 (trRow routes) p6 p7 p8 p9 p10 p11 (aRow (acc ++ [a])) := by
  have hroom : ∀ x y z : PV, ((aRow acc).length + ([[x, y, z]] : List (List PV)).length) * 32 ≤ maxBytes := by
    intro x y z
    rw [aRow_length]
    unfold maxBytes
    simp
    omega
  have hroom' : ((aRow acc).length + 1) * 32 ≤ maxBytes := hroom (.int .i64 0) (.int .i64 0) (.int .i64 0)
  have hpush : ∀ a : Act, aRow acc ++ [[.int .i64 a.1, .int .i64 a.2.1, .str a.2.2]] = aRow (acc ++ [a]) := fun a => by rw [aRow_append]; rfl
  unfold big at hL
  have k1 : IntKind.i64.wrap ((k : Int) + 1) = ((k + 1 : Nat) : Int) := (wrapN (by omega) (by omega)).trans (by omega)
  have k2 : IntKind.i64.wrap ((k : Int) + 2) = ((k + 2 : Nat) : Int) := (wrapN (by omega) (by omega)).trans (by omega)
  have g0 := idx_iAt (l := L) (j := k) (by omega)
  have g1 := idx_iAt (l := L) (j := k + 1) (by omega)
  have g2 := idx_iAt (l := L) (j := k + 2) (by omega)
  have e0 : ∀ n : Int, ([PV.int .i64 n] : List PV)[0]? = some (PV.int .i64 n) := fun _ => rfl
  unfold acts24_q9
  by_cases h3 : c = 3
  · subst h3
    obtain ⟨t, t1, t2⟩ := pLine_some (IntKind.i64.wrap (Int.tdiv (L.getD k 0) 11)) (IntKind.i64.wrap (Int.tdiv (L.getD (k + 1) 0) 4)) (L.getD (k + 2) 0) s g hr hr' p6 p7 p8 p9 p10 p11 hcars
    refine ⟨(3, y, t), ⟨(by decide : (1 : Int) ≤ 3), (by decide : (3 : Int) ≤ 6), hy.1, by simp only; omega, fun h => by simp [textK] at h, t2⟩, fun R k0 => ?_⟩
    rw [beq_self_eq_true, cond_true, k1, k2, g0, g1, g2]
    simp only [Option.bind_some, List.length_singleton, if_true, e0, asI_int, t1, hroom', meet_self]
    rw [← hpush (3, y, t)]
  by_cases h4 : c = 4
  · subst h4
    refine ⟨(4, y, s), ⟨(by decide : (1 : Int) ≤ 4), (by decide : (4 : Int) ≤ 6), hy.1, by simp only; omega, fun h => by simp [textK] at h, beside_self s⟩, fun R k0 => ?_⟩
    rw [show ((4 : Int) == 3) = false from rfl, cond_false, beq_self_eq_true, cond_true, if_pos (hroom _ _ _), ← hpush (4, y, s)]
  have e3 : (c == 3) = false := by simpa using h3
  have e4 : (c == 4) = false := by simpa using h4
  by_cases h6 : c = 6
  · subst h6
    have hb := wn_bounds (L.getD (k + 2) 0) (m := 40) (by omega)
    refine ⟨(6, wn (L.getD (k + 2) 0) 40, text []), ⟨(by decide : (1 : Int) ≤ 6), (by decide : (6 : Int) ≤ 6), hb.1, by simp only; omega, fun _ => rfl, beside_nil s⟩, fun R k0 => ?_⟩
    rw [e3, cond_false, e4, cond_false, beq_self_eq_true, cond_true, k2, g2]
    simp only [Option.bind_some, List.length_singleton, if_true, e0, asI_int, w_40, hroom']
    rw [← hpush (6, wn (L.getD (k + 2) 0) 40, text [])]
  · have e6 : (c == 6) = false := by simpa using h6
    refine ⟨(c, y, text []), ⟨hc.1, hc.2, hy.1, by simp only; omega, fun _ => rfl, beside_nil s⟩, fun R k0 => ?_⟩
    rw [e3, cond_false, e4, cond_false, e6, cond_false, if_pos (hroom _ _ _), ← hpush (c, y, text [])]
def kindTab : List Int := [1, 3, 3, 3, 3, 5, 5, 5, 4, 2, 6]
theorem tab_kind : ∀ y : Int, 0 ≤ y → y < 11 → (([[(PV.int .i64 1)], [(PV.int .i64 3)], [(PV.int .i64 3)], [(PV.int .i64 3)], [(PV.int .i64 3)], [(PV.int .i64 5)], [(PV.int .i64 5)], [(PV.int .i64 5)], [(PV.int .i64 4)], [(PV.int .i64 2)], [(PV.int .i64 6)]] : List (List PV))[Int.toNat y]?) = some [PV.int .i64 (kindTab.getD y.toNat 0)] ∧ 1 ≤ kindTab.getD y.toNat 0 ∧ kindTab.getD y.toNat 0 ≤ 6 := by
  intro y h0 h4
  have : y = 0 ∨ y = 1 ∨ y = 2 ∨ y = 3 ∨ y = 4 ∨ y = 5 ∨ y = 6 ∨ y = 7 ∨ y = 8 ∨ y = 9 ∨ y = 10 := by omega
  rcases this with rfl | rfl | rfl | rfl | rfl | rfl | rfl | rfl | rfl | rfl | rfl <;> exact ⟨rfl, by decide, by decide⟩
theorem acts_rounds {L : List Int} (hL : L.length ≤ big) (s : ByteArray) {i : Inst} {a1 a2 a3 a4 : List (List PV)} (g : Given i a1 a2 a3 a4) (hcars : 1 ≤ i.cars.length) {routes : List (List Int)} (hr : routes.length ≤ big) (hr' : ∀ r ∈ routes, r.length ≤ big) (p6 p7 p8 p9 p10 : List (List PV)) (p11 : Int) : ∀ (f n : Nat) (acc : List Act), acc.length + f = 20 → f < n → (∀ a ∈ acc, actP s a) →
    ∃ l : List Act, l.length ≤ 20 ∧ (∀ a ∈ l, actP s a) ∧ ∀ (R : Type) (k0 : List (List PV) → Option R), acts24_l5 n (iRow L) s ((3 * acc.length : Nat) : Int) a1 a2 a3 a4 (trRow routes) p6 p7 p8 p9 p10 p11 (aRow acc) k0 = k0 (aRow l)
  | f, n, acc, hf, hn, hacc => by
    obtain ⟨m, rfl⟩ : ∃ m, n = m + 1 := ⟨n - 1, by omega⟩
    have hbig := hL
    unfold big at hbig
    have k2 : IntKind.i64.wrap (((3 * acc.length : Nat) : Int) + 2) = ((3 * acc.length + 2 : Nat) : Int) := (wrapN (by omega) (by omega)).trans (by omega)
    by_cases h1 : 3 * acc.length + 2 < L.length
    · cases f with
      | zero =>
        refine ⟨acc, by omega, hacc, fun R k0 => ?_⟩
        unfold acts24_l5
        rw [k2, iRow_length, decide_eq_true (by omega), cond_true, decide_eq_false (by omega), cond_false]
      | succ f =>
        have k1 : IntKind.i64.wrap (((3 * acc.length : Nat) : Int) + 1) = ((3 * acc.length + 1 : Nat) : Int) := (wrapN (by omega) (by omega)).trans (by omega)
        have g0 := idx_iAt (l := L) (j := 3 * acc.length) (by omega)
        have g1 := idx_iAt (l := L) (j := 3 * acc.length + 1) (by omega)
        have b0 := wn_bounds (L.getD (3 * acc.length) 0) (m := 11) (by omega)
        have b1 := wn_bounds (L.getD (3 * acc.length + 1) 0) (m := 4) (by omega)
        obtain ⟨t1, t2, t3⟩ := tab_kind (wn (L.getD (3 * acc.length) 0) 11) b0.1 b0.2
        obtain ⟨a, q1, q2⟩ := actQ9 hL h1 s g hcars hr hr' p6 p7 p8 p9 p10 p11 m acc (by omega) (c := kindTab.getD (wn (L.getD (3 * acc.length) 0) 11).toNat 0) (y := wn (L.getD (3 * acc.length + 1) 0) 4) ⟨t2, t3⟩ ⟨b1.1, by omega⟩
        obtain ⟨l, l1, l2, l3⟩ := acts_rounds hL s g hcars hr hr' p6 p7 p8 p9 p10 p11 f m (acc ++ [a]) (by simp; omega) (by omega) (fun x hx => by
          rcases List.mem_append.1 hx with hx | hx
          · exact hacc x hx
          · simp only [List.mem_singleton] at hx; subst hx; exact q1)
        refine ⟨l, l1, l2, fun R k0 => ?_⟩
        have e0 : ∀ n : Int, ([PV.int .i64 n] : List PV)[0]? = some (PV.int .i64 n) := fun _ => rfl
        have c11 : 0 ≤ wn (L.getD (3 * acc.length) 0) 11 ∧ wn (L.getD (3 * acc.length) 0) 11 < (11 : Int) := b0
        have k3 : IntKind.i64.wrap (((3 * acc.length : Nat) : Int) + 3) = ((3 * (acc ++ [a]).length : Nat) : Int) := (wrapN (by omega) (by omega)).trans (by simp; omega)
        unfold acts24_l5
        rw [k2, k1, iRow_length, decide_eq_true (by omega), cond_true, decide_eq_true (by omega), cond_true, g0, g1]
        rw [mk_nil]
        simp only [Option.bind_some, List.length_singleton, if_true, e0, asI_int, w_11, w_4, if_pos c11, t1, q2, k3, l3, meet_self]
    · refine ⟨acc, by omega, hacc, fun R k0 => ?_⟩
      unfold acts24_l5
      rw [k2, iRow_length, decide_eq_false (by omega), cond_false]
theorem acts_some {L : List Int} (hL : L.length ≤ big) (s : ByteArray) {i : Inst} {a1 a2 a3 a4 : List (List PV)} (g : Given i a1 a2 a3 a4) (hcars : 1 ≤ i.cars.length) : ∃ l : List Act, sActs24 a1 a2 a3 a4 (iRow L) s = some (aRow l) ∧ l.length ≤ 20 ∧ ∀ a ∈ l, actP s a := by
  have hp : sNewPlan a1 a2 a3 a4 = some (trRow (newPlan i).routes, iRow (newPlan i).lock, iRow (newPlan i).ice, iRow (newPlan i).rv, iRow (newPlan i).sv, iRow (newPlan i).iv, (newPlan i).pv) := by
    unfold sNewPlan
    rw [g.un, Option.bind_some, if_pos g.small]
  obtain ⟨r1, r2⟩ := newPlan_routes i
  obtain ⟨l, l1, l2, l3⟩ := acts_rounds hL s g hcars r1 r2 (iRow (newPlan i).lock) (iRow (newPlan i).ice) (iRow (newPlan i).rv) (iRow (newPlan i).sv) (iRow (newPlan i).iv) (newPlan i).pv 20 25 [] rfl (by omega) (fun a ha => by cases ha)
  obtain ⟨y, y1, y2⟩ := acts24_got a1 a2 a3 a4 (iRow L) s ⟨aRow l, ⟨l, rfl, l1, l2⟩, 25, fun R k => by
    unfold acts24_b
    rw [hp, Option.bind_some]
    exact l3 R k⟩
  obtain ⟨l', rfl, h1, h2⟩ := y2
  exact ⟨l', y1, h1, h2⟩
end Go.Proofs.YtkeklbicmfhemaaDoorV
