/- Problems as rows, and back: plain. -/
import Derived.Test.YtpaifgipdhgfkaaSI2
import Derived.Test.YtpaifgipdhgfkaaG
namespace Go.Proofs.YtpaifgipdhgfkaaV
open Go
set_option maxRecDepth 20000
set_option linter.unusedSimpArgs false

theorem inI_of {n : Int} (h1 : -9223372036854775808 ≤ n) (h2 : n < 9223372036854775808) : inI n = true := (inI_iff n).2 ⟨h1, h2⟩
theorem inI_wrapped (n : Int) : inI (IntKind.i64.wrap n) = true := by
  have h1 := Int.emod_nonneg n (b := 18446744073709551616) (by omega)
  have h2 := Int.emod_lt_of_pos n (b := 18446744073709551616) (by omega)
  rw [inI_iff, wrap_i64_eq]
  split <;> omega
/-! Pairs. -/
theorem stpRow_length (l : List Stp) : (stpRow l).length = l.length := by simp [stpRow]
theorem stp_at {s : List Stp} {j : Nat} (h : j < s.length) : (stpRow s)[j]? = some [.int .i64 (s.getD j (0, 0, 0, 0)).1, .int .i64 (s.getD j (0, 0, 0, 0)).2.1, .int .i64 (s.getD j (0, 0, 0, 0)).2.2.1, .int .i64 (s.getD j (0, 0, 0, 0)).2.2.2] := by
  rw [stpRow, List.getElem?_map, List.getElem?_eq_getElem h, List.getD_eq_getElem?_getD, List.getElem?_eq_getElem h]
  rfl
/-! Rows and back. -/
theorem unCar_inv : ∀ {es : List (List PV)} {l : List Car}, unCar es = some l → es = carRow l ∧ ∀ c ∈ l, inI c.1 = true ∧ inI c.2.1 = true ∧ inI c.2.2 = true
  | [], l, h => by cases h; exact ⟨rfl, by simp⟩
  | e :: es, l, h => by
    simp only [unCar, Option.bind_eq_some_iff] at h
    obtain ⟨a, h1, l', h2, h3⟩ := h
    cases h3
    obtain ⟨i1, i2⟩ := unCar_inv h2
    unfold unCar1 at h1
    split at h1
    case h_2 => cases h1
    split at h1
    case isFalse => cases h1
    rename_i hc
    cases h1
    exact ⟨by rw [i1]; rfl, fun c hm => (List.mem_cons.1 hm).elim (fun e => e ▸ hc) (i2 c)⟩
theorem unStp_inv : ∀ {es : List (List PV)} {l : List Stp}, unStp es = some l → es = stpRow l ∧ ∀ c ∈ l, inI c.1 = true ∧ inI c.2.1 = true ∧ inI c.2.2.1 = true ∧ inI c.2.2.2 = true
  | [], l, h => by cases h; exact ⟨rfl, by simp⟩
  | e :: es, l, h => by
    simp only [unStp, Option.bind_eq_some_iff] at h
    obtain ⟨a, h1, l', h2, h3⟩ := h
    cases h3
    obtain ⟨i1, i2⟩ := unStp_inv h2
    unfold unStp1 at h1
    split at h1
    case h_2 => cases h1
    split at h1
    case isFalse => cases h1
    rename_i hc
    cases h1
    exact ⟨by rw [i1]; rfl, fun c hm => (List.mem_cons.1 hm).elim (fun e => e ▸ hc) (i2 c)⟩
theorem unPr_inv : ∀ {es : List (List PV)} {l : List (Int × Int)}, unPr es = some l → es = prRow l ∧ ∀ c ∈ l, inI c.1 = true ∧ inI c.2 = true
  | [], l, h => by cases h; exact ⟨rfl, by simp⟩
  | e :: es, l, h => by
    simp only [unPr, Option.bind_eq_some_iff] at h
    obtain ⟨a, h1, l', h2, h3⟩ := h
    cases h3
    obtain ⟨i1, i2⟩ := unPr_inv h2
    unfold unPr1 at h1
    split at h1
    case h_2 => cases h1
    split at h1
    case isFalse => cases h1
    rename_i hc
    cases h1
    exact ⟨by rw [i1]; rfl, fun c hm => (List.mem_cons.1 hm).elim (fun e => e ▸ hc) (i2 c)⟩
theorem unTr_inv : ∀ {es : List (List PV)} {l : List (List Int)}, unTr es = some l → es = trRow l ∧ ∀ r ∈ l, ∀ n ∈ r, -9223372036854775808 ≤ n ∧ n < 9223372036854775808
  | [], l, h => by cases h; exact ⟨rfl, by simp⟩
  | e :: es, l, h => by
    simp only [unTr, Option.bind_eq_some_iff] at h
    obtain ⟨a, h1, l', h2, h3⟩ := h
    cases h3
    obtain ⟨i1, i2⟩ := unTr_inv h2
    unfold unTr1 at h1
    split at h1
    case h_2 => cases h1
    obtain ⟨j1, j2⟩ := unI_inv h1
    exact ⟨by rw [i1, j1]; rfl, fun c hm => (List.mem_cons.1 hm).elim (fun e => e ▸ j2) (i2 c)⟩
theorem unInst_inv {a b c d : List (List PV)} {i : Inst} (h : unInst a b c d = some i) : a = carRow i.cars ∧ b = stpRow i.stops ∧ c = prRow i.pairs ∧ d = trRow i.travel ∧
    (∀ c ∈ i.cars, inI c.1 = true ∧ inI c.2.1 = true ∧ inI c.2.2 = true) ∧ (∀ c ∈ i.stops, inI c.1 = true ∧ inI c.2.1 = true ∧ inI c.2.2.1 = true ∧ inI c.2.2.2 = true) ∧ (∀ c ∈ i.pairs, inI c.1 = true ∧ inI c.2 = true) ∧ (∀ r ∈ i.travel, ∀ n ∈ r, -9223372036854775808 ≤ n ∧ n < 9223372036854775808) := by
  simp only [unInst, Option.bind_eq_some_iff] at h
  obtain ⟨c1, h1, c2, h2, c3, h3, c4, h4, h5⟩ := h
  cases h5
  exact ⟨(unCar_inv h1).1, (unStp_inv h2).1, (unPr_inv h3).1, (unTr_inv h4).1, (unCar_inv h1).2, (unStp_inv h2).2, (unPr_inv h3).2, (unTr_inv h4).2⟩
theorem carRow_length (l : List Car) : (carRow l).length = l.length := by simp [carRow]
theorem prRow_length (l : List (Int × Int)) : (prRow l).length = l.length := by simp [prRow]
theorem trRow_length (l : List (List Int)) : (trRow l).length = l.length := by simp [trRow]
theorem idx_car (pre : List Car) (x : Car) (rest : List Car) : idx (carRow (pre ++ x :: rest)) (pre.length : Int) = some [.int .i64 x.1, .int .i64 x.2.1, .int .i64 x.2.2] := by
  rw [idx_nat, carRow, List.map_append, List.map_cons, List.getElem?_append_right (by simp)]; simp
theorem idx_stp (pre : List Stp) (x : Stp) (rest : List Stp) : idx (stpRow (pre ++ x :: rest)) (pre.length : Int) = some [.int .i64 x.1, .int .i64 x.2.1, .int .i64 x.2.2.1, .int .i64 x.2.2.2] := by
  rw [idx_nat, stpRow, List.map_append, List.map_cons, List.getElem?_append_right (by simp)]; simp
theorem idx_pr (pre : List (Int × Int)) (x : Int × Int) (rest : List (Int × Int)) : idx (prRow (pre ++ x :: rest)) (pre.length : Int) = some [.int .i64 x.1, .int .i64 x.2] := by
  rw [idx_nat, prRow, List.map_append, List.map_cons, List.getElem?_append_right (by simp)]; simp
theorem idx_tr (pre : List (List Int)) (x : List Int) (rest : List (List Int)) : idx (trRow (pre ++ x :: rest)) (pre.length : Int) = some [.fs (iRow x)] := by
  rw [idx_nat, trRow, List.map_append, List.map_cons, List.getElem?_append_right (by simp)]; simp

/-- What has been, as a map. -/
def hadMap (l : List Int) : List (PV × PV) := l.map fun n => (.int .i64 n, .bool true)
theorem had_get (x : Int) : ∀ l : List Int, ∃ r, mget T 3 (.int .i64 x) (hadMap l) = some r ∧ PV.asB (Option.getD r (.bool false)) = some (l.contains x)
  | [] => ⟨none, rfl, rfl⟩
  | n :: l => by
    obtain ⟨r, h1, h2⟩ := had_get x l
    have h3 : ∀ x y : Int, eqvT T 3 (.int .i64 x) (.int .i64 y) = some (x == y) := fun x y => rfl
    simp only [hadMap, List.map_cons, mget, h3, Option.bind_some] at h1 ⊢
    by_cases e : x = n
    · refine ⟨some (.bool true), by simp [e], ?_⟩
      simp [e, PV.asB]
    · refine ⟨r, ?_, ?_⟩
      · rw [if_neg (by simpa using e)]; exact h1
      · rw [h2]; simp [e]
theorem had_set (x : Int) : ∀ l : List Int, l.contains x = false → mset T 3 (.int .i64 x) (.bool true) (hadMap l) = some (hadMap (l ++ [x]))
  | [], _ => rfl
  | n :: l, h => by
    have h3 : ∀ x y : Int, eqvT T 3 (.int .i64 x) (.int .i64 y) = some (x == y) := fun x y => rfl
    simp only [List.contains_cons, Bool.or_eq_false_iff] at h
    have ih := had_set x l h.2
    simp only [hadMap, List.map_cons, List.cons_append, mset, h3, Option.bind_some] at ih ⊢
    rw [if_neg (by simp [h.1]), ih]
    rfl
theorem stp_idx {s : List Stp} {x : Int} (h : inR x 1 s.length = true) (hl : s.length ≤ big) : idx (stpRow s) (IntKind.i64.wrap (x - 1)) = some [.int .i64 (demandAt s x), .int .i64 (s.getD (x - 1).toNat (0, 0, 0, 0)).2.1, .int .i64 (s.getD (x - 1).toNat (0, 0, 0, 0)).2.2.1, .int .i64 (s.getD (x - 1).toNat (0, 0, 0, 0)).2.2.2] := by
  simp only [inR, Bool.and_eq_true, decide_eq_true_eq] at h
  unfold big at hl
  rw [wrapN (by omega) (by omega), show x - 1 = ((x - 1).toNat : Int) by omega, idx_nat, stp_at (by omega)]
  unfold demandAt
  rw [Int.toNat_natCast]
theorem unCar_row : ∀ {l : List Car}, (∀ c ∈ l, inI c.1 = true ∧ inI c.2.1 = true ∧ inI c.2.2 = true) → unCar (carRow l) = some l
  | [], _ => rfl
  | c :: l, h => by
    have ih := unCar_row (l := l) fun x hx => h x (by simp [hx])
    have hc := h c (by simp)
    have h1 : unCar1 [.int .i64 c.1, .int .i64 c.2.1, .int .i64 c.2.2] = some c := if_pos hc
    unfold carRow at ih ⊢
    simp only [List.map_cons, unCar, h1, ih, Option.bind_some]
theorem unStp_row : ∀ {l : List Stp}, (∀ c ∈ l, inI c.1 = true ∧ inI c.2.1 = true ∧ inI c.2.2.1 = true ∧ inI c.2.2.2 = true) → unStp (stpRow l) = some l
  | [], _ => rfl
  | c :: l, h => by
    have ih := unStp_row (l := l) fun x hx => h x (by simp [hx])
    have hc := h c (by simp)
    have h1 : unStp1 [.int .i64 c.1, .int .i64 c.2.1, .int .i64 c.2.2.1, .int .i64 c.2.2.2] = some c := if_pos hc
    unfold stpRow at ih ⊢
    simp only [List.map_cons, unStp, h1, ih, Option.bind_some]
theorem unPr_row : ∀ {l : List (Int × Int)}, (∀ c ∈ l, inI c.1 = true ∧ inI c.2 = true) → unPr (prRow l) = some l
  | [], _ => rfl
  | c :: l, h => by
    have ih := unPr_row (l := l) fun x hx => h x (by simp [hx])
    have hc := h c (by simp)
    have h1 : unPr1 [.int .i64 c.1, .int .i64 c.2] = some c := if_pos hc
    unfold prRow at ih ⊢
    simp only [List.map_cons, unPr, h1, ih, Option.bind_some]
theorem unTr_row : ∀ {l : List (List Int)}, (∀ r ∈ l, ∀ n ∈ r, -9223372036854775808 ≤ n ∧ n < 9223372036854775808) → unTr (trRow l) = some l
  | [], _ => rfl
  | r :: l, h => by
    have ih := unTr_row (l := l) fun x hx => h x (by simp [hx])
    have h1 : unTr1 [.fs (iRow r)] = some r := unI_row (h r (by simp))
    unfold trRow at ih ⊢
    simp only [List.map_cons, unTr, h1, ih, Option.bind_some]
/-- A problem's rows, each number of 64 bits, none too long. -/
structure Given (i : Inst) (a b c d : List (List PV)) : Prop where
  un : unInst a b c d = some i
  small : smallI i = true
theorem Given.mate {i : Inst} {a b c d : List (List PV)} (h : Given i a b c d) (s : Int) : sMate a b c d s = some (mateOf i.pairs s) := by
  unfold sMate
  rw [h.un, Option.bind_some, if_pos h.small]
theorem Given.first {i : Inst} {a b c d : List (List PV)} (h : Given i a b c d) (s : Int) : sFirst a b c d s = some (firstOf i.pairs s) := by
  unfold sFirst
  rw [h.un, Option.bind_some, if_pos h.small]
theorem mateOf_in : ∀ {l : List (Int × Int)} {s : Int}, (∀ c ∈ l, inI c.1 = true ∧ inI c.2 = true) → inI (mateOf l s) = true
  | [], _, _ => rfl
  | p :: r, s, h => by
    unfold mateOf
    split
    · exact (h p (by simp)).2
    · split
      · exact (h p (by simp)).1
      · exact mateOf_in fun c hc => h c (by simp [hc])
end Go.Proofs.YtpaifgipdhgfkaaV
