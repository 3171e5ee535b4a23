/- InstBounds: just at each bound a problem may be, beyond it may not. -/
import Derived.Test.YtpaifgipdhgfkaaD8b
import Derived.Test.YtpaifgipdhgfkaaQ03a
namespace Go.Proofs.YtpaifgipdhgfkaaV
open Go
set_option maxRecDepth 20000
set_option linter.unusedSimpArgs false

/-- A problem of one car, two stops, one pair, told by its numbers. -/
theorem check_one (c1 c2 c3 a1 a2 a3 a4 b1 b2 b3 b4 p q r0 r1 r2 s0 s1 s2 t0 t1 t2 : Int) (h : ∀ n ∈ [c1, c2, c3, a1, a2, a3, a4, b1, b2, b3, b4, p, q, r0, r1, r2, s0, s1, s2, t0, t1, t2], inI n = true) :
    iCheck_d [[.int .i64 c1, .int .i64 c2, .int .i64 c3]] [[.int .i64 a1, .int .i64 a2, .int .i64 a3, .int .i64 a4], [.int .i64 b1, .int .i64 b2, .int .i64 b3, .int .i64 b4]] [[.int .i64 p, .int .i64 q]] [[.fs [[.int .i64 r0], [.int .i64 r1], [.int .i64 r2]]], [.fs [[.int .i64 s0], [.int .i64 s1], [.int .i64 s2]]], [.fs [[.int .i64 t0], [.int .i64 t1], [.int .i64 t2]]]] =
      some (if checkI ⟨[(c1, c2, c3)], [(a1, a2, a3, a4), (b1, b2, b3, b4)], [(p, q)], [[r0, r1, r2], [s0, s1, s2], [t0, t1, t2]]⟩ = true then 0 else 1) := by
  simp only [List.mem_cons, List.not_mem_nil, or_false, forall_eq_or_imp, forall_eq] at h
  obtain ⟨h1, h2, h3, h4, h5, h6, h7, h8, h9, h10, h11, h12, h13, h14, h15, h16, h17, h18, h19, h20, h21, h22⟩ := h
  refine iCheck_of ⟨?_, rfl⟩
  simp only [unInst, unCar, unCar1, unStp, unStp1, unPr, unPr1, unTr, unTr1, unI, unI1, h1, h2, h3, h4, h5, h6, h7, h8, h9, h10, h11, h12, h13, h14, h15, h16, h17, h18, h19, h20, h21, h22, and_self, if_true, Option.bind_some]
def twoB : List (List PV) := [[.bool false], [.bool true]]

theorem at0_0 (x : Int) (h1 : 1 ≤ x) (h2 : x ≤ 1099511627776) : iCheck_d [[.int .i64 (60), .int .i64 (1), .int .i64 (9)]] [[.int .i64 (2), .int .i64 (0), .int .i64 (8), .int .i64 (1)], [.int .i64 (-2), .int .i64 (3), .int .i64 (4), .int .i64 (0)]] [[.int .i64 (1), .int .i64 (2)]] [[.fs [[.int .i64 (0)], [.int .i64 (1)], [.int .i64 (2)]]], [.fs [[.int .i64 (3)], [.int .i64 (0)], [.int .i64 (4)]]], [.fs [[.int .i64 (5)], [.int .i64 (6)], [.int .i64 (0)]]]] = some 0 := by
  have hI : ∀ n ∈ [60, 1, 9, 2, 0, 8, 1, -2, 3, 4, 0, 1, 2, 0, 1, 2, 3, 0, 4, 5, 6, 0], inI n = true := by
    simp only [List.mem_cons, List.not_mem_nil, or_false, forall_eq_or_imp, forall_eq, inI_iff]
    omega
  have hc : checkI ⟨[(60, 1, 9)], [(2, 0, 8, 1), (-2, 3, 4, 0)], [(1, 2)], [[0, 1, 2], [3, 0, 4], [5, 6, 0]]⟩ = true := by
    simp [checkI, carOk, stpOk, inR, pairsOk, fresh, demandAt, rowsOk, cellsOk, cellOk]
  rw [check_one _ _ _ _ _ _ _ _ _ _ _ _ _ _ _ _ _ _ _ _ _ _ hI, hc]
  rfl
theorem at0_1 (x : Int) (h1 : 1 ≤ x) (h2 : x ≤ 1099511627776) : iCheck_d [[.int .i64 (60 + x), .int .i64 (1), .int .i64 (9)]] [[.int .i64 (2), .int .i64 (0), .int .i64 (8), .int .i64 (1)], [.int .i64 (-2), .int .i64 (3), .int .i64 (4), .int .i64 (0)]] [[.int .i64 (1), .int .i64 (2)]] [[.fs [[.int .i64 (0)], [.int .i64 (1)], [.int .i64 (2)]]], [.fs [[.int .i64 (3)], [.int .i64 (0)], [.int .i64 (4)]]], [.fs [[.int .i64 (5)], [.int .i64 (6)], [.int .i64 (0)]]]] = some 1 := by
  have hI : ∀ n ∈ [60 + x, 1, 9, 2, 0, 8, 1, -2, 3, 4, 0, 1, 2, 0, 1, 2, 3, 0, 4, 5, 6, 0], inI n = true := by
    simp only [List.mem_cons, List.not_mem_nil, or_false, forall_eq_or_imp, forall_eq, inI_iff]
    omega
  have hc : checkI ⟨[(60 + x, 1, 9)], [(2, 0, 8, 1), (-2, 3, 4, 0)], [(1, 2)], [[0, 1, 2], [3, 0, 4], [5, 6, 0]]⟩ = false := by
    simp [checkI, carOk, stpOk, inR, pairsOk, fresh, demandAt, rowsOk, cellsOk, cellOk]
    try omega
  rw [check_one _ _ _ _ _ _ _ _ _ _ _ _ _ _ _ _ _ _ _ _ _ _ hI, hc]
  rfl
theorem go0_0 {R : Type} (n : Nat) (x : Int) (h1 : 1 ≤ x) (h2 : x ≤ 1099511627776) (k0 : Bool → Option R) (k1 : Int → Int → Option R) : instBounds_l6 (n + 1) x 0 2 0 twoB k0 k1 = instBounds_l6 n x 0 2 1 twoB k0 k1 := by
  have hc := at0_0 x h1 h2
  have hw : ∀ m : Int, -2000 ≤ m → m ≤ 2000 → IntKind.i64.wrap (m + x) = m + x ∧ IntKind.i64.wrap (m - x) = m - x := fun m g1 g2 => ⟨wrapN (by omega) (by omega), wrapN (by omega) (by omega)⟩
  have w1 : IntKind.i64.wrap ((0 : Int) + 1) = 1 := rfl
  have hn : IntKind.i64.wrap (-x) = -x := wrapN (by omega) (by omega)
  rw [instBounds_l6]
  simp [twoB, hc, w1, hw, meet_self, PV.asB, hn, wrapN]
theorem go0_1 {R : Type} (n : Nat) (x : Int) (h1 : 1 ≤ x) (h2 : x ≤ 1099511627776) (k0 : Bool → Option R) (k1 : Int → Int → Option R) : instBounds_l6 (n + 1) x 0 2 1 twoB k0 k1 = instBounds_l6 n x 0 2 2 twoB k0 k1 := by
  have hc := at0_1 x h1 h2
  have hw : ∀ m : Int, -2000 ≤ m → m ≤ 2000 → IntKind.i64.wrap (m + x) = m + x ∧ IntKind.i64.wrap (m - x) = m - x := fun m g1 g2 => ⟨wrapN (by omega) (by omega), wrapN (by omega) (by omega)⟩
  have w1 : IntKind.i64.wrap ((1 : Int) + 1) = 2 := rfl
  have hn : IntKind.i64.wrap (-x) = -x := wrapN (by omega) (by omega)
  rw [instBounds_l6]
  simp [twoB, hc, w1, hw, meet_self, PV.asB, hn, wrapN]
theorem end0 {R : Type} (n : Nat) (x : Int) (k0 : Bool → Option R) (k1 : Int → Int → Option R) : instBounds_l6 (n + 1) x 0 2 2 twoB k0 k1 = k1 x 0 := by
  rw [instBounds_l6]
  rfl
theorem at1_0 (x : Int) (h1 : 1 ≤ x) (h2 : x ≤ 1099511627776) : iCheck_d [[.int .i64 (0), .int .i64 (1), .int .i64 (9)]] [[.int .i64 (2), .int .i64 (0), .int .i64 (8), .int .i64 (1)], [.int .i64 (-2), .int .i64 (3), .int .i64 (4), .int .i64 (0)]] [[.int .i64 (1), .int .i64 (2)]] [[.fs [[.int .i64 (0)], [.int .i64 (1)], [.int .i64 (2)]]], [.fs [[.int .i64 (3)], [.int .i64 (0)], [.int .i64 (4)]]], [.fs [[.int .i64 (5)], [.int .i64 (6)], [.int .i64 (0)]]]] = some 0 := by
  have hI : ∀ n ∈ [0, 1, 9, 2, 0, 8, 1, -2, 3, 4, 0, 1, 2, 0, 1, 2, 3, 0, 4, 5, 6, 0], inI n = true := by
    simp only [List.mem_cons, List.not_mem_nil, or_false, forall_eq_or_imp, forall_eq, inI_iff]
    omega
  have hc : checkI ⟨[(0, 1, 9)], [(2, 0, 8, 1), (-2, 3, 4, 0)], [(1, 2)], [[0, 1, 2], [3, 0, 4], [5, 6, 0]]⟩ = true := by
    simp [checkI, carOk, stpOk, inR, pairsOk, fresh, demandAt, rowsOk, cellsOk, cellOk]
  rw [check_one _ _ _ _ _ _ _ _ _ _ _ _ _ _ _ _ _ _ _ _ _ _ hI, hc]
  rfl
theorem at1_1 (x : Int) (h1 : 1 ≤ x) (h2 : x ≤ 1099511627776) : iCheck_d [[.int .i64 (-x), .int .i64 (1), .int .i64 (9)]] [[.int .i64 (2), .int .i64 (0), .int .i64 (8), .int .i64 (1)], [.int .i64 (-2), .int .i64 (3), .int .i64 (4), .int .i64 (0)]] [[.int .i64 (1), .int .i64 (2)]] [[.fs [[.int .i64 (0)], [.int .i64 (1)], [.int .i64 (2)]]], [.fs [[.int .i64 (3)], [.int .i64 (0)], [.int .i64 (4)]]], [.fs [[.int .i64 (5)], [.int .i64 (6)], [.int .i64 (0)]]]] = some 1 := by
  have hI : ∀ n ∈ [-x, 1, 9, 2, 0, 8, 1, -2, 3, 4, 0, 1, 2, 0, 1, 2, 3, 0, 4, 5, 6, 0], inI n = true := by
    simp only [List.mem_cons, List.not_mem_nil, or_false, forall_eq_or_imp, forall_eq, inI_iff]
    omega
  have hc : checkI ⟨[(-x, 1, 9)], [(2, 0, 8, 1), (-2, 3, 4, 0)], [(1, 2)], [[0, 1, 2], [3, 0, 4], [5, 6, 0]]⟩ = false := by
    simp [checkI, carOk, stpOk, inR, pairsOk, fresh, demandAt, rowsOk, cellsOk, cellOk]
    try omega
  rw [check_one _ _ _ _ _ _ _ _ _ _ _ _ _ _ _ _ _ _ _ _ _ _ hI, hc]
  rfl
theorem go1_0 {R : Type} (n : Nat) (x : Int) (h1 : 1 ≤ x) (h2 : x ≤ 1099511627776) (k0 : Bool → Option R) (k1 : Int → Int → Option R) : instBounds_l6 (n + 1) x 1 2 0 twoB k0 k1 = instBounds_l6 n x 1 2 1 twoB k0 k1 := by
  have hc := at1_0 x h1 h2
  have hw : ∀ m : Int, -2000 ≤ m → m ≤ 2000 → IntKind.i64.wrap (m + x) = m + x ∧ IntKind.i64.wrap (m - x) = m - x := fun m g1 g2 => ⟨wrapN (by omega) (by omega), wrapN (by omega) (by omega)⟩
  have w1 : IntKind.i64.wrap ((0 : Int) + 1) = 1 := rfl
  have hn : IntKind.i64.wrap (-x) = -x := wrapN (by omega) (by omega)
  rw [instBounds_l6]
  simp [twoB, hc, w1, hw, meet_self, PV.asB, hn, wrapN]
theorem go1_1 {R : Type} (n : Nat) (x : Int) (h1 : 1 ≤ x) (h2 : x ≤ 1099511627776) (k0 : Bool → Option R) (k1 : Int → Int → Option R) : instBounds_l6 (n + 1) x 1 2 1 twoB k0 k1 = instBounds_l6 n x 1 2 2 twoB k0 k1 := by
  have hc := at1_1 x h1 h2
  have hw : ∀ m : Int, -2000 ≤ m → m ≤ 2000 → IntKind.i64.wrap (m + x) = m + x ∧ IntKind.i64.wrap (m - x) = m - x := fun m g1 g2 => ⟨wrapN (by omega) (by omega), wrapN (by omega) (by omega)⟩
  have w1 : IntKind.i64.wrap ((1 : Int) + 1) = 2 := rfl
  have hn : IntKind.i64.wrap (-x) = -x := wrapN (by omega) (by omega)
  rw [instBounds_l6]
  simp [twoB, hc, w1, hw, meet_self, PV.asB, hn, wrapN]
theorem end1 {R : Type} (n : Nat) (x : Int) (k0 : Bool → Option R) (k1 : Int → Int → Option R) : instBounds_l6 (n + 1) x 1 2 2 twoB k0 k1 = k1 x 1 := by
  rw [instBounds_l6]
  rfl
theorem at2_0 (x : Int) (h1 : 1 ≤ x) (h2 : x ≤ 1099511627776) : iCheck_d [[.int .i64 (5), .int .i64 (9), .int .i64 (9)]] [[.int .i64 (2), .int .i64 (0), .int .i64 (8), .int .i64 (1)], [.int .i64 (-2), .int .i64 (3), .int .i64 (4), .int .i64 (0)]] [[.int .i64 (1), .int .i64 (2)]] [[.fs [[.int .i64 (0)], [.int .i64 (1)], [.int .i64 (2)]]], [.fs [[.int .i64 (3)], [.int .i64 (0)], [.int .i64 (4)]]], [.fs [[.int .i64 (5)], [.int .i64 (6)], [.int .i64 (0)]]]] = some 0 := by
  have hI : ∀ n ∈ [5, 9, 9, 2, 0, 8, 1, -2, 3, 4, 0, 1, 2, 0, 1, 2, 3, 0, 4, 5, 6, 0], inI n = true := by
    simp only [List.mem_cons, List.not_mem_nil, or_false, forall_eq_or_imp, forall_eq, inI_iff]
    omega
  have hc : checkI ⟨[(5, 9, 9)], [(2, 0, 8, 1), (-2, 3, 4, 0)], [(1, 2)], [[0, 1, 2], [3, 0, 4], [5, 6, 0]]⟩ = true := by
    simp [checkI, carOk, stpOk, inR, pairsOk, fresh, demandAt, rowsOk, cellsOk, cellOk]
  rw [check_one _ _ _ _ _ _ _ _ _ _ _ _ _ _ _ _ _ _ _ _ _ _ hI, hc]
  rfl
theorem at2_1 (x : Int) (h1 : 1 ≤ x) (h2 : x ≤ 1099511627776) : iCheck_d [[.int .i64 (5), .int .i64 (9 + x), .int .i64 (9)]] [[.int .i64 (2), .int .i64 (0), .int .i64 (8), .int .i64 (1)], [.int .i64 (-2), .int .i64 (3), .int .i64 (4), .int .i64 (0)]] [[.int .i64 (1), .int .i64 (2)]] [[.fs [[.int .i64 (0)], [.int .i64 (1)], [.int .i64 (2)]]], [.fs [[.int .i64 (3)], [.int .i64 (0)], [.int .i64 (4)]]], [.fs [[.int .i64 (5)], [.int .i64 (6)], [.int .i64 (0)]]]] = some 1 := by
  have hI : ∀ n ∈ [5, 9 + x, 9, 2, 0, 8, 1, -2, 3, 4, 0, 1, 2, 0, 1, 2, 3, 0, 4, 5, 6, 0], inI n = true := by
    simp only [List.mem_cons, List.not_mem_nil, or_false, forall_eq_or_imp, forall_eq, inI_iff]
    omega
  have hc : checkI ⟨[(5, 9 + x, 9)], [(2, 0, 8, 1), (-2, 3, 4, 0)], [(1, 2)], [[0, 1, 2], [3, 0, 4], [5, 6, 0]]⟩ = false := by
    simp [checkI, carOk, stpOk, inR, pairsOk, fresh, demandAt, rowsOk, cellsOk, cellOk]
    try omega
  rw [check_one _ _ _ _ _ _ _ _ _ _ _ _ _ _ _ _ _ _ _ _ _ _ hI, hc]
  rfl
theorem go2_0 {R : Type} (n : Nat) (x : Int) (h1 : 1 ≤ x) (h2 : x ≤ 1099511627776) (k0 : Bool → Option R) (k1 : Int → Int → Option R) : instBounds_l6 (n + 1) x 2 2 0 twoB k0 k1 = instBounds_l6 n x 2 2 1 twoB k0 k1 := by
  have hc := at2_0 x h1 h2
  have hw : ∀ m : Int, -2000 ≤ m → m ≤ 2000 → IntKind.i64.wrap (m + x) = m + x ∧ IntKind.i64.wrap (m - x) = m - x := fun m g1 g2 => ⟨wrapN (by omega) (by omega), wrapN (by omega) (by omega)⟩
  have w1 : IntKind.i64.wrap ((0 : Int) + 1) = 1 := rfl
  have hn : IntKind.i64.wrap (-x) = -x := wrapN (by omega) (by omega)
  rw [instBounds_l6]
  simp [twoB, hc, w1, hw, meet_self, PV.asB, hn, wrapN]
theorem go2_1 {R : Type} (n : Nat) (x : Int) (h1 : 1 ≤ x) (h2 : x ≤ 1099511627776) (k0 : Bool → Option R) (k1 : Int → Int → Option R) : instBounds_l6 (n + 1) x 2 2 1 twoB k0 k1 = instBounds_l6 n x 2 2 2 twoB k0 k1 := by
  have hc := at2_1 x h1 h2
  have hw : ∀ m : Int, -2000 ≤ m → m ≤ 2000 → IntKind.i64.wrap (m + x) = m + x ∧ IntKind.i64.wrap (m - x) = m - x := fun m g1 g2 => ⟨wrapN (by omega) (by omega), wrapN (by omega) (by omega)⟩
  have w1 : IntKind.i64.wrap ((1 : Int) + 1) = 2 := rfl
  have hn : IntKind.i64.wrap (-x) = -x := wrapN (by omega) (by omega)
  rw [instBounds_l6]
  simp [twoB, hc, w1, hw, meet_self, PV.asB, hn, wrapN]
theorem end2 {R : Type} (n : Nat) (x : Int) (k0 : Bool → Option R) (k1 : Int → Int → Option R) : instBounds_l6 (n + 1) x 2 2 2 twoB k0 k1 = k1 x 2 := by
  rw [instBounds_l6]
  rfl
theorem at3_0 (x : Int) (h1 : 1 ≤ x) (h2 : x ≤ 1099511627776) : iCheck_d [[.int .i64 (5), .int .i64 (0), .int .i64 (9)]] [[.int .i64 (2), .int .i64 (0), .int .i64 (8), .int .i64 (1)], [.int .i64 (-2), .int .i64 (3), .int .i64 (4), .int .i64 (0)]] [[.int .i64 (1), .int .i64 (2)]] [[.fs [[.int .i64 (0)], [.int .i64 (1)], [.int .i64 (2)]]], [.fs [[.int .i64 (3)], [.int .i64 (0)], [.int .i64 (4)]]], [.fs [[.int .i64 (5)], [.int .i64 (6)], [.int .i64 (0)]]]] = some 0 := by
  have hI : ∀ n ∈ [5, 0, 9, 2, 0, 8, 1, -2, 3, 4, 0, 1, 2, 0, 1, 2, 3, 0, 4, 5, 6, 0], inI n = true := by
    simp only [List.mem_cons, List.not_mem_nil, or_false, forall_eq_or_imp, forall_eq, inI_iff]
    omega
  have hc : checkI ⟨[(5, 0, 9)], [(2, 0, 8, 1), (-2, 3, 4, 0)], [(1, 2)], [[0, 1, 2], [3, 0, 4], [5, 6, 0]]⟩ = true := by
    simp [checkI, carOk, stpOk, inR, pairsOk, fresh, demandAt, rowsOk, cellsOk, cellOk]
  rw [check_one _ _ _ _ _ _ _ _ _ _ _ _ _ _ _ _ _ _ _ _ _ _ hI, hc]
  rfl
theorem at3_1 (x : Int) (h1 : 1 ≤ x) (h2 : x ≤ 1099511627776) : iCheck_d [[.int .i64 (5), .int .i64 (-x), .int .i64 (9)]] [[.int .i64 (2), .int .i64 (0), .int .i64 (8), .int .i64 (1)], [.int .i64 (-2), .int .i64 (3), .int .i64 (4), .int .i64 (0)]] [[.int .i64 (1), .int .i64 (2)]] [[.fs [[.int .i64 (0)], [.int .i64 (1)], [.int .i64 (2)]]], [.fs [[.int .i64 (3)], [.int .i64 (0)], [.int .i64 (4)]]], [.fs [[.int .i64 (5)], [.int .i64 (6)], [.int .i64 (0)]]]] = some 1 := by
  have hI : ∀ n ∈ [5, -x, 9, 2, 0, 8, 1, -2, 3, 4, 0, 1, 2, 0, 1, 2, 3, 0, 4, 5, 6, 0], inI n = true := by
    simp only [List.mem_cons, List.not_mem_nil, or_false, forall_eq_or_imp, forall_eq, inI_iff]
    omega
  have hc : checkI ⟨[(5, -x, 9)], [(2, 0, 8, 1), (-2, 3, 4, 0)], [(1, 2)], [[0, 1, 2], [3, 0, 4], [5, 6, 0]]⟩ = false := by
    simp [checkI, carOk, stpOk, inR, pairsOk, fresh, demandAt, rowsOk, cellsOk, cellOk]
    try omega
  rw [check_one _ _ _ _ _ _ _ _ _ _ _ _ _ _ _ _ _ _ _ _ _ _ hI, hc]
  rfl
theorem go3_0 {R : Type} (n : Nat) (x : Int) (h1 : 1 ≤ x) (h2 : x ≤ 1099511627776) (k0 : Bool → Option R) (k1 : Int → Int → Option R) : instBounds_l6 (n + 1) x 3 2 0 twoB k0 k1 = instBounds_l6 n x 3 2 1 twoB k0 k1 := by
  have hc := at3_0 x h1 h2
  have hw : ∀ m : Int, -2000 ≤ m → m ≤ 2000 → IntKind.i64.wrap (m + x) = m + x ∧ IntKind.i64.wrap (m - x) = m - x := fun m g1 g2 => ⟨wrapN (by omega) (by omega), wrapN (by omega) (by omega)⟩
  have w1 : IntKind.i64.wrap ((0 : Int) + 1) = 1 := rfl
  have hn : IntKind.i64.wrap (-x) = -x := wrapN (by omega) (by omega)
  rw [instBounds_l6]
  simp [twoB, hc, w1, hw, meet_self, PV.asB, hn, wrapN]
theorem go3_1 {R : Type} (n : Nat) (x : Int) (h1 : 1 ≤ x) (h2 : x ≤ 1099511627776) (k0 : Bool → Option R) (k1 : Int → Int → Option R) : instBounds_l6 (n + 1) x 3 2 1 twoB k0 k1 = instBounds_l6 n x 3 2 2 twoB k0 k1 := by
  have hc := at3_1 x h1 h2
  have hw : ∀ m : Int, -2000 ≤ m → m ≤ 2000 → IntKind.i64.wrap (m + x) = m + x ∧ IntKind.i64.wrap (m - x) = m - x := fun m g1 g2 => ⟨wrapN (by omega) (by omega), wrapN (by omega) (by omega)⟩
  have w1 : IntKind.i64.wrap ((1 : Int) + 1) = 2 := rfl
  have hn : IntKind.i64.wrap (-x) = -x := wrapN (by omega) (by omega)
  rw [instBounds_l6]
  simp [twoB, hc, w1, hw, meet_self, PV.asB, hn, wrapN]
theorem end3 {R : Type} (n : Nat) (x : Int) (k0 : Bool → Option R) (k1 : Int → Int → Option R) : instBounds_l6 (n + 1) x 3 2 2 twoB k0 k1 = k1 x 3 := by
  rw [instBounds_l6]
  rfl
theorem at4_0 (x : Int) (h1 : 1 ≤ x) (h2 : x ≤ 1099511627776) : iCheck_d [[.int .i64 (5), .int .i64 (1), .int .i64 (1000)]] [[.int .i64 (2), .int .i64 (0), .int .i64 (8), .int .i64 (1)], [.int .i64 (-2), .int .i64 (3), .int .i64 (4), .int .i64 (0)]] [[.int .i64 (1), .int .i64 (2)]] [[.fs [[.int .i64 (0)], [.int .i64 (1)], [.int .i64 (2)]]], [.fs [[.int .i64 (3)], [.int .i64 (0)], [.int .i64 (4)]]], [.fs [[.int .i64 (5)], [.int .i64 (6)], [.int .i64 (0)]]]] = some 0 := by
  have hI : ∀ n ∈ [5, 1, 1000, 2, 0, 8, 1, -2, 3, 4, 0, 1, 2, 0, 1, 2, 3, 0, 4, 5, 6, 0], inI n = true := by
    simp only [List.mem_cons, List.not_mem_nil, or_false, forall_eq_or_imp, forall_eq, inI_iff]
    omega
  have hc : checkI ⟨[(5, 1, 1000)], [(2, 0, 8, 1), (-2, 3, 4, 0)], [(1, 2)], [[0, 1, 2], [3, 0, 4], [5, 6, 0]]⟩ = true := by
    simp [checkI, carOk, stpOk, inR, pairsOk, fresh, demandAt, rowsOk, cellsOk, cellOk]
  rw [check_one _ _ _ _ _ _ _ _ _ _ _ _ _ _ _ _ _ _ _ _ _ _ hI, hc]
  rfl
theorem at4_1 (x : Int) (h1 : 1 ≤ x) (h2 : x ≤ 1099511627776) : iCheck_d [[.int .i64 (5), .int .i64 (1), .int .i64 (1000 + x)]] [[.int .i64 (2), .int .i64 (0), .int .i64 (8), .int .i64 (1)], [.int .i64 (-2), .int .i64 (3), .int .i64 (4), .int .i64 (0)]] [[.int .i64 (1), .int .i64 (2)]] [[.fs [[.int .i64 (0)], [.int .i64 (1)], [.int .i64 (2)]]], [.fs [[.int .i64 (3)], [.int .i64 (0)], [.int .i64 (4)]]], [.fs [[.int .i64 (5)], [.int .i64 (6)], [.int .i64 (0)]]]] = some 1 := by
  have hI : ∀ n ∈ [5, 1, 1000 + x, 2, 0, 8, 1, -2, 3, 4, 0, 1, 2, 0, 1, 2, 3, 0, 4, 5, 6, 0], inI n = true := by
    simp only [List.mem_cons, List.not_mem_nil, or_false, forall_eq_or_imp, forall_eq, inI_iff]
    omega
  have hc : checkI ⟨[(5, 1, 1000 + x)], [(2, 0, 8, 1), (-2, 3, 4, 0)], [(1, 2)], [[0, 1, 2], [3, 0, 4], [5, 6, 0]]⟩ = false := by
    simp [checkI, carOk, stpOk, inR, pairsOk, fresh, demandAt, rowsOk, cellsOk, cellOk]
    try omega
  rw [check_one _ _ _ _ _ _ _ _ _ _ _ _ _ _ _ _ _ _ _ _ _ _ hI, hc]
  rfl
theorem go4_0 {R : Type} (n : Nat) (x : Int) (h1 : 1 ≤ x) (h2 : x ≤ 1099511627776) (k0 : Bool → Option R) (k1 : Int → Int → Option R) : instBounds_l6 (n + 1) x 4 2 0 twoB k0 k1 = instBounds_l6 n x 4 2 1 twoB k0 k1 := by
  have hc := at4_0 x h1 h2
  have hw : ∀ m : Int, -2000 ≤ m → m ≤ 2000 → IntKind.i64.wrap (m + x) = m + x ∧ IntKind.i64.wrap (m - x) = m - x := fun m g1 g2 => ⟨wrapN (by omega) (by omega), wrapN (by omega) (by omega)⟩
  have w1 : IntKind.i64.wrap ((0 : Int) + 1) = 1 := rfl
  have hn : IntKind.i64.wrap (-x) = -x := wrapN (by omega) (by omega)
  rw [instBounds_l6]
  simp [twoB, hc, w1, hw, meet_self, PV.asB, hn, wrapN]
theorem go4_1 {R : Type} (n : Nat) (x : Int) (h1 : 1 ≤ x) (h2 : x ≤ 1099511627776) (k0 : Bool → Option R) (k1 : Int → Int → Option R) : instBounds_l6 (n + 1) x 4 2 1 twoB k0 k1 = instBounds_l6 n x 4 2 2 twoB k0 k1 := by
  have hc := at4_1 x h1 h2
  have hw : ∀ m : Int, -2000 ≤ m → m ≤ 2000 → IntKind.i64.wrap (m + x) = m + x ∧ IntKind.i64.wrap (m - x) = m - x := fun m g1 g2 => ⟨wrapN (by omega) (by omega), wrapN (by omega) (by omega)⟩
  have w1 : IntKind.i64.wrap ((1 : Int) + 1) = 2 := rfl
  have hn : IntKind.i64.wrap (-x) = -x := wrapN (by omega) (by omega)
  rw [instBounds_l6]
  simp [twoB, hc, w1, hw, meet_self, PV.asB, hn, wrapN]
theorem end4 {R : Type} (n : Nat) (x : Int) (k0 : Bool → Option R) (k1 : Int → Int → Option R) : instBounds_l6 (n + 1) x 4 2 2 twoB k0 k1 = k1 x 4 := by
  rw [instBounds_l6]
  rfl
theorem at5_0 (x : Int) (h1 : 1 ≤ x) (h2 : x ≤ 1099511627776) : iCheck_d [[.int .i64 (5), .int .i64 (1), .int .i64 (9)]] [[.int .i64 (20), .int .i64 (0), .int .i64 (8), .int .i64 (1)], [.int .i64 (-20), .int .i64 (3), .int .i64 (4), .int .i64 (0)]] [[.int .i64 (1), .int .i64 (2)]] [[.fs [[.int .i64 (0)], [.int .i64 (1)], [.int .i64 (2)]]], [.fs [[.int .i64 (3)], [.int .i64 (0)], [.int .i64 (4)]]], [.fs [[.int .i64 (5)], [.int .i64 (6)], [.int .i64 (0)]]]] = some 0 := by
  have hI : ∀ n ∈ [5, 1, 9, 20, 0, 8, 1, -20, 3, 4, 0, 1, 2, 0, 1, 2, 3, 0, 4, 5, 6, 0], inI n = true := by
    simp only [List.mem_cons, List.not_mem_nil, or_false, forall_eq_or_imp, forall_eq, inI_iff]
    omega
  have hc : checkI ⟨[(5, 1, 9)], [(20, 0, 8, 1), (-20, 3, 4, 0)], [(1, 2)], [[0, 1, 2], [3, 0, 4], [5, 6, 0]]⟩ = true := by
    simp [checkI, carOk, stpOk, inR, pairsOk, fresh, demandAt, rowsOk, cellsOk, cellOk]
  rw [check_one _ _ _ _ _ _ _ _ _ _ _ _ _ _ _ _ _ _ _ _ _ _ hI, hc]
  rfl
theorem at5_1 (x : Int) (h1 : 1 ≤ x) (h2 : x ≤ 1099511627776) : iCheck_d [[.int .i64 (5), .int .i64 (1), .int .i64 (9)]] [[.int .i64 (20 + x), .int .i64 (0), .int .i64 (8), .int .i64 (1)], [.int .i64 (-20 - x), .int .i64 (3), .int .i64 (4), .int .i64 (0)]] [[.int .i64 (1), .int .i64 (2)]] [[.fs [[.int .i64 (0)], [.int .i64 (1)], [.int .i64 (2)]]], [.fs [[.int .i64 (3)], [.int .i64 (0)], [.int .i64 (4)]]], [.fs [[.int .i64 (5)], [.int .i64 (6)], [.int .i64 (0)]]]] = some 1 := by
  have hI : ∀ n ∈ [5, 1, 9, 20 + x, 0, 8, 1, -20 - x, 3, 4, 0, 1, 2, 0, 1, 2, 3, 0, 4, 5, 6, 0], inI n = true := by
    simp only [List.mem_cons, List.not_mem_nil, or_false, forall_eq_or_imp, forall_eq, inI_iff]
    omega
  have hc : checkI ⟨[(5, 1, 9)], [(20 + x, 0, 8, 1), (-20 - x, 3, 4, 0)], [(1, 2)], [[0, 1, 2], [3, 0, 4], [5, 6, 0]]⟩ = false := by
    simp [checkI, carOk, stpOk, inR, pairsOk, fresh, demandAt, rowsOk, cellsOk, cellOk]
    try omega
  rw [check_one _ _ _ _ _ _ _ _ _ _ _ _ _ _ _ _ _ _ _ _ _ _ hI, hc]
  rfl
theorem go5_0 {R : Type} (n : Nat) (x : Int) (h1 : 1 ≤ x) (h2 : x ≤ 1099511627776) (k0 : Bool → Option R) (k1 : Int → Int → Option R) : instBounds_l6 (n + 1) x 5 2 0 twoB k0 k1 = instBounds_l6 n x 5 2 1 twoB k0 k1 := by
  have hc := at5_0 x h1 h2
  have hw : ∀ m : Int, -2000 ≤ m → m ≤ 2000 → IntKind.i64.wrap (m + x) = m + x ∧ IntKind.i64.wrap (m - x) = m - x := fun m g1 g2 => ⟨wrapN (by omega) (by omega), wrapN (by omega) (by omega)⟩
  have w1 : IntKind.i64.wrap ((0 : Int) + 1) = 1 := rfl
  have hn : IntKind.i64.wrap (-x) = -x := wrapN (by omega) (by omega)
  rw [instBounds_l6]
  simp [twoB, hc, w1, hw, meet_self, PV.asB, hn, wrapN]
theorem go5_1 {R : Type} (n : Nat) (x : Int) (h1 : 1 ≤ x) (h2 : x ≤ 1099511627776) (k0 : Bool → Option R) (k1 : Int → Int → Option R) : instBounds_l6 (n + 1) x 5 2 1 twoB k0 k1 = instBounds_l6 n x 5 2 2 twoB k0 k1 := by
  have hc := at5_1 x h1 h2
  have hw : ∀ m : Int, -2000 ≤ m → m ≤ 2000 → IntKind.i64.wrap (m + x) = m + x ∧ IntKind.i64.wrap (m - x) = m - x := fun m g1 g2 => ⟨wrapN (by omega) (by omega), wrapN (by omega) (by omega)⟩
  have w1 : IntKind.i64.wrap ((1 : Int) + 1) = 2 := rfl
  have hn : IntKind.i64.wrap (-x) = -x := wrapN (by omega) (by omega)
  rw [instBounds_l6]
  simp [twoB, hc, w1, hw, meet_self, PV.asB, hn, wrapN]
theorem end5 {R : Type} (n : Nat) (x : Int) (k0 : Bool → Option R) (k1 : Int → Int → Option R) : instBounds_l6 (n + 1) x 5 2 2 twoB k0 k1 = k1 x 5 := by
  rw [instBounds_l6]
  rfl
theorem at6_0 (x : Int) (h1 : 1 ≤ x) (h2 : x ≤ 1099511627776) : iCheck_d [[.int .i64 (5), .int .i64 (1), .int .i64 (9)]] [[.int .i64 (2), .int .i64 (0), .int .i64 (8), .int .i64 (1)], [.int .i64 (-2), .int .i64 (3), .int .i64 (4), .int .i64 (0)]] [[.int .i64 (1), .int .i64 (2)]] [[.fs [[.int .i64 (0)], [.int .i64 (1)], [.int .i64 (2)]]], [.fs [[.int .i64 (3)], [.int .i64 (0)], [.int .i64 (4)]]], [.fs [[.int .i64 (5)], [.int .i64 (6)], [.int .i64 (0)]]]] = some 0 := by
  have hI : ∀ n ∈ [5, 1, 9, 2, 0, 8, 1, -2, 3, 4, 0, 1, 2, 0, 1, 2, 3, 0, 4, 5, 6, 0], inI n = true := by
    simp only [List.mem_cons, List.not_mem_nil, or_false, forall_eq_or_imp, forall_eq, inI_iff]
    omega
  have hc : checkI ⟨[(5, 1, 9)], [(2, 0, 8, 1), (-2, 3, 4, 0)], [(1, 2)], [[0, 1, 2], [3, 0, 4], [5, 6, 0]]⟩ = true := by
    simp [checkI, carOk, stpOk, inR, pairsOk, fresh, demandAt, rowsOk, cellsOk, cellOk]
  rw [check_one _ _ _ _ _ _ _ _ _ _ _ _ _ _ _ _ _ _ _ _ _ _ hI, hc]
  rfl
theorem at6_1 (x : Int) (h1 : 1 ≤ x) (h2 : x ≤ 1099511627776) : iCheck_d [[.int .i64 (5), .int .i64 (1), .int .i64 (9)]] [[.int .i64 (2), .int .i64 (0), .int .i64 (8), .int .i64 (1)], [.int .i64 (-2 - x), .int .i64 (3), .int .i64 (4), .int .i64 (0)]] [[.int .i64 (1), .int .i64 (2)]] [[.fs [[.int .i64 (0)], [.int .i64 (1)], [.int .i64 (2)]]], [.fs [[.int .i64 (3)], [.int .i64 (0)], [.int .i64 (4)]]], [.fs [[.int .i64 (5)], [.int .i64 (6)], [.int .i64 (0)]]]] = some 1 := by
  have hI : ∀ n ∈ [5, 1, 9, 2, 0, 8, 1, -2 - x, 3, 4, 0, 1, 2, 0, 1, 2, 3, 0, 4, 5, 6, 0], inI n = true := by
    simp only [List.mem_cons, List.not_mem_nil, or_false, forall_eq_or_imp, forall_eq, inI_iff]
    omega
  have hc : checkI ⟨[(5, 1, 9)], [(2, 0, 8, 1), (-2 - x, 3, 4, 0)], [(1, 2)], [[0, 1, 2], [3, 0, 4], [5, 6, 0]]⟩ = false := by
    simp [checkI, carOk, stpOk, inR, pairsOk, fresh, demandAt, rowsOk, cellsOk, cellOk]
    try omega
  rw [check_one _ _ _ _ _ _ _ _ _ _ _ _ _ _ _ _ _ _ _ _ _ _ hI, hc]
  rfl
theorem go6_0 {R : Type} (n : Nat) (x : Int) (h1 : 1 ≤ x) (h2 : x ≤ 1099511627776) (k0 : Bool → Option R) (k1 : Int → Int → Option R) : instBounds_l6 (n + 1) x 6 2 0 twoB k0 k1 = instBounds_l6 n x 6 2 1 twoB k0 k1 := by
  have hc := at6_0 x h1 h2
  have hw : ∀ m : Int, -2000 ≤ m → m ≤ 2000 → IntKind.i64.wrap (m + x) = m + x ∧ IntKind.i64.wrap (m - x) = m - x := fun m g1 g2 => ⟨wrapN (by omega) (by omega), wrapN (by omega) (by omega)⟩
  have w1 : IntKind.i64.wrap ((0 : Int) + 1) = 1 := rfl
  have hn : IntKind.i64.wrap (-x) = -x := wrapN (by omega) (by omega)
  rw [instBounds_l6]
  simp [twoB, hc, w1, hw, meet_self, PV.asB, hn, wrapN]
theorem go6_1 {R : Type} (n : Nat) (x : Int) (h1 : 1 ≤ x) (h2 : x ≤ 1099511627776) (k0 : Bool → Option R) (k1 : Int → Int → Option R) : instBounds_l6 (n + 1) x 6 2 1 twoB k0 k1 = instBounds_l6 n x 6 2 2 twoB k0 k1 := by
  have hc := at6_1 x h1 h2
  have hw : ∀ m : Int, -2000 ≤ m → m ≤ 2000 → IntKind.i64.wrap (m + x) = m + x ∧ IntKind.i64.wrap (m - x) = m - x := fun m g1 g2 => ⟨wrapN (by omega) (by omega), wrapN (by omega) (by omega)⟩
  have w1 : IntKind.i64.wrap ((1 : Int) + 1) = 2 := rfl
  have hn : IntKind.i64.wrap (-x) = -x := wrapN (by omega) (by omega)
  rw [instBounds_l6]
  simp [twoB, hc, w1, hw, meet_self, PV.asB, hn, wrapN]
theorem end6 {R : Type} (n : Nat) (x : Int) (k0 : Bool → Option R) (k1 : Int → Int → Option R) : instBounds_l6 (n + 1) x 6 2 2 twoB k0 k1 = k1 x 6 := by
  rw [instBounds_l6]
  rfl
theorem at7_0 (x : Int) (h1 : 1 ≤ x) (h2 : x ≤ 1099511627776) : iCheck_d [[.int .i64 (5), .int .i64 (1), .int .i64 (9)]] [[.int .i64 (2), .int .i64 (0), .int .i64 (8), .int .i64 (1)], [.int .i64 (-2), .int .i64 (3), .int .i64 (4), .int .i64 (0)]] [[.int .i64 (1), .int .i64 (2)]] [[.fs [[.int .i64 (0)], [.int .i64 (1)], [.int .i64 (2)]]], [.fs [[.int .i64 (3)], [.int .i64 (0)], [.int .i64 (4)]]], [.fs [[.int .i64 (5)], [.int .i64 (6)], [.int .i64 (0)]]]] = some 0 := by
  have hI : ∀ n ∈ [5, 1, 9, 2, 0, 8, 1, -2, 3, 4, 0, 1, 2, 0, 1, 2, 3, 0, 4, 5, 6, 0], inI n = true := by
    simp only [List.mem_cons, List.not_mem_nil, or_false, forall_eq_or_imp, forall_eq, inI_iff]
    omega
  have hc : checkI ⟨[(5, 1, 9)], [(2, 0, 8, 1), (-2, 3, 4, 0)], [(1, 2)], [[0, 1, 2], [3, 0, 4], [5, 6, 0]]⟩ = true := by
    simp [checkI, carOk, stpOk, inR, pairsOk, fresh, demandAt, rowsOk, cellsOk, cellOk]
  rw [check_one _ _ _ _ _ _ _ _ _ _ _ _ _ _ _ _ _ _ _ _ _ _ hI, hc]
  rfl
theorem at7_1 (x : Int) (h1 : 1 ≤ x) (h2 : x ≤ 1099511627776) : iCheck_d [[.int .i64 (5), .int .i64 (1), .int .i64 (9)]] [[.int .i64 (2), .int .i64 (-x), .int .i64 (8), .int .i64 (1)], [.int .i64 (-2), .int .i64 (3), .int .i64 (4), .int .i64 (0)]] [[.int .i64 (1), .int .i64 (2)]] [[.fs [[.int .i64 (0)], [.int .i64 (1)], [.int .i64 (2)]]], [.fs [[.int .i64 (3)], [.int .i64 (0)], [.int .i64 (4)]]], [.fs [[.int .i64 (5)], [.int .i64 (6)], [.int .i64 (0)]]]] = some 1 := by
  have hI : ∀ n ∈ [5, 1, 9, 2, -x, 8, 1, -2, 3, 4, 0, 1, 2, 0, 1, 2, 3, 0, 4, 5, 6, 0], inI n = true := by
    simp only [List.mem_cons, List.not_mem_nil, or_false, forall_eq_or_imp, forall_eq, inI_iff]
    omega
  have hc : checkI ⟨[(5, 1, 9)], [(2, -x, 8, 1), (-2, 3, 4, 0)], [(1, 2)], [[0, 1, 2], [3, 0, 4], [5, 6, 0]]⟩ = false := by
    simp [checkI, carOk, stpOk, inR, pairsOk, fresh, demandAt, rowsOk, cellsOk, cellOk]
    try omega
  rw [check_one _ _ _ _ _ _ _ _ _ _ _ _ _ _ _ _ _ _ _ _ _ _ hI, hc]
  rfl
theorem go7_0 {R : Type} (n : Nat) (x : Int) (h1 : 1 ≤ x) (h2 : x ≤ 1099511627776) (k0 : Bool → Option R) (k1 : Int → Int → Option R) : instBounds_l6 (n + 1) x 7 2 0 twoB k0 k1 = instBounds_l6 n x 7 2 1 twoB k0 k1 := by
  have hc := at7_0 x h1 h2
  have hw : ∀ m : Int, -2000 ≤ m → m ≤ 2000 → IntKind.i64.wrap (m + x) = m + x ∧ IntKind.i64.wrap (m - x) = m - x := fun m g1 g2 => ⟨wrapN (by omega) (by omega), wrapN (by omega) (by omega)⟩
  have w1 : IntKind.i64.wrap ((0 : Int) + 1) = 1 := rfl
  have hn : IntKind.i64.wrap (-x) = -x := wrapN (by omega) (by omega)
  rw [instBounds_l6]
  simp [twoB, hc, w1, hw, meet_self, PV.asB, hn, wrapN]
theorem go7_1 {R : Type} (n : Nat) (x : Int) (h1 : 1 ≤ x) (h2 : x ≤ 1099511627776) (k0 : Bool → Option R) (k1 : Int → Int → Option R) : instBounds_l6 (n + 1) x 7 2 1 twoB k0 k1 = instBounds_l6 n x 7 2 2 twoB k0 k1 := by
  have hc := at7_1 x h1 h2
  have hw : ∀ m : Int, -2000 ≤ m → m ≤ 2000 → IntKind.i64.wrap (m + x) = m + x ∧ IntKind.i64.wrap (m - x) = m - x := fun m g1 g2 => ⟨wrapN (by omega) (by omega), wrapN (by omega) (by omega)⟩
  have w1 : IntKind.i64.wrap ((1 : Int) + 1) = 2 := rfl
  have hn : IntKind.i64.wrap (-x) = -x := wrapN (by omega) (by omega)
  rw [instBounds_l6]
  simp [twoB, hc, w1, hw, meet_self, PV.asB, hn, wrapN]
theorem end7 {R : Type} (n : Nat) (x : Int) (k0 : Bool → Option R) (k1 : Int → Int → Option R) : instBounds_l6 (n + 1) x 7 2 2 twoB k0 k1 = k1 x 7 := by
  rw [instBounds_l6]
  rfl
theorem at8_0 (x : Int) (h1 : 1 ≤ x) (h2 : x ≤ 1099511627776) : iCheck_d [[.int .i64 (5), .int .i64 (1), .int .i64 (9)]] [[.int .i64 (2), .int .i64 (8), .int .i64 (8), .int .i64 (1)], [.int .i64 (-2), .int .i64 (3), .int .i64 (4), .int .i64 (0)]] [[.int .i64 (1), .int .i64 (2)]] [[.fs [[.int .i64 (0)], [.int .i64 (1)], [.int .i64 (2)]]], [.fs [[.int .i64 (3)], [.int .i64 (0)], [.int .i64 (4)]]], [.fs [[.int .i64 (5)], [.int .i64 (6)], [.int .i64 (0)]]]] = some 0 := by
  have hI : ∀ n ∈ [5, 1, 9, 2, 8, 8, 1, -2, 3, 4, 0, 1, 2, 0, 1, 2, 3, 0, 4, 5, 6, 0], inI n = true := by
    simp only [List.mem_cons, List.not_mem_nil, or_false, forall_eq_or_imp, forall_eq, inI_iff]
    omega
  have hc : checkI ⟨[(5, 1, 9)], [(2, 8, 8, 1), (-2, 3, 4, 0)], [(1, 2)], [[0, 1, 2], [3, 0, 4], [5, 6, 0]]⟩ = true := by
    simp [checkI, carOk, stpOk, inR, pairsOk, fresh, demandAt, rowsOk, cellsOk, cellOk]
  rw [check_one _ _ _ _ _ _ _ _ _ _ _ _ _ _ _ _ _ _ _ _ _ _ hI, hc]
  rfl
theorem at8_1 (x : Int) (h1 : 1 ≤ x) (h2 : x ≤ 1099511627776) : iCheck_d [[.int .i64 (5), .int .i64 (1), .int .i64 (9)]] [[.int .i64 (2), .int .i64 (8 + x), .int .i64 (8), .int .i64 (1)], [.int .i64 (-2), .int .i64 (3), .int .i64 (4), .int .i64 (0)]] [[.int .i64 (1), .int .i64 (2)]] [[.fs [[.int .i64 (0)], [.int .i64 (1)], [.int .i64 (2)]]], [.fs [[.int .i64 (3)], [.int .i64 (0)], [.int .i64 (4)]]], [.fs [[.int .i64 (5)], [.int .i64 (6)], [.int .i64 (0)]]]] = some 1 := by
  have hI : ∀ n ∈ [5, 1, 9, 2, 8 + x, 8, 1, -2, 3, 4, 0, 1, 2, 0, 1, 2, 3, 0, 4, 5, 6, 0], inI n = true := by
    simp only [List.mem_cons, List.not_mem_nil, or_false, forall_eq_or_imp, forall_eq, inI_iff]
    omega
  have hc : checkI ⟨[(5, 1, 9)], [(2, 8 + x, 8, 1), (-2, 3, 4, 0)], [(1, 2)], [[0, 1, 2], [3, 0, 4], [5, 6, 0]]⟩ = false := by
    simp [checkI, carOk, stpOk, inR, pairsOk, fresh, demandAt, rowsOk, cellsOk, cellOk]
    try omega
  rw [check_one _ _ _ _ _ _ _ _ _ _ _ _ _ _ _ _ _ _ _ _ _ _ hI, hc]
  rfl
theorem go8_0 {R : Type} (n : Nat) (x : Int) (h1 : 1 ≤ x) (h2 : x ≤ 1099511627776) (k0 : Bool → Option R) (k1 : Int → Int → Option R) : instBounds_l6 (n + 1) x 8 2 0 twoB k0 k1 = instBounds_l6 n x 8 2 1 twoB k0 k1 := by
  have hc := at8_0 x h1 h2
  have hw : ∀ m : Int, -2000 ≤ m → m ≤ 2000 → IntKind.i64.wrap (m + x) = m + x ∧ IntKind.i64.wrap (m - x) = m - x := fun m g1 g2 => ⟨wrapN (by omega) (by omega), wrapN (by omega) (by omega)⟩
  have w1 : IntKind.i64.wrap ((0 : Int) + 1) = 1 := rfl
  have hn : IntKind.i64.wrap (-x) = -x := wrapN (by omega) (by omega)
  rw [instBounds_l6]
  simp [twoB, hc, w1, hw, meet_self, PV.asB, hn, wrapN]
theorem go8_1 {R : Type} (n : Nat) (x : Int) (h1 : 1 ≤ x) (h2 : x ≤ 1099511627776) (k0 : Bool → Option R) (k1 : Int → Int → Option R) : instBounds_l6 (n + 1) x 8 2 1 twoB k0 k1 = instBounds_l6 n x 8 2 2 twoB k0 k1 := by
  have hc := at8_1 x h1 h2
  have hw : ∀ m : Int, -2000 ≤ m → m ≤ 2000 → IntKind.i64.wrap (m + x) = m + x ∧ IntKind.i64.wrap (m - x) = m - x := fun m g1 g2 => ⟨wrapN (by omega) (by omega), wrapN (by omega) (by omega)⟩
  have w1 : IntKind.i64.wrap ((1 : Int) + 1) = 2 := rfl
  have hn : IntKind.i64.wrap (-x) = -x := wrapN (by omega) (by omega)
  rw [instBounds_l6]
  simp [twoB, hc, w1, hw, meet_self, PV.asB, hn, wrapN]
theorem end8 {R : Type} (n : Nat) (x : Int) (k0 : Bool → Option R) (k1 : Int → Int → Option R) : instBounds_l6 (n + 1) x 8 2 2 twoB k0 k1 = k1 x 8 := by
  rw [instBounds_l6]
  rfl
theorem at9_0 (x : Int) (h1 : 1 ≤ x) (h2 : x ≤ 1099511627776) : iCheck_d [[.int .i64 (5), .int .i64 (1), .int .i64 (9)]] [[.int .i64 (2), .int .i64 (0), .int .i64 (1000), .int .i64 (1)], [.int .i64 (-2), .int .i64 (3), .int .i64 (4), .int .i64 (0)]] [[.int .i64 (1), .int .i64 (2)]] [[.fs [[.int .i64 (0)], [.int .i64 (1)], [.int .i64 (2)]]], [.fs [[.int .i64 (3)], [.int .i64 (0)], [.int .i64 (4)]]], [.fs [[.int .i64 (5)], [.int .i64 (6)], [.int .i64 (0)]]]] = some 0 := by
  have hI : ∀ n ∈ [5, 1, 9, 2, 0, 1000, 1, -2, 3, 4, 0, 1, 2, 0, 1, 2, 3, 0, 4, 5, 6, 0], inI n = true := by
    simp only [List.mem_cons, List.not_mem_nil, or_false, forall_eq_or_imp, forall_eq, inI_iff]
    omega
  have hc : checkI ⟨[(5, 1, 9)], [(2, 0, 1000, 1), (-2, 3, 4, 0)], [(1, 2)], [[0, 1, 2], [3, 0, 4], [5, 6, 0]]⟩ = true := by
    simp [checkI, carOk, stpOk, inR, pairsOk, fresh, demandAt, rowsOk, cellsOk, cellOk]
  rw [check_one _ _ _ _ _ _ _ _ _ _ _ _ _ _ _ _ _ _ _ _ _ _ hI, hc]
  rfl
theorem at9_1 (x : Int) (h1 : 1 ≤ x) (h2 : x ≤ 1099511627776) : iCheck_d [[.int .i64 (5), .int .i64 (1), .int .i64 (9)]] [[.int .i64 (2), .int .i64 (0), .int .i64 (1000 + x), .int .i64 (1)], [.int .i64 (-2), .int .i64 (3), .int .i64 (4), .int .i64 (0)]] [[.int .i64 (1), .int .i64 (2)]] [[.fs [[.int .i64 (0)], [.int .i64 (1)], [.int .i64 (2)]]], [.fs [[.int .i64 (3)], [.int .i64 (0)], [.int .i64 (4)]]], [.fs [[.int .i64 (5)], [.int .i64 (6)], [.int .i64 (0)]]]] = some 1 := by
  have hI : ∀ n ∈ [5, 1, 9, 2, 0, 1000 + x, 1, -2, 3, 4, 0, 1, 2, 0, 1, 2, 3, 0, 4, 5, 6, 0], inI n = true := by
    simp only [List.mem_cons, List.not_mem_nil, or_false, forall_eq_or_imp, forall_eq, inI_iff]
    omega
  have hc : checkI ⟨[(5, 1, 9)], [(2, 0, 1000 + x, 1), (-2, 3, 4, 0)], [(1, 2)], [[0, 1, 2], [3, 0, 4], [5, 6, 0]]⟩ = false := by
    simp [checkI, carOk, stpOk, inR, pairsOk, fresh, demandAt, rowsOk, cellsOk, cellOk]
    try omega
  rw [check_one _ _ _ _ _ _ _ _ _ _ _ _ _ _ _ _ _ _ _ _ _ _ hI, hc]
  rfl
theorem go9_0 {R : Type} (n : Nat) (x : Int) (h1 : 1 ≤ x) (h2 : x ≤ 1099511627776) (k0 : Bool → Option R) (k1 : Int → Int → Option R) : instBounds_l6 (n + 1) x 9 2 0 twoB k0 k1 = instBounds_l6 n x 9 2 1 twoB k0 k1 := by
  have hc := at9_0 x h1 h2
  have hw : ∀ m : Int, -2000 ≤ m → m ≤ 2000 → IntKind.i64.wrap (m + x) = m + x ∧ IntKind.i64.wrap (m - x) = m - x := fun m g1 g2 => ⟨wrapN (by omega) (by omega), wrapN (by omega) (by omega)⟩
  have w1 : IntKind.i64.wrap ((0 : Int) + 1) = 1 := rfl
  have hn : IntKind.i64.wrap (-x) = -x := wrapN (by omega) (by omega)
  rw [instBounds_l6]
  simp [twoB, hc, w1, hw, meet_self, PV.asB, hn, wrapN]
theorem go9_1 {R : Type} (n : Nat) (x : Int) (h1 : 1 ≤ x) (h2 : x ≤ 1099511627776) (k0 : Bool → Option R) (k1 : Int → Int → Option R) : instBounds_l6 (n + 1) x 9 2 1 twoB k0 k1 = instBounds_l6 n x 9 2 2 twoB k0 k1 := by
  have hc := at9_1 x h1 h2
  have hw : ∀ m : Int, -2000 ≤ m → m ≤ 2000 → IntKind.i64.wrap (m + x) = m + x ∧ IntKind.i64.wrap (m - x) = m - x := fun m g1 g2 => ⟨wrapN (by omega) (by omega), wrapN (by omega) (by omega)⟩
  have w1 : IntKind.i64.wrap ((1 : Int) + 1) = 2 := rfl
  have hn : IntKind.i64.wrap (-x) = -x := wrapN (by omega) (by omega)
  rw [instBounds_l6]
  simp [twoB, hc, w1, hw, meet_self, PV.asB, hn, wrapN]
theorem end9 {R : Type} (n : Nat) (x : Int) (k0 : Bool → Option R) (k1 : Int → Int → Option R) : instBounds_l6 (n + 1) x 9 2 2 twoB k0 k1 = k1 x 9 := by
  rw [instBounds_l6]
  rfl
theorem at10_0 (x : Int) (h1 : 1 ≤ x) (h2 : x ≤ 1099511627776) : iCheck_d [[.int .i64 (5), .int .i64 (1), .int .i64 (9)]] [[.int .i64 (2), .int .i64 (0), .int .i64 (8), .int .i64 (0)], [.int .i64 (-2), .int .i64 (3), .int .i64 (4), .int .i64 (0)]] [[.int .i64 (1), .int .i64 (2)]] [[.fs [[.int .i64 (0)], [.int .i64 (1)], [.int .i64 (2)]]], [.fs [[.int .i64 (3)], [.int .i64 (0)], [.int .i64 (4)]]], [.fs [[.int .i64 (5)], [.int .i64 (6)], [.int .i64 (0)]]]] = some 0 := by
  have hI : ∀ n ∈ [5, 1, 9, 2, 0, 8, 0, -2, 3, 4, 0, 1, 2, 0, 1, 2, 3, 0, 4, 5, 6, 0], inI n = true := by
    simp only [List.mem_cons, List.not_mem_nil, or_false, forall_eq_or_imp, forall_eq, inI_iff]
    omega
  have hc : checkI ⟨[(5, 1, 9)], [(2, 0, 8, 0), (-2, 3, 4, 0)], [(1, 2)], [[0, 1, 2], [3, 0, 4], [5, 6, 0]]⟩ = true := by
    simp [checkI, carOk, stpOk, inR, pairsOk, fresh, demandAt, rowsOk, cellsOk, cellOk]
  rw [check_one _ _ _ _ _ _ _ _ _ _ _ _ _ _ _ _ _ _ _ _ _ _ hI, hc]
  rfl
theorem at10_1 (x : Int) (h1 : 1 ≤ x) (h2 : x ≤ 1099511627776) : iCheck_d [[.int .i64 (5), .int .i64 (1), .int .i64 (9)]] [[.int .i64 (2), .int .i64 (0), .int .i64 (8), .int .i64 (-x)], [.int .i64 (-2), .int .i64 (3), .int .i64 (4), .int .i64 (0)]] [[.int .i64 (1), .int .i64 (2)]] [[.fs [[.int .i64 (0)], [.int .i64 (1)], [.int .i64 (2)]]], [.fs [[.int .i64 (3)], [.int .i64 (0)], [.int .i64 (4)]]], [.fs [[.int .i64 (5)], [.int .i64 (6)], [.int .i64 (0)]]]] = some 1 := by
  have hI : ∀ n ∈ [5, 1, 9, 2, 0, 8, -x, -2, 3, 4, 0, 1, 2, 0, 1, 2, 3, 0, 4, 5, 6, 0], inI n = true := by
    simp only [List.mem_cons, List.not_mem_nil, or_false, forall_eq_or_imp, forall_eq, inI_iff]
    omega
  have hc : checkI ⟨[(5, 1, 9)], [(2, 0, 8, -x), (-2, 3, 4, 0)], [(1, 2)], [[0, 1, 2], [3, 0, 4], [5, 6, 0]]⟩ = false := by
    simp [checkI, carOk, stpOk, inR, pairsOk, fresh, demandAt, rowsOk, cellsOk, cellOk]
    try omega
  rw [check_one _ _ _ _ _ _ _ _ _ _ _ _ _ _ _ _ _ _ _ _ _ _ hI, hc]
  rfl
theorem go10_0 {R : Type} (n : Nat) (x : Int) (h1 : 1 ≤ x) (h2 : x ≤ 1099511627776) (k0 : Bool → Option R) (k1 : Int → Int → Option R) : instBounds_l6 (n + 1) x 10 2 0 twoB k0 k1 = instBounds_l6 n x 10 2 1 twoB k0 k1 := by
  have hc := at10_0 x h1 h2
  have hw : ∀ m : Int, -2000 ≤ m → m ≤ 2000 → IntKind.i64.wrap (m + x) = m + x ∧ IntKind.i64.wrap (m - x) = m - x := fun m g1 g2 => ⟨wrapN (by omega) (by omega), wrapN (by omega) (by omega)⟩
  have w1 : IntKind.i64.wrap ((0 : Int) + 1) = 1 := rfl
  have hn : IntKind.i64.wrap (-x) = -x := wrapN (by omega) (by omega)
  rw [instBounds_l6]
  simp [twoB, hc, w1, hw, meet_self, PV.asB, hn, wrapN]
theorem go10_1 {R : Type} (n : Nat) (x : Int) (h1 : 1 ≤ x) (h2 : x ≤ 1099511627776) (k0 : Bool → Option R) (k1 : Int → Int → Option R) : instBounds_l6 (n + 1) x 10 2 1 twoB k0 k1 = instBounds_l6 n x 10 2 2 twoB k0 k1 := by
  have hc := at10_1 x h1 h2
  have hw : ∀ m : Int, -2000 ≤ m → m ≤ 2000 → IntKind.i64.wrap (m + x) = m + x ∧ IntKind.i64.wrap (m - x) = m - x := fun m g1 g2 => ⟨wrapN (by omega) (by omega), wrapN (by omega) (by omega)⟩
  have w1 : IntKind.i64.wrap ((1 : Int) + 1) = 2 := rfl
  have hn : IntKind.i64.wrap (-x) = -x := wrapN (by omega) (by omega)
  rw [instBounds_l6]
  simp [twoB, hc, w1, hw, meet_self, PV.asB, hn, wrapN]
theorem end10 {R : Type} (n : Nat) (x : Int) (k0 : Bool → Option R) (k1 : Int → Int → Option R) : instBounds_l6 (n + 1) x 10 2 2 twoB k0 k1 = k1 x 10 := by
  rw [instBounds_l6]
  rfl
theorem at11_0 (x : Int) (h1 : 1 ≤ x) (h2 : x ≤ 1099511627776) : iCheck_d [[.int .i64 (5), .int .i64 (1), .int .i64 (9)]] [[.int .i64 (2), .int .i64 (0), .int .i64 (8), .int .i64 (1000)], [.int .i64 (-2), .int .i64 (3), .int .i64 (4), .int .i64 (0)]] [[.int .i64 (1), .int .i64 (2)]] [[.fs [[.int .i64 (0)], [.int .i64 (1)], [.int .i64 (2)]]], [.fs [[.int .i64 (3)], [.int .i64 (0)], [.int .i64 (4)]]], [.fs [[.int .i64 (5)], [.int .i64 (6)], [.int .i64 (0)]]]] = some 0 := by
  have hI : ∀ n ∈ [5, 1, 9, 2, 0, 8, 1000, -2, 3, 4, 0, 1, 2, 0, 1, 2, 3, 0, 4, 5, 6, 0], inI n = true := by
    simp only [List.mem_cons, List.not_mem_nil, or_false, forall_eq_or_imp, forall_eq, inI_iff]
    omega
  have hc : checkI ⟨[(5, 1, 9)], [(2, 0, 8, 1000), (-2, 3, 4, 0)], [(1, 2)], [[0, 1, 2], [3, 0, 4], [5, 6, 0]]⟩ = true := by
    simp [checkI, carOk, stpOk, inR, pairsOk, fresh, demandAt, rowsOk, cellsOk, cellOk]
  rw [check_one _ _ _ _ _ _ _ _ _ _ _ _ _ _ _ _ _ _ _ _ _ _ hI, hc]
  rfl
theorem at11_1 (x : Int) (h1 : 1 ≤ x) (h2 : x ≤ 1099511627776) : iCheck_d [[.int .i64 (5), .int .i64 (1), .int .i64 (9)]] [[.int .i64 (2), .int .i64 (0), .int .i64 (8), .int .i64 (1000 + x)], [.int .i64 (-2), .int .i64 (3), .int .i64 (4), .int .i64 (0)]] [[.int .i64 (1), .int .i64 (2)]] [[.fs [[.int .i64 (0)], [.int .i64 (1)], [.int .i64 (2)]]], [.fs [[.int .i64 (3)], [.int .i64 (0)], [.int .i64 (4)]]], [.fs [[.int .i64 (5)], [.int .i64 (6)], [.int .i64 (0)]]]] = some 1 := by
  have hI : ∀ n ∈ [5, 1, 9, 2, 0, 8, 1000 + x, -2, 3, 4, 0, 1, 2, 0, 1, 2, 3, 0, 4, 5, 6, 0], inI n = true := by
    simp only [List.mem_cons, List.not_mem_nil, or_false, forall_eq_or_imp, forall_eq, inI_iff]
    omega
  have hc : checkI ⟨[(5, 1, 9)], [(2, 0, 8, 1000 + x), (-2, 3, 4, 0)], [(1, 2)], [[0, 1, 2], [3, 0, 4], [5, 6, 0]]⟩ = false := by
    simp [checkI, carOk, stpOk, inR, pairsOk, fresh, demandAt, rowsOk, cellsOk, cellOk]
    try omega
  rw [check_one _ _ _ _ _ _ _ _ _ _ _ _ _ _ _ _ _ _ _ _ _ _ hI, hc]
  rfl
theorem go11_0 {R : Type} (n : Nat) (x : Int) (h1 : 1 ≤ x) (h2 : x ≤ 1099511627776) (k0 : Bool → Option R) (k1 : Int → Int → Option R) : instBounds_l6 (n + 1) x 11 2 0 twoB k0 k1 = instBounds_l6 n x 11 2 1 twoB k0 k1 := by
  have hc := at11_0 x h1 h2
  have hw : ∀ m : Int, -2000 ≤ m → m ≤ 2000 → IntKind.i64.wrap (m + x) = m + x ∧ IntKind.i64.wrap (m - x) = m - x := fun m g1 g2 => ⟨wrapN (by omega) (by omega), wrapN (by omega) (by omega)⟩
  have w1 : IntKind.i64.wrap ((0 : Int) + 1) = 1 := rfl
  have hn : IntKind.i64.wrap (-x) = -x := wrapN (by omega) (by omega)
  rw [instBounds_l6]
  simp [twoB, hc, w1, hw, meet_self, PV.asB, hn, wrapN]
theorem go11_1 {R : Type} (n : Nat) (x : Int) (h1 : 1 ≤ x) (h2 : x ≤ 1099511627776) (k0 : Bool → Option R) (k1 : Int → Int → Option R) : instBounds_l6 (n + 1) x 11 2 1 twoB k0 k1 = instBounds_l6 n x 11 2 2 twoB k0 k1 := by
  have hc := at11_1 x h1 h2
  have hw : ∀ m : Int, -2000 ≤ m → m ≤ 2000 → IntKind.i64.wrap (m + x) = m + x ∧ IntKind.i64.wrap (m - x) = m - x := fun m g1 g2 => ⟨wrapN (by omega) (by omega), wrapN (by omega) (by omega)⟩
  have w1 : IntKind.i64.wrap ((1 : Int) + 1) = 2 := rfl
  have hn : IntKind.i64.wrap (-x) = -x := wrapN (by omega) (by omega)
  rw [instBounds_l6]
  simp [twoB, hc, w1, hw, meet_self, PV.asB, hn, wrapN]
theorem end11 {R : Type} (n : Nat) (x : Int) (k0 : Bool → Option R) (k1 : Int → Int → Option R) : instBounds_l6 (n + 1) x 11 2 2 twoB k0 k1 = k1 x 11 := by
  rw [instBounds_l6]
  rfl
theorem at12_0 (x : Int) (h1 : 1 ≤ x) (h2 : x ≤ 1099511627776) : iCheck_d [[.int .i64 (5), .int .i64 (1), .int .i64 (9)]] [[.int .i64 (2), .int .i64 (0), .int .i64 (8), .int .i64 (1)], [.int .i64 (-2), .int .i64 (3), .int .i64 (4), .int .i64 (0)]] [[.int .i64 (1), .int .i64 (2)]] [[.fs [[.int .i64 (0)], [.int .i64 (1)], [.int .i64 (2)]]], [.fs [[.int .i64 (3)], [.int .i64 (0)], [.int .i64 (1000)]]], [.fs [[.int .i64 (5)], [.int .i64 (6)], [.int .i64 (0)]]]] = some 0 := by
  have hI : ∀ n ∈ [5, 1, 9, 2, 0, 8, 1, -2, 3, 4, 0, 1, 2, 0, 1, 2, 3, 0, 1000, 5, 6, 0], inI n = true := by
    simp only [List.mem_cons, List.not_mem_nil, or_false, forall_eq_or_imp, forall_eq, inI_iff]
    omega
  have hc : checkI ⟨[(5, 1, 9)], [(2, 0, 8, 1), (-2, 3, 4, 0)], [(1, 2)], [[0, 1, 2], [3, 0, 1000], [5, 6, 0]]⟩ = true := by
    simp [checkI, carOk, stpOk, inR, pairsOk, fresh, demandAt, rowsOk, cellsOk, cellOk]
  rw [check_one _ _ _ _ _ _ _ _ _ _ _ _ _ _ _ _ _ _ _ _ _ _ hI, hc]
  rfl
theorem at12_1 (x : Int) (h1 : 1 ≤ x) (h2 : x ≤ 1099511627776) : iCheck_d [[.int .i64 (5), .int .i64 (1), .int .i64 (9)]] [[.int .i64 (2), .int .i64 (0), .int .i64 (8), .int .i64 (1)], [.int .i64 (-2), .int .i64 (3), .int .i64 (4), .int .i64 (0)]] [[.int .i64 (1), .int .i64 (2)]] [[.fs [[.int .i64 (0)], [.int .i64 (1)], [.int .i64 (2)]]], [.fs [[.int .i64 (3)], [.int .i64 (0)], [.int .i64 (1000 + x)]]], [.fs [[.int .i64 (5)], [.int .i64 (6)], [.int .i64 (0)]]]] = some 1 := by
  have hI : ∀ n ∈ [5, 1, 9, 2, 0, 8, 1, -2, 3, 4, 0, 1, 2, 0, 1, 2, 3, 0, 1000 + x, 5, 6, 0], inI n = true := by
    simp only [List.mem_cons, List.not_mem_nil, or_false, forall_eq_or_imp, forall_eq, inI_iff]
    omega
  have hc : checkI ⟨[(5, 1, 9)], [(2, 0, 8, 1), (-2, 3, 4, 0)], [(1, 2)], [[0, 1, 2], [3, 0, 1000 + x], [5, 6, 0]]⟩ = false := by
    simp [checkI, carOk, stpOk, inR, pairsOk, fresh, demandAt, rowsOk, cellsOk, cellOk]
    try omega
  rw [check_one _ _ _ _ _ _ _ _ _ _ _ _ _ _ _ _ _ _ _ _ _ _ hI, hc]
  rfl
theorem go12_0 {R : Type} (n : Nat) (x : Int) (h1 : 1 ≤ x) (h2 : x ≤ 1099511627776) (k0 : Bool → Option R) (k1 : Int → Int → Option R) : instBounds_l6 (n + 1) x 12 2 0 twoB k0 k1 = instBounds_l6 n x 12 2 1 twoB k0 k1 := by
  have hc := at12_0 x h1 h2
  have hw : ∀ m : Int, -2000 ≤ m → m ≤ 2000 → IntKind.i64.wrap (m + x) = m + x ∧ IntKind.i64.wrap (m - x) = m - x := fun m g1 g2 => ⟨wrapN (by omega) (by omega), wrapN (by omega) (by omega)⟩
  have w1 : IntKind.i64.wrap ((0 : Int) + 1) = 1 := rfl
  have hn : IntKind.i64.wrap (-x) = -x := wrapN (by omega) (by omega)
  rw [instBounds_l6]
  simp [twoB, hc, w1, hw, meet_self, PV.asB, hn, wrapN]
theorem go12_1 {R : Type} (n : Nat) (x : Int) (h1 : 1 ≤ x) (h2 : x ≤ 1099511627776) (k0 : Bool → Option R) (k1 : Int → Int → Option R) : instBounds_l6 (n + 1) x 12 2 1 twoB k0 k1 = instBounds_l6 n x 12 2 2 twoB k0 k1 := by
  have hc := at12_1 x h1 h2
  have hw : ∀ m : Int, -2000 ≤ m → m ≤ 2000 → IntKind.i64.wrap (m + x) = m + x ∧ IntKind.i64.wrap (m - x) = m - x := fun m g1 g2 => ⟨wrapN (by omega) (by omega), wrapN (by omega) (by omega)⟩
  have w1 : IntKind.i64.wrap ((1 : Int) + 1) = 2 := rfl
  have hn : IntKind.i64.wrap (-x) = -x := wrapN (by omega) (by omega)
  rw [instBounds_l6]
  simp [twoB, hc, w1, hw, meet_self, PV.asB, hn, wrapN]
theorem end12 {R : Type} (n : Nat) (x : Int) (k0 : Bool → Option R) (k1 : Int → Int → Option R) : instBounds_l6 (n + 1) x 12 2 2 twoB k0 k1 = k1 x 12 := by
  rw [instBounds_l6]
  rfl
theorem at13_0 (x : Int) (h1 : 1 ≤ x) (h2 : x ≤ 1099511627776) : iCheck_d [[.int .i64 (5), .int .i64 (1), .int .i64 (9)]] [[.int .i64 (2), .int .i64 (0), .int .i64 (8), .int .i64 (1)], [.int .i64 (-2), .int .i64 (3), .int .i64 (4), .int .i64 (0)]] [[.int .i64 (1), .int .i64 (2)]] [[.fs [[.int .i64 (0)], [.int .i64 (1)], [.int .i64 (2)]]], [.fs [[.int .i64 (3)], [.int .i64 (0)], [.int .i64 (0)]]], [.fs [[.int .i64 (5)], [.int .i64 (6)], [.int .i64 (0)]]]] = some 0 := by
  have hI : ∀ n ∈ [5, 1, 9, 2, 0, 8, 1, -2, 3, 4, 0, 1, 2, 0, 1, 2, 3, 0, 0, 5, 6, 0], inI n = true := by
    simp only [List.mem_cons, List.not_mem_nil, or_false, forall_eq_or_imp, forall_eq, inI_iff]
    omega
  have hc : checkI ⟨[(5, 1, 9)], [(2, 0, 8, 1), (-2, 3, 4, 0)], [(1, 2)], [[0, 1, 2], [3, 0, 0], [5, 6, 0]]⟩ = true := by
    simp [checkI, carOk, stpOk, inR, pairsOk, fresh, demandAt, rowsOk, cellsOk, cellOk]
  rw [check_one _ _ _ _ _ _ _ _ _ _ _ _ _ _ _ _ _ _ _ _ _ _ hI, hc]
  rfl
theorem at13_1 (x : Int) (h1 : 1 ≤ x) (h2 : x ≤ 1099511627776) : iCheck_d [[.int .i64 (5), .int .i64 (1), .int .i64 (9)]] [[.int .i64 (2), .int .i64 (0), .int .i64 (8), .int .i64 (1)], [.int .i64 (-2), .int .i64 (3), .int .i64 (4), .int .i64 (0)]] [[.int .i64 (1), .int .i64 (2)]] [[.fs [[.int .i64 (0)], [.int .i64 (1)], [.int .i64 (2)]]], [.fs [[.int .i64 (3)], [.int .i64 (0)], [.int .i64 (-x)]]], [.fs [[.int .i64 (5)], [.int .i64 (6)], [.int .i64 (0)]]]] = some 1 := by
  have hI : ∀ n ∈ [5, 1, 9, 2, 0, 8, 1, -2, 3, 4, 0, 1, 2, 0, 1, 2, 3, 0, -x, 5, 6, 0], inI n = true := by
    simp only [List.mem_cons, List.not_mem_nil, or_false, forall_eq_or_imp, forall_eq, inI_iff]
    omega
  have hc : checkI ⟨[(5, 1, 9)], [(2, 0, 8, 1), (-2, 3, 4, 0)], [(1, 2)], [[0, 1, 2], [3, 0, -x], [5, 6, 0]]⟩ = false := by
    simp [checkI, carOk, stpOk, inR, pairsOk, fresh, demandAt, rowsOk, cellsOk, cellOk]
    try omega
  rw [check_one _ _ _ _ _ _ _ _ _ _ _ _ _ _ _ _ _ _ _ _ _ _ hI, hc]
  rfl
theorem go13_0 {R : Type} (n : Nat) (x : Int) (h1 : 1 ≤ x) (h2 : x ≤ 1099511627776) (k0 : Bool → Option R) (k1 : Int → Int → Option R) : instBounds_l6 (n + 1) x 13 2 0 twoB k0 k1 = instBounds_l6 n x 13 2 1 twoB k0 k1 := by
  have hc := at13_0 x h1 h2
  have hw : ∀ m : Int, -2000 ≤ m → m ≤ 2000 → IntKind.i64.wrap (m + x) = m + x ∧ IntKind.i64.wrap (m - x) = m - x := fun m g1 g2 => ⟨wrapN (by omega) (by omega), wrapN (by omega) (by omega)⟩
  have w1 : IntKind.i64.wrap ((0 : Int) + 1) = 1 := rfl
  have hn : IntKind.i64.wrap (-x) = -x := wrapN (by omega) (by omega)
  rw [instBounds_l6]
  simp [twoB, hc, w1, hw, meet_self, PV.asB, hn, wrapN]
theorem go13_1 {R : Type} (n : Nat) (x : Int) (h1 : 1 ≤ x) (h2 : x ≤ 1099511627776) (k0 : Bool → Option R) (k1 : Int → Int → Option R) : instBounds_l6 (n + 1) x 13 2 1 twoB k0 k1 = instBounds_l6 n x 13 2 2 twoB k0 k1 := by
  have hc := at13_1 x h1 h2
  have hw : ∀ m : Int, -2000 ≤ m → m ≤ 2000 → IntKind.i64.wrap (m + x) = m + x ∧ IntKind.i64.wrap (m - x) = m - x := fun m g1 g2 => ⟨wrapN (by omega) (by omega), wrapN (by omega) (by omega)⟩
  have w1 : IntKind.i64.wrap ((1 : Int) + 1) = 2 := rfl
  have hn : IntKind.i64.wrap (-x) = -x := wrapN (by omega) (by omega)
  rw [instBounds_l6]
  simp [twoB, hc, w1, hw, meet_self, PV.asB, hn, wrapN]
theorem end13 {R : Type} (n : Nat) (x : Int) (k0 : Bool → Option R) (k1 : Int → Int → Option R) : instBounds_l6 (n + 1) x 13 2 2 twoB k0 k1 = k1 x 13 := by
  rw [instBounds_l6]
  rfl
theorem at14_0 (x : Int) (h1 : 1 ≤ x) (h2 : x ≤ 1099511627776) : iCheck_d [[.int .i64 (5), .int .i64 (1), .int .i64 (9)]] [[.int .i64 (2), .int .i64 (0), .int .i64 (8), .int .i64 (1)], [.int .i64 (-2), .int .i64 (3), .int .i64 (4), .int .i64 (0)]] [[.int .i64 (1), .int .i64 (2)]] [[.fs [[.int .i64 (0)], [.int .i64 (1)], [.int .i64 (2)]]], [.fs [[.int .i64 (3)], [.int .i64 (0)], [.int .i64 (4)]]], [.fs [[.int .i64 (5)], [.int .i64 (6)], [.int .i64 (0)]]]] = some 0 := by
  have hI : ∀ n ∈ [5, 1, 9, 2, 0, 8, 1, -2, 3, 4, 0, 1, 2, 0, 1, 2, 3, 0, 4, 5, 6, 0], inI n = true := by
    simp only [List.mem_cons, List.not_mem_nil, or_false, forall_eq_or_imp, forall_eq, inI_iff]
    omega
  have hc : checkI ⟨[(5, 1, 9)], [(2, 0, 8, 1), (-2, 3, 4, 0)], [(1, 2)], [[0, 1, 2], [3, 0, 4], [5, 6, 0]]⟩ = true := by
    simp [checkI, carOk, stpOk, inR, pairsOk, fresh, demandAt, rowsOk, cellsOk, cellOk]
  rw [check_one _ _ _ _ _ _ _ _ _ _ _ _ _ _ _ _ _ _ _ _ _ _ hI, hc]
  rfl
theorem at14_1 (x : Int) (h1 : 1 ≤ x) (h2 : x ≤ 1099511627776) : iCheck_d [[.int .i64 (5), .int .i64 (1), .int .i64 (9)]] [[.int .i64 (2), .int .i64 (0), .int .i64 (8), .int .i64 (1)], [.int .i64 (-2), .int .i64 (3), .int .i64 (4), .int .i64 (0)]] [[.int .i64 (1), .int .i64 (2)]] [[.fs [[.int .i64 (0)], [.int .i64 (1)], [.int .i64 (2)]]], [.fs [[.int .i64 (3)], [.int .i64 (0)], [.int .i64 (4)]]], [.fs [[.int .i64 (5)], [.int .i64 (6)], [.int .i64 (x)]]]] = some 1 := by
  have hI : ∀ n ∈ [5, 1, 9, 2, 0, 8, 1, -2, 3, 4, 0, 1, 2, 0, 1, 2, 3, 0, 4, 5, 6, x], inI n = true := by
    simp only [List.mem_cons, List.not_mem_nil, or_false, forall_eq_or_imp, forall_eq, inI_iff]
    omega
  have hc : checkI ⟨[(5, 1, 9)], [(2, 0, 8, 1), (-2, 3, 4, 0)], [(1, 2)], [[0, 1, 2], [3, 0, 4], [5, 6, x]]⟩ = false := by
    simp [checkI, carOk, stpOk, inR, pairsOk, fresh, demandAt, rowsOk, cellsOk, cellOk]
    try omega
  rw [check_one _ _ _ _ _ _ _ _ _ _ _ _ _ _ _ _ _ _ _ _ _ _ hI, hc]
  rfl
theorem go14_0 {R : Type} (n : Nat) (x : Int) (h1 : 1 ≤ x) (h2 : x ≤ 1099511627776) (k0 : Bool → Option R) (k1 : Int → Int → Option R) : instBounds_l6 (n + 1) x 14 2 0 twoB k0 k1 = instBounds_l6 n x 14 2 1 twoB k0 k1 := by
  have hc := at14_0 x h1 h2
  have hw : ∀ m : Int, -2000 ≤ m → m ≤ 2000 → IntKind.i64.wrap (m + x) = m + x ∧ IntKind.i64.wrap (m - x) = m - x := fun m g1 g2 => ⟨wrapN (by omega) (by omega), wrapN (by omega) (by omega)⟩
  have w1 : IntKind.i64.wrap ((0 : Int) + 1) = 1 := rfl
  have hn : IntKind.i64.wrap (-x) = -x := wrapN (by omega) (by omega)
  rw [instBounds_l6]
  simp [twoB, hc, w1, hw, meet_self, PV.asB, hn, wrapN]
theorem go14_1 {R : Type} (n : Nat) (x : Int) (h1 : 1 ≤ x) (h2 : x ≤ 1099511627776) (k0 : Bool → Option R) (k1 : Int → Int → Option R) : instBounds_l6 (n + 1) x 14 2 1 twoB k0 k1 = instBounds_l6 n x 14 2 2 twoB k0 k1 := by
  have hc := at14_1 x h1 h2
  have hw : ∀ m : Int, -2000 ≤ m → m ≤ 2000 → IntKind.i64.wrap (m + x) = m + x ∧ IntKind.i64.wrap (m - x) = m - x := fun m g1 g2 => ⟨wrapN (by omega) (by omega), wrapN (by omega) (by omega)⟩
  have w1 : IntKind.i64.wrap ((1 : Int) + 1) = 2 := rfl
  have hn : IntKind.i64.wrap (-x) = -x := wrapN (by omega) (by omega)
  rw [instBounds_l6]
  simp [twoB, hc, w1, hw, meet_self, PV.asB, hn, wrapN]
theorem end14 {R : Type} (n : Nat) (x : Int) (k0 : Bool → Option R) (k1 : Int → Int → Option R) : instBounds_l6 (n + 1) x 14 2 2 twoB k0 k1 = k1 x 14 := by
  rw [instBounds_l6]
  rfl
theorem at15_0 (x : Int) (h1 : 1 ≤ x) (h2 : x ≤ 1099511627776) : iCheck_d [[.int .i64 (5), .int .i64 (1), .int .i64 (9)]] [[.int .i64 (2), .int .i64 (0), .int .i64 (8), .int .i64 (1)], [.int .i64 (-2), .int .i64 (3), .int .i64 (4), .int .i64 (0)]] [[.int .i64 (1), .int .i64 (2)]] [[.fs [[.int .i64 (0)], [.int .i64 (1)], [.int .i64 (2)]]], [.fs [[.int .i64 (3)], [.int .i64 (0)], [.int .i64 (4)]]], [.fs [[.int .i64 (5)], [.int .i64 (6)], [.int .i64 (0)]]]] = some 0 := by
  have hI : ∀ n ∈ [5, 1, 9, 2, 0, 8, 1, -2, 3, 4, 0, 1, 2, 0, 1, 2, 3, 0, 4, 5, 6, 0], inI n = true := by
    simp only [List.mem_cons, List.not_mem_nil, or_false, forall_eq_or_imp, forall_eq, inI_iff]
    omega
  have hc : checkI ⟨[(5, 1, 9)], [(2, 0, 8, 1), (-2, 3, 4, 0)], [(1, 2)], [[0, 1, 2], [3, 0, 4], [5, 6, 0]]⟩ = true := by
    simp [checkI, carOk, stpOk, inR, pairsOk, fresh, demandAt, rowsOk, cellsOk, cellOk]
  rw [check_one _ _ _ _ _ _ _ _ _ _ _ _ _ _ _ _ _ _ _ _ _ _ hI, hc]
  rfl
theorem at15_1 (x : Int) (h1 : 1 ≤ x) (h2 : x ≤ 1099511627776) : iCheck_d [[.int .i64 (5), .int .i64 (1), .int .i64 (9)]] [[.int .i64 (2), .int .i64 (0), .int .i64 (8), .int .i64 (1)], [.int .i64 (-2), .int .i64 (3), .int .i64 (4), .int .i64 (0)]] [[.int .i64 (1), .int .i64 (2 + x)]] [[.fs [[.int .i64 (0)], [.int .i64 (1)], [.int .i64 (2)]]], [.fs [[.int .i64 (3)], [.int .i64 (0)], [.int .i64 (4)]]], [.fs [[.int .i64 (5)], [.int .i64 (6)], [.int .i64 (0)]]]] = some 1 := by
  have hI : ∀ n ∈ [5, 1, 9, 2, 0, 8, 1, -2, 3, 4, 0, 1, 2 + x, 0, 1, 2, 3, 0, 4, 5, 6, 0], inI n = true := by
    simp only [List.mem_cons, List.not_mem_nil, or_false, forall_eq_or_imp, forall_eq, inI_iff]
    omega
  have hc : checkI ⟨[(5, 1, 9)], [(2, 0, 8, 1), (-2, 3, 4, 0)], [(1, 2 + x)], [[0, 1, 2], [3, 0, 4], [5, 6, 0]]⟩ = false := by
    simp [checkI, carOk, stpOk, inR, pairsOk, fresh, demandAt, rowsOk, cellsOk, cellOk]
    try omega
  rw [check_one _ _ _ _ _ _ _ _ _ _ _ _ _ _ _ _ _ _ _ _ _ _ hI, hc]
  rfl
theorem go15_0 {R : Type} (n : Nat) (x : Int) (h1 : 1 ≤ x) (h2 : x ≤ 1099511627776) (k0 : Bool → Option R) (k1 : Int → Int → Option R) : instBounds_l6 (n + 1) x 15 2 0 twoB k0 k1 = instBounds_l6 n x 15 2 1 twoB k0 k1 := by
  have hc := at15_0 x h1 h2
  have hw : ∀ m : Int, -2000 ≤ m → m ≤ 2000 → IntKind.i64.wrap (m + x) = m + x ∧ IntKind.i64.wrap (m - x) = m - x := fun m g1 g2 => ⟨wrapN (by omega) (by omega), wrapN (by omega) (by omega)⟩
  have w1 : IntKind.i64.wrap ((0 : Int) + 1) = 1 := rfl
  have hn : IntKind.i64.wrap (-x) = -x := wrapN (by omega) (by omega)
  rw [instBounds_l6]
  simp [twoB, hc, w1, hw, meet_self, PV.asB, hn, wrapN]
theorem go15_1 {R : Type} (n : Nat) (x : Int) (h1 : 1 ≤ x) (h2 : x ≤ 1099511627776) (k0 : Bool → Option R) (k1 : Int → Int → Option R) : instBounds_l6 (n + 1) x 15 2 1 twoB k0 k1 = instBounds_l6 n x 15 2 2 twoB k0 k1 := by
  have hc := at15_1 x h1 h2
  have hw : ∀ m : Int, -2000 ≤ m → m ≤ 2000 → IntKind.i64.wrap (m + x) = m + x ∧ IntKind.i64.wrap (m - x) = m - x := fun m g1 g2 => ⟨wrapN (by omega) (by omega), wrapN (by omega) (by omega)⟩
  have w1 : IntKind.i64.wrap ((1 : Int) + 1) = 2 := rfl
  have hn : IntKind.i64.wrap (-x) = -x := wrapN (by omega) (by omega)
  rw [instBounds_l6]
  simp [twoB, hc, w1, hw, meet_self, PV.asB, hn, wrapN]
theorem end15 {R : Type} (n : Nat) (x : Int) (k0 : Bool → Option R) (k1 : Int → Int → Option R) : instBounds_l6 (n + 1) x 15 2 2 twoB k0 k1 = k1 x 15 := by
  rw [instBounds_l6]
  rfl
theorem round_ok {R : Type} (n : Nat) (x : Int) (h1 : 1 ≤ x) (h2 : x ≤ 1099511627776) (k0 : Bool → Option R) (k1 : Int → Int → Option R) : ∀ j : Nat, j < 16 → instBounds_l6 (n + 3) x (j : Int) 2 0 twoB k0 k1 = k1 x (j : Int)
  | 0, _ => (go0_0 (n + 2) x h1 h2 k0 k1).trans ((go0_1 (n + 1) x h1 h2 k0 k1).trans (end0 n x k0 k1))
  | 1, _ => (go1_0 (n + 2) x h1 h2 k0 k1).trans ((go1_1 (n + 1) x h1 h2 k0 k1).trans (end1 n x k0 k1))
  | 2, _ => (go2_0 (n + 2) x h1 h2 k0 k1).trans ((go2_1 (n + 1) x h1 h2 k0 k1).trans (end2 n x k0 k1))
  | 3, _ => (go3_0 (n + 2) x h1 h2 k0 k1).trans ((go3_1 (n + 1) x h1 h2 k0 k1).trans (end3 n x k0 k1))
  | 4, _ => (go4_0 (n + 2) x h1 h2 k0 k1).trans ((go4_1 (n + 1) x h1 h2 k0 k1).trans (end4 n x k0 k1))
  | 5, _ => (go5_0 (n + 2) x h1 h2 k0 k1).trans ((go5_1 (n + 1) x h1 h2 k0 k1).trans (end5 n x k0 k1))
  | 6, _ => (go6_0 (n + 2) x h1 h2 k0 k1).trans ((go6_1 (n + 1) x h1 h2 k0 k1).trans (end6 n x k0 k1))
  | 7, _ => (go7_0 (n + 2) x h1 h2 k0 k1).trans ((go7_1 (n + 1) x h1 h2 k0 k1).trans (end7 n x k0 k1))
  | 8, _ => (go8_0 (n + 2) x h1 h2 k0 k1).trans ((go8_1 (n + 1) x h1 h2 k0 k1).trans (end8 n x k0 k1))
  | 9, _ => (go9_0 (n + 2) x h1 h2 k0 k1).trans ((go9_1 (n + 1) x h1 h2 k0 k1).trans (end9 n x k0 k1))
  | 10, _ => (go10_0 (n + 2) x h1 h2 k0 k1).trans ((go10_1 (n + 1) x h1 h2 k0 k1).trans (end10 n x k0 k1))
  | 11, _ => (go11_0 (n + 2) x h1 h2 k0 k1).trans ((go11_1 (n + 1) x h1 h2 k0 k1).trans (end11 n x k0 k1))
  | 12, _ => (go12_0 (n + 2) x h1 h2 k0 k1).trans ((go12_1 (n + 1) x h1 h2 k0 k1).trans (end12 n x k0 k1))
  | 13, _ => (go13_0 (n + 2) x h1 h2 k0 k1).trans ((go13_1 (n + 1) x h1 h2 k0 k1).trans (end13 n x k0 k1))
  | 14, _ => (go14_0 (n + 2) x h1 h2 k0 k1).trans ((go14_1 (n + 1) x h1 h2 k0 k1).trans (end14 n x k0 k1))
  | 15, _ => (go15_0 (n + 2) x h1 h2 k0 k1).trans ((go15_1 (n + 1) x h1 h2 k0 k1).trans (end15 n x k0 k1))
  | j + 16, h => absurd h (by omega)
theorem rounds_ok {R : Type} (x : Int) (h1 : 1 ≤ x) (h2 : x ≤ 1099511627776) (k0 : Unit → Option R) (k1 : Bool → Option R) : ∀ (d j n : Nat), j + d = 16 → d + 3 < n → instBounds_l3 n x (j : Int) k0 k1 = k0 ()
  | 0, j, n, hj, hn => by
    obtain ⟨m, rfl⟩ : ∃ m, n = m + 1 := ⟨n - 1, by omega⟩
    rw [instBounds_l3, decide_eq_false (by omega), cond_false]
  | d + 1, j, n, hj, hn => by
    obtain ⟨m, rfl⟩ : ∃ m, n = m + 1 := ⟨n - 1, by omega⟩
    obtain ⟨l, rfl⟩ : ∃ l, m = l + 3 := ⟨m - 3, by omega⟩
    rw [instBounds_l3, decide_eq_true (by omega), cond_true]
    have hw : IntKind.i64.wrap ((j : Int) + 1) = ((j + 1 : Nat) : Int) := (wrapN (by omega) (by omega)).trans (by omega)
    refine (round_ok l x h1 h2 k1 _ j (by omega)).trans ?_
    simp only [hw]
    exact rounds_ok x h1 h2 k0 k1 d (j + 1) (l + 3) (by omega) (by omega)
theorem wakes03_ok : wakes03_d = some true := by kernel_rfl
theorem instBounds_ok : ∀ (n1 : Int) (y : Bool), sInstBounds n1 = some y → ∃ n, ∀ (R : Type) (k : Bool → Option R), instBounds_b n n1 k = k y := by
  intro m y h
  cases h
  have hb : 0 ≤ m % 1099511627776 ∧ m % 1099511627776 < 1099511627776 := ⟨Int.emod_nonneg _ (by omega), Int.emod_lt_of_pos _ (by omega)⟩
  have hx : IntKind.i64.wrap ((1 : Int) + m % 1099511627776) = 1 + m % 1099511627776 := wrapN (by omega) (by omega)
  have hin : ∀ (l : List Int), (∀ n ∈ l, -2000 ≤ n ∧ n ≤ 2000) → ∀ n ∈ l, inI n = true := fun l hl n hn => (inI_iff n).2 (by have := hl n hn; omega)
  refine ⟨30, fun R k => ?_⟩
  unfold instBounds_b
  rw [within_val m (by omega) (by omega), Option.bind_some, hx]
  rw [show (0 : Int) = ((0 : Nat) : Int) from rfl, rounds_ok _ (by omega) (by omega) _ _ 16 0 30 (by omega) (by omega)]
  have d1 : iCheck_d [[.int .i64 (5), .int .i64 (1), .int .i64 (9)]] [[.int .i64 (2), .int .i64 (0), .int .i64 (8), .int .i64 (1)], [.int .i64 (-2), .int .i64 (3), .int .i64 (4), .int .i64 (0)]] [[.int .i64 (2), .int .i64 (1)]] [[.fs [[.int .i64 (0)], [.int .i64 (1)], [.int .i64 (2)]]], [.fs [[.int .i64 (3)], [.int .i64 (0)], [.int .i64 (4)]]], [.fs [[.int .i64 (5)], [.int .i64 (6)], [.int .i64 (0)]]]] = some 1 := (iCheck_of (i := ⟨[(5, 1, 9)], [(2, 0, 8, 1), (-2, 3, 4, 0)], [(2, 1)], [[0, 1, 2], [3, 0, 4], [5, 6, 0]]⟩) ⟨rfl, rfl⟩).trans rfl
  have d2 : iCheck_d [[.int .i64 (5), .int .i64 (1), .int .i64 (9)]] [[.int .i64 (2), .int .i64 (0), .int .i64 (8), .int .i64 (1)], [.int .i64 (-2), .int .i64 (3), .int .i64 (4), .int .i64 (0)]] [[.int .i64 (1), .int .i64 (2)], [.int .i64 (1), .int .i64 (2)]] [[.fs [[.int .i64 (0)], [.int .i64 (1)], [.int .i64 (2)]]], [.fs [[.int .i64 (3)], [.int .i64 (0)], [.int .i64 (4)]]], [.fs [[.int .i64 (5)], [.int .i64 (6)], [.int .i64 (0)]]]] = some 1 := (iCheck_of (i := ⟨[(5, 1, 9)], [(2, 0, 8, 1), (-2, 3, 4, 0)], [(1, 2), (1, 2)], [[0, 1, 2], [3, 0, 4], [5, 6, 0]]⟩) ⟨rfl, rfl⟩).trans rfl
  have d3 : iCheck_d [[.int .i64 (5), .int .i64 (1), .int .i64 (9)]] [[.int .i64 (2), .int .i64 (0), .int .i64 (8), .int .i64 (1)], [.int .i64 (-2), .int .i64 (3), .int .i64 (4), .int .i64 (0)]] [[.int .i64 (1), .int .i64 (1)]] [[.fs [[.int .i64 (0)], [.int .i64 (1)], [.int .i64 (2)]]], [.fs [[.int .i64 (3)], [.int .i64 (0)], [.int .i64 (4)]]], [.fs [[.int .i64 (5)], [.int .i64 (6)], [.int .i64 (0)]]]] = some 1 := (iCheck_of (i := ⟨[(5, 1, 9)], [(2, 0, 8, 1), (-2, 3, 4, 0)], [(1, 1)], [[0, 1, 2], [3, 0, 4], [5, 6, 0]]⟩) ⟨rfl, rfl⟩).trans rfl
  simp only [d1, d2, d3, Option.bind_some, wakes03_ok]
  rfl
end Go.Proofs.YtpaifgipdhgfkaaV
