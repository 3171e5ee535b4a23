/- Frames: what the rounds of their functions come to. -/
import Derived.Test.YtgpjnppakffoiaaQ01
import Derived.Test.YtgpjnppakffoiaaD19
import Derived.Test.YtgpjnppakffoiaaInt
namespace Go.Proofs.YtgpjnppakffoiaaV
open Go

theorem lRow_length (l : List (ByteArray × Bool)) : (lRow l).length = l.length := by simp [lRow]
theorem lRow_append (a b : List (ByteArray × Bool)) : lRow (a ++ b) = lRow a ++ lRow b := by simp [lRow]
theorem unL_inv : ∀ {es : List (List PV)} {l : List (ByteArray × Bool)}, unL es = some l → es = lRow l
  | [], l, h => by cases h; rfl
  | e :: es, l, h => by
    simp only [unL, Option.bind_eq_some_iff] at h
    obtain ⟨b, h1, l', h2, h3⟩ := h
    cases h3
    unfold unL1 at h1
    split at h1
    · cases h1
      rw [unL_inv h2]
      rfl
    · cases h1
theorem unL_row : ∀ l : List (ByteArray × Bool), unL (lRow l) = some l
  | [] => rfl
  | (s, b) :: l => by
    have := unL_row l
    simp only [lRow, List.map_cons, unL, unL1] at this ⊢
    rw [this]
    rfl

theorem lineOf_ok (f : List UInt8) : frLine_d (bRow f) = some (lineOf f) := by
  unfold frLine_d frLine_b lineOf
  rw [bRow_length, bRow_all, strOf_row]
  by_cases h : 48 < f.length
  · rw [if_pos h, show decide ((f.length : Int) > 48) = true by simp; omega]
    rfl
  · rw [if_neg h, show decide ((f.length : Int) > 48) = false by simp; omega]
    rfl

theorem u8_eq (c : UInt8) : (((c.toNat : Int) == 10) : Bool) = decide (c = 10) := by
  by_cases h : c = 10
  · subst h; rfl
  · have : c.toNat ≠ 10 := fun e => h (UInt8.toNat_inj.1 (by simpa using e))
    rw [decide_eq_false h]
    simp only [beq_eq_false_iff_ne, ne_eq]
    omega

theorem feed_rounds {R : Type} {b : List UInt8} (hb : b.length ≤ big) (k0 : List (List PV) → List (List PV) → Option R) : ∀ (rest pre f : List UInt8) (out : List (ByteArray × Bool)), b = pre ++ rest → f.length ≤ 49 → out.length ≤ pre.length →
    frFeed_l3 (rest.length + 1) (bRow b) (b.length : Int) (pre.length : Int) (bRow f) (lRow out) k0 = k0 (bRow (feed f rest).2) (lRow (out ++ (feed f rest).1))
  | [], pre, f, out, hbp, hf, ho => by
    have hl : b.length = pre.length := by rw [hbp]; simp
    unfold frFeed_l3
    rw [show decide ((pre.length : Int) < (b.length : Int)) = false by simp; omega]
    simp [feed]
  | c :: rest, pre, f, out, hbp, hf, ho => by
    have hl : b.length = pre.length + rest.length + 1 := by rw [hbp]; simp; omega
    have hi : idx (bRow b) (pre.length : Int) = some [PV.int .u8 (c.toNat : Int)] := by
      rw [hbp, bRow_append]
      have := idx_at (bRow pre) [PV.int .u8 (c.toNat : Int)] (bRow rest)
      rw [bRow_length] at this
      exact this
    have hw : IntKind.i64.wrap ((pre.length : Int) + 1) = ((pre ++ [c]).length : Int) := by
      rw [wrap_i64 (by omega) (by simp only [big] at hb; omega)]
      simp
    have hnext : b = (pre ++ [c]) ++ rest := by rw [hbp]; simp
    unfold frFeed_l3
    rw [show decide ((pre.length : Int) < (b.length : Int)) = true by simp; omega, hi, hw]
    simp only [cond_true, Option.bind_some, List.length_singleton, if_true, List.getElem?_cons_zero, PV.asI, u8_eq]
    by_cases hc : c = 10
    · rw [decide_eq_true hc, cond_true, lineOf_ok]
      simp only [Option.bind_some, lRow_length, List.length_singleton]
      rw [if_pos (by simp only [maxBytes, big] at hb ⊢; omega)]
      have e : lRow out ++ [[PV.str (lineOf f).1, PV.bool (lineOf f).2]] = lRow (out ++ [lineOf f]) := by rw [lRow_append]; rfl
      rw [e]
      have := feed_rounds hb k0 rest (pre ++ [c]) [] (out ++ [lineOf f]) hnext (by simp) (by simp; omega)
      refine (this.trans ?_)
      simp [feed, hc]
    · rw [decide_eq_false hc, cond_false, bRow_length]
      by_cases h48 : f.length ≤ 48
      · rw [show decide ((f.length : Int) ≤ 48) = true by simp; omega, cond_true]
        rw [if_pos (by simp only [maxBytes, List.length_singleton]; omega)]
        have e : bRow f ++ [[PV.int .u8 (c.toNat : Int)]] = bRow (f ++ [c]) := by rw [bRow_append]; rfl
        rw [e]
        refine (feed_rounds hb k0 rest (pre ++ [c]) (f ++ [c]) out hnext (by simp; omega) (by simp; omega)).trans ?_
        simp [feed, hc, h48]
      · rw [show decide ((f.length : Int) ≤ 48) = false by simp; omega, cond_false]
        refine (feed_rounds hb k0 rest (pre ++ [c]) f out hnext hf (by simp; omega)).trans ?_
        simp [feed, hc, h48]

theorem sFeed_inv {f1 b2 : List (List PV)} {y : List (List PV) × List (List PV)} (h : sFeed f1 b2 = some y) : ∃ f b, f1 = bRow f ∧ b2 = bRow b ∧ f.length ≤ 49 ∧ b.length ≤ big ∧ y = (lRow (feed f b).1, bRow (feed f b).2) := by
  simp only [sFeed, Option.bind_eq_some_iff] at h
  obtain ⟨f, h1, b, h2, h3⟩ := h
  split at h3
  · rename_i hh
    cases h3
    exact ⟨f, b, unB_inv h1, unB_inv h2, hh.1, hh.2, rfl⟩
  · cases h3
theorem feed_ok : ∀ (f1 b2 : List (List PV)) (y : List (List PV) × List (List PV)), sFeed f1 b2 = some y → ∃ n, ∀ (R : Type) (k : List (List PV) → List (List PV) → Option R), frFeed_b n f1 b2 k = k y.1 y.2 := by
  intro f1 b2 y h
  obtain ⟨f, b, rfl, rfl, hf, hb, rfl⟩ := sFeed_inv h
  refine ⟨b.length + 1, fun R k => ?_⟩
  have := feed_rounds hb (fun es3 es4 => k es4 es3) b [] f [] rfl hf (by simp)
  unfold frFeed_b
  rw [bRow_length]
  exact this

theorem noMem_row : ∀ l : List UInt8, noMemEs (bRow l) = true
  | [] => rfl
  | b :: l => by have := noMem_row l; simpa [bRow, noMemEs, noMemL, noMem] using this
theorem noMem_lRow : ∀ l : List (ByteArray × Bool), noMemEs (lRow l) = true
  | [] => rfl
  | b :: l => by have := noMem_lRow l; simpa [lRow, noMemEs, noMemL, noMem] using this
theorem feed_no : ∀ (f1 b2 : List (List PV)) (y : List (List PV) × List (List PV)), sFeed f1 b2 = some y → (noMem (frFeed_E y).1 && noMemL (frFeed_E y).2) = true := by
  intro f1 b2 y h
  obtain ⟨f, b, rfl, rfl, hf, hb, rfl⟩ := sFeed_inv h
  simp [frFeed_E, noMem, noMemL, noMem_row, noMem_lRow]

theorem feed_left : ∀ (b f : List UInt8), f.length ≤ 49 → (feed f b).2.length ≤ 49
  | [], f, h => h
  | c :: b, f, h => by
    unfold feed
    split
    · exact feed_left b [] (by simp)
    · split
      · exact feed_left b _ (by simp; omega)
      · exact feed_left b _ h
theorem feed_append : ∀ (a b f : List UInt8), feed f (a ++ b) = ((feed f a).1 ++ (feed (feed f a).2 b).1, (feed (feed f a).2 b).2)
  | [], b, f => by simp [feed]
  | c :: a, b, f => by
    simp only [List.cons_append, feed]
    split
    · rw [feed_append a b []]; rfl
    · split
      · exact feed_append a b _
      · exact feed_append a b _
theorem feed_len : ∀ (b f : List UInt8), (feed f b).1.length ≤ b.length
  | [], f => by simp [feed]
  | c :: b, f => by
    unfold feed
    split
    · have := feed_len b []; simp only [List.length_cons]; omega
    · split
      · have := feed_len b (f ++ [c]); simp only [List.length_cons]; omega
      · have := feed_len b f; simp only [List.length_cons]; omega
theorem sFeed_row {f b : List UInt8} (hf : f.length ≤ 49) (hb : b.length ≤ big) : sFeed (bRow f) (bRow b) = some (lRow (feed f b).1, bRow (feed f b).2) := by
  simp only [sFeed, unB_row, Option.bind_some]
  rw [if_pos ⟨hf, hb⟩]

/-! Lines are the same. -/
theorem sSameL_inv {a1 b2 : List (List PV)} {y : Bool} (h : sSameL a1 b2 = some y) : ∃ a b, a1 = lRow a ∧ b2 = lRow b ∧ a.length ≤ big ∧ y = decide (a = b) := by
  simp only [sSameL, Option.bind_eq_some_iff] at h
  obtain ⟨f, h1, b, h2, h3⟩ := h
  split at h3
  · rename_i hh
    cases h3
    exact ⟨f, b, unL_inv h1, unL_inv h2, hh, rfl⟩
  · cases h3
theorem sSameL_row {a b : List (ByteArray × Bool)} (h : a.length ≤ big) : sSameL (lRow a) (lRow b) = some (decide (a = b)) := by
  simp only [sSameL, unL_row, Option.bind_some]
  rw [if_pos h]
theorem idx_lRow (pre : List (ByteArray × Bool)) (x : ByteArray × Bool) (rest : List (ByteArray × Bool)) : idx (lRow (pre ++ x :: rest)) (pre.length : Int) = some [PV.str x.1, PV.bool x.2] := by
  rw [lRow_append]
  have := idx_at (lRow pre) [PV.str x.1, PV.bool x.2] (lRow rest)
  rw [lRow_length] at this
  exact this
theorem eqvs_line {t1 t2 : TypeId} {a1 b1 a2 b2 : Nat} {z1 z2 : List TV} (h1 : T t1 = some ⟨a1, b1, .string, z1⟩) (h2 : T t2 = some ⟨a2, b2, .bool, z2⟩) (x y : ByteArray × Bool) : eqvs T [(t1, 0), (t2, 1)] [PV.str x.1, PV.bool x.2] [PV.str y.1, PV.bool y.2] = some (decide (x = y)) := by
  simp only [eqvs, eqvT, h1, h2, PV.asS, PV.asB, Option.bind_some, str_eq]
  congr 1
  obtain ⟨x1, x2⟩ := x
  obtain ⟨y1, y2⟩ := y
  simp only [Prod.mk.injEq]
  by_cases h : x1 = y1 <;> cases x2 <;> cases y2 <;> simp [h]

theorem same_rounds {R : Type} (k0 : Bool → Option R) (k1 : Unit → Option R) : ∀ (ra rb pa pb : List (ByteArray × Bool)), pa.length = pb.length → ra.length = rb.length → (pa ++ ra).length ≤ big →
    sameL_l4 (ra.length + 1) (lRow (pa ++ ra)) (lRow (pb ++ rb)) (pa.length : Int) k0 k1 = cond (decide (ra = rb)) (k1 ()) (k0 false)
  | [], rb, pa, pb, hp, hr, hb => by
    have : rb = [] := List.eq_nil_of_length_eq_zero (by simpa using hr.symm)
    subst this
    unfold sameL_l4
    rw [lRow_length, show decide ((pa.length : Int) < ((pa ++ ([] : List (ByteArray × Bool))).length : Int)) = false by simp]
    simp
  | x :: ra, rb, pa, pb, hp, hr, hb => by
    match rb, hr with
    | y :: rb, hr =>
      have hib : idx (lRow (pb ++ y :: rb)) (pa.length : Int) = some [PV.str y.1, PV.bool y.2] := by rw [hp]; exact idx_lRow _ _ _
      have hw : IntKind.i64.wrap ((pa.length : Int) + 1) = ((pa ++ [x]).length : Int) := by
        rw [wrap_i64 (by omega) (by simp only [big, List.length_append, List.length_cons] at hb; omega)]
        simp
      unfold sameL_l4
      rw [lRow_length, show decide ((pa.length : Int) < ((pa ++ x :: ra).length : Int)) = true by simp; omega, idx_lRow, hib, hw]
      simp only [cond_true, Option.bind_some, List.length_cons, List.length_nil, if_true, subAgg, PV.asAgg, Nat.zero_add, Nat.le_refl, List.drop_zero, List.take_succ_cons, List.take_zero, meet_self]
      rw [eqvs_line rfl rfl, Option.bind_some]
      have ih := same_rounds k0 k1 ra rb (pa ++ [x]) (pb ++ [y]) (by simp [hp]) (by simpa using hr) (by simpa using hb)
      simp only [List.append_assoc, List.singleton_append] at ih
      by_cases hxy : x = y
      · subst hxy
        rw [show (decide (x = x)) = true by simp]
        simp only [Bool.not_true, cond_false]
        rw [ih]
        simp
      · rw [show (decide (x = y)) = false by simp [hxy]]
        simp [hxy]
theorem same_ok : ∀ (a1 b2 : List (List PV)) (y : Bool), sSameL a1 b2 = some y → ∃ n, ∀ (R : Type) (k : Bool → Option R), sameL_b n a1 b2 k = k y := by
  intro a1 b2 y h
  obtain ⟨a, b, rfl, rfl, ha, rfl⟩ := sSameL_inv h
  refine ⟨a.length + 1, fun R k => ?_⟩
  unfold sameL_b
  rw [lRow_length, lRow_length]
  by_cases hl : a.length = b.length
  · have e : ((a.length : Int) != (b.length : Int)) = false := by simp [hl]
    rw [e, cond_false]
    have := same_rounds (fun b3 => k b3) (fun _ => k true) a b [] [] rfl hl (by simpa using ha)
    refine this.trans ?_
    by_cases hab : a = b <;> simp [hab]
  · have e : ((a.length : Int) != (b.length : Int)) = true := by simp; omega
    rw [e, cond_true]
    have : a ≠ b := fun h => hl (by rw [h])
    simp [this]
end Go.Proofs.YtgpjnppakffoiaaV
