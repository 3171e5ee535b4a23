/- Rows of numbers held against one another. -/
import Derived.Test.YtkeklbicmfhemabGreatDoorDSI
import Derived.Test.YtkeklbicmfhemabGreatDoorG
namespace Go.Proofs.YtkeklbicmfhemabGreatDoorV
open Go
set_option maxRecDepth 20000
set_option linter.unusedSimpArgs false

theorem sameI_rounds {R : Type} {a b : List Int} (ha : a.length ≤ big) (k0 : Bool → Option R) (k1 : Unit → Option R) : ∀ (ra rb pa pb : List Int) (n : Nat), a = pa ++ ra → b = pb ++ rb → pa.length = pb.length → ra.length = rb.length → ra.length < n →
    sameI_l4 n (iRow a) (iRow b) (pa.length : Int) k0 k1 = if ra = rb then k1 () else k0 false
  | [], rb, pa, pb, n, ea, eb, hp, hr, hn => by
    obtain ⟨m, rfl⟩ : ∃ m, n = m + 1 := ⟨n - 1, by omega⟩
    have : rb = [] := List.eq_nil_of_length_eq_zero (by simpa using hr.symm)
    subst this
    simp only [List.append_nil] at ea
    subst ea
    unfold sameI_l4
    rw [iRow_length, decide_eq_false (by omega), cond_false, if_pos rfl]
  | x :: ra, [], pa, pb, n, ea, eb, hp, hr, hn => by simp at hr
  | x :: ra, z :: rb, pa, pb, n, ea, eb, hp, hr, hn => by
    obtain ⟨m, rfl⟩ : ∃ m, n = m + 1 := ⟨n - 1, by omega⟩
    have hlen : a.length = pa.length + (ra.length + 1) := by rw [ea]; simp
    unfold big at ha
    have ix : idx (iRow a) (pa.length : Int) = some [PV.int .i64 x] := by rw [ea]; exact idx_iRow pa x ra
    have iz : idx (iRow b) (pa.length : Int) = some [PV.int .i64 z] := by rw [eb, hp]; exact idx_iRow pb z rb
    unfold sameI_l4
    rw [iRow_length, decide_eq_true (by omega), cond_true, ix, Option.bind_some, if_pos (show [PV.int .i64 x].length = 1 from rfl), List.getElem?_cons_zero, Option.bind_some]
    simp only [PV.asI, if_true, Option.bind_some, iz]
    rw [if_pos (show [PV.int .i64 z].length = 1 from rfl), List.getElem?_cons_zero, Option.bind_some]
    simp only [PV.asI, if_true, Option.bind_some]
    by_cases hxz : x = z
    · subst hxz
      rw [show (x != x) = false by simp, cond_false, wrapN (by omega) (by omega), show ((pa.length : Int) + 1) = ((pa ++ [x]).length : Int) by simp]
      rw [sameI_rounds (by unfold big; omega) k0 k1 ra rb (pa ++ [x]) (pb ++ [x]) m (by rw [ea]; simp) (by rw [eb]; simp) (by simp [hp]) (by simpa using hr) (by simp at hn; omega)]
      simp
    · rw [show (x != z) = true by simp [hxz], cond_true, if_neg (by simp [hxz])]
theorem sameI_ok : ∀ (a1 b2 : List (List PV)) (y : Bool), sSameI a1 b2 = some y → ∃ n, ∀ (R : Type) (k : Bool → Option R), sameI_b n a1 b2 k = k y := by
  intro a1 b2 y h
  unfold sSameI at h
  obtain ⟨a, h1, h2⟩ := bind_inv h
  obtain ⟨b, h3, h4⟩ := bind_inv h2
  split at h4
  case isFalse => cases h4
  rename_i hs
  cases h4
  obtain ⟨rfl, _⟩ := unI_inv h1
  obtain ⟨rfl, _⟩ := unI_inv h3
  refine ⟨a.length + 1, fun R k => ?_⟩
  unfold sameI_b
  rw [iRow_length, iRow_length]
  by_cases hl : a.length = b.length
  · rw [show (((a.length : Int) != (b.length : Int)) : Bool) = false by simp [hl], cond_false]
    refine (sameI_rounds hs k (fun _ => k true) a b [] [] (a.length + 1) rfl rfl rfl hl (by omega)).trans ?_
    by_cases e : a = b
    · rw [if_pos e, decide_eq_true e]
    · rw [if_neg e, decide_eq_false e]
  · rw [show (((a.length : Int) != (b.length : Int)) : Bool) = true by simp; omega, cond_true, decide_eq_false (fun e => hl (by rw [e]))]
theorem sSameI_of {a b : List Int} (ha : ∀ n ∈ a, inI n = true) (hb : ∀ n ∈ b, inI n = true) (hl : a.length ≤ big) : sSameI (iRow a) (iRow b) = some (decide (a = b)) := by
  unfold sSameI
  rw [unI_row fun n hn => (inI_iff n).1 (ha n hn), Option.bind_some, unI_row fun n hn => (inI_iff n).1 (hb n hn), Option.bind_some, if_pos hl]
end Go.Proofs.YtkeklbicmfhemabGreatDoorV
