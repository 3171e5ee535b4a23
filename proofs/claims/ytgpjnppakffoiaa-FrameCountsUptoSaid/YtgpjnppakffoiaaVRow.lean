/- The reading machine: a law's arguments as trees. -/
import Derived.Test.YtgpjnppakffoiaaVLaw
import Derived.SliceStrings
import Derived.ChangeSlices
import Derived.ChangeMaps5
namespace Go.Proofs.YtgpjnppakffoiaaV
open Go Go.RowKit Go.ChangeShapes Go.WideShapes Go.ChangeAt

section
variable {H : Type} {enc : TypeId × Value → H} {P : Program} {W : World} {base : Nat} {t e : TypeId} {v : Value} {d : DataW H} {ps : List MemPlace}

/-- Where a slice stands. -/
theorem slice_place (ht : P.underlying t = some (.slice e)) {a : Addr} {len cap : Nat} (h : Value.okWide P W .any base t (.slice (some a) len cap)) : a.spot = none ∧ a.block < W.heap.size := by
  simp only [Value.okWide, ht, Cell.okWide, Cell.ok] at h
  obtain ⟨_, _, _, hs, row, cells, hsh, _⟩ := h
  refine ⟨hs, ?_⟩
  unfold World.shape? at hsh
  split at hsh
  · rename_i hg
    exact (Array.getElem?_eq_some_iff.1 hg).1
  · cases hsh
theorem relEs_of_cells {b o : Nat} : ∀ {es : List PV} {k : Nat} (_ : ∀ i p, es[i]? = some p → ∃ u, W.cell? ⟨b, o + k + i, none⟩ = some u ∧ u.oneCell' = true ∧ rel W (fun b => b < W.heap.size) p u),
    relEs W (fun b => b < W.heap.size) b (o + k) 1 (es.map fun p => [p])
  | [], k, _ => by simp [relEs]
  | p :: es, k, h => by
    simp only [List.map_cons, relEs, List.length_singleton, relCs, and_true, true_and]
    refine ⟨by simpa using h 0 p rfl, ?_⟩
    rw [Nat.add_assoc]
    exact relEs_of_cells fun i q hq => by
      have := h (i + 1) q (by simpa using hq)
      rw [show o + (k + 1) + i = o + k + (i + 1) by omega]
      exact this

theorem arg_ints {k : IntKind} (ht : P.underlying t = some (.slice e)) (he : P.underlying e = some (.int k)) (hc : P.cellsOf e = 1) (hval : Value.okWide P W .any base t v) (h : DataW.Trod enc P W 0 (fun _ => true) true t v d ps) :
    ∃ zs : List Int, rel W (fun b => b < W.heap.size) (.fs (zs.map fun n => [.int k n])) v ∧ (∀ n ∈ zs, (Lit.int k n).wf = true) ∧ zs.length ≤ maxLen ∧ (zs = [] ∨ ∃ sp, d = .slice (lits k zs) sp) := by
  obtain ⟨a0, len0, cap0, rfl⟩ := okWide_slice ht hval
  obtain ⟨fuel, hf⟩ := h
  have hcells : (Value.slice a0 len0 cap0).cells.toList = [Value.slice a0 len0 cap0] := rfl
  rw [hcells] at hf
  rcases open_ints ht he hc hf with ⟨h1, h2⟩ | ⟨a, len, cap, zs, h1, h2, h3, h4, h5, h6, h7, h8⟩
  · refine ⟨[], ?_, by simp, by simp, .inl rfl⟩
    simp only [List.cons.injEq, and_true] at h1
    rw [h1]
    simp only [rel, List.map_nil]
    exact .inl ⟨⟨none, rfl⟩, trivial⟩
  · simp only [List.cons.injEq, and_true] at h1
    simp only [if_true] at h5
    obtain ⟨hs, hb⟩ := slice_place ht (by rw [h1] at hval; exact hval)
    obtain ⟨ab, ao, asp⟩ := a
    simp only at hs hb
    subst hs
    simp only [Addr.add_lit] at h7
    have hlt : (zs.take len).length = len := by simp; omega
    refine ⟨zs.take len, ?_, fun n hn => h8 n (List.mem_of_mem_take hn), by omega, .inr ⟨_, by cases h6; rfl⟩⟩
    rw [h1]
    simp only [rel]
    refine .inr ⟨ab, ao, cap, 1, ?_, ?_, h4, hb, ?_⟩
    · rw [List.length_map, hlt]
    · rw [List.length_map, hlt]; exact h3
    · have := relEs_of_cells (W := W) (b := ab) (o := ao) (es := (zs.take len).map fun n => .int k n) (k := 0) fun i p hp => by
        simp only [List.getElem?_map, Option.map_eq_some_iff] at hp
        obtain ⟨n, hn, rfl⟩ := hp
        rw [List.getElem?_take] at hn
        split at hn
        · have hi : i < zs.length := (List.getElem?_eq_some_iff.1 hn).1
          have h9 := h7 i hi
          rw [List.getD_eq_getElem?_getD, hn, Option.getD_some] at h9
          exact ⟨_, by rw [Nat.add_zero]; exact h9, rfl, by simp only [rel]⟩
        · cases hn
      rw [List.map_map] at this
      exact this

theorem arg_strings (ht : P.underlying t = some (.slice e)) (he : P.underlying e = some .string) (hc : P.cellsOf e = 1) (hval : Value.okWide P W .any base t v) (h : DataW.Trod enc P W 0 (fun _ => true) true t v d ps) :
    ∃ ss : List ByteArray, rel W (fun b => b < W.heap.size) (.fs (ss.map fun s => [.str s])) v ∧ (∀ s ∈ ss, s.size ≤ maxLen) ∧ ss.length ≤ maxLen ∧ (ss = [] ∨ ∃ sp, d = .slice (strs ss) sp) := by
  obtain ⟨a0, len0, cap0, rfl⟩ := okWide_slice ht hval
  obtain ⟨fuel, hf⟩ := h
  have hcells : (Value.slice a0 len0 cap0).cells.toList = [Value.slice a0 len0 cap0] := rfl
  rw [hcells] at hf
  rcases open_strings ht he hc hf with ⟨h1, h2⟩ | ⟨a, len, cap, zs, h1, h2, h3, h4, h5, h6, h7, h8⟩
  · refine ⟨[], ?_, by simp, by simp, .inl rfl⟩
    simp only [List.cons.injEq, and_true] at h1
    rw [h1]
    simp only [rel, List.map_nil]
    exact .inl ⟨⟨none, rfl⟩, trivial⟩
  · simp only [List.cons.injEq, and_true] at h1
    simp only [if_true] at h5
    obtain ⟨hs, hb⟩ := slice_place ht (by rw [h1] at hval; exact hval)
    obtain ⟨ab, ao, asp⟩ := a
    simp only at hs hb
    subst hs
    simp only [Addr.add_lit] at h7
    have hlt : (zs.take len).length = len := by simp; omega
    refine ⟨zs.take len, ?_, fun n hn => h8 n (List.mem_of_mem_take hn), by omega, .inr ⟨_, by cases h6; rfl⟩⟩
    rw [h1]
    simp only [rel]
    refine .inr ⟨ab, ao, cap, 1, ?_, ?_, h4, hb, ?_⟩
    · rw [List.length_map, hlt]
    · rw [List.length_map, hlt]; exact h3
    · have := relEs_of_cells (W := W) (b := ab) (o := ao) (es := (zs.take len).map fun s => .str s) (k := 0) fun i p hp => by
        simp only [List.getElem?_map, Option.map_eq_some_iff] at hp
        obtain ⟨n, hn, rfl⟩ := hp
        rw [List.getElem?_take] at hn
        split at hn
        · have hi : i < zs.length := (List.getElem?_eq_some_iff.1 hn).1
          have h9 := h7 i hi
          rw [List.getD_eq_getElem?_getD, hn, Option.getD_some] at h9
          exact ⟨_, by rw [Nat.add_zero]; exact h9, rfl, by simp only [rel]⟩
        · cases hn
      rw [List.map_map] at this
      exact this
end
end Go.Proofs.YtgpjnppakffoiaaV
