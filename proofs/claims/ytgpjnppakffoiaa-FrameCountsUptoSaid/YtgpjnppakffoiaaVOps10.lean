/- The reading machine's operations are told rightly: structs, arrays, slices built of parts; made slices; bytes and strings. -/
import Derived.Test.YtgpjnppakffoiaaVOps9
import Derived.Laws.Tables
import Derived.Great.BuildSlice
import Derived.Lib.ConvBytes
import Derived.Laws.BytesString
import Derived.Laws.MakeOwn
namespace Go.Proofs.YtgpjnppakffoiaaV
open Go Go.RowKit

section
variable {P : Program} {T : TypeId → Option TI} {look : Nat → Option Ob} {nx : Nat} {ev : Operand → Option TV} {o : Oper} {v : TV} {up : List (Nat × Ob)} {nw : List Ob} {rd : List Nat}

theorem foldSet_list (off : Nat) : ∀ (vs : List Value) (k : Nat) (cells : Array Value), off + k + vs.length ≤ cells.size →
    ((vs.zipIdx k).foldl (fun (cs : Array Value) (x : Value × Nat) => cs.setIfInBounds (off + x.2) x.1) cells).toList = cells.toList.take (off + k) ++ vs ++ cells.toList.drop (off + k + vs.length)
  | [], k, cells, _ => by simp
  | v :: vs, k, cells, h => by
    simp only [List.length_cons] at h
    simp only [List.zipIdx_cons, List.foldl_cons]
    rw [foldSet_list off vs (k + 1) _ (by simp; omega)]
    have hn : off + k < cells.toList.length := by rw [Array.length_toList]; omega
    have e1 : (cells.toList.set (off + k) v).take (off + (k + 1)) = cells.toList.take (off + k) ++ [v] := by
      rw [← Nat.add_assoc, List.take_succ_eq_append_getElem (by simpa using hn), List.take_set_of_le (Nat.le_refl _)]
      simp
    have e2 : (cells.toList.set (off + k) v).drop (off + (k + 1) + vs.length) = cells.toList.drop (off + k + (vs.length + 1)) := by
      rw [List.drop_set_of_lt (by omega)]
      congr 1; omega
    simp only [Array.toList_setIfInBounds, List.length_cons, e1, e2]
    simp

theorem fill_step {place : Nat → Option (Nat × Nat)} {cells : Array Value} {i off size : Nat} {v : Value} {rest : List (Nat × Value)} (hp : place i = some (off, size)) (hs : v.cells.size = size) (hle : off + size ≤ cells.size) :
    ∃ cells', Instr.fill place cells ((i, v) :: rest) = Instr.fill place cells' rest ∧ cells'.toList = cells.toList.take off ++ v.cells.toList ++ cells.toList.drop (off + size) ∧ cells'.size = cells.size := by
  refine ⟨v.cells.zipIdx.foldl (fun cs (c, j) => cs.setIfInBounds (off + j) c) cells, ?_, ?_, ?_⟩
  · simp only [Instr.fill, hp]
    rw [if_neg (by simp [hs]; omega)]
  · rw [← Array.foldl_toList, Array.toList_zipIdx]
    have := foldSet_list off v.cells.toList 0 cells (by simp [hs]; omega)
    rw [this]
    simp [hs]
  · have h1 : ((v.cells.zipIdx.foldl (fun cs (c, j) => cs.setIfInBounds (off + j) c) cells).toList).length = cells.size := by
      rw [← Array.foldl_toList, Array.toList_zipIdx]
      rw [foldSet_list off v.cells.toList 0 cells (by simp [hs]; omega)]
      simp [hs]; omega
    simpa using h1

theorem fill_ok {fs : List (TypeId × Nat)} {place : Nat → Option (Nat × Nat)} {w : World} {S : Nat → Prop} {π : Nat → Option Pl} {a : Act} (hT : TOk P T) (hev : evOk ev a w S π)
    (hp : ∀ (i : Nat) (ft : TypeId) (fo : Nat), fs[i]? = some (ft, fo) → ∃ i', T ft = some i' ∧ place i = some (fo, i'.size)) :
    ∀ (parts : List (Nat × Operand)) (cs cs' : List TV) (cells : Array Value), putParts T fs cs (parts.map fun x => (x.1, ev x.2)) = some cs' → relTVs w S π cs cells.toList → oneCells cells →
      ∃ cells', Instr.fill place cells (parts.map fun x => (x.1, a.eval x.2)) = some cells' ∧ relTVs w S π cs' cells'.toList ∧ oneCells cells'
  | [], cs, cs', cells, h, hr, h1 => by
    simp only [List.map_nil, putParts, Option.some.injEq] at h
    subst h
    exact ⟨cells, by simp [Instr.fill], hr, h1⟩
  | (i, x) :: parts, cs, cs', cells, h, hr, h1 => by
    simp only [List.map_cons, putParts] at h
    split at h
    · rename_i ft fo tv hf hx
      obtain ⟨i', hi, hpl⟩ := hp i ft fo hf
      split at h
      · rename_i ds hds
        split at h
        · rename_i hle
          have hcl := relTVs_length hr
          -- the part's cells
          have hpart : ∃ us : List Value, (a.eval x).cells.toList = us ∧ us.length = i'.size ∧ ds.length = us.length ∧ (∀ u ∈ us, u.oneCell' = true) ∧ relTVs w S π ds us := by
            have hxr := hev x tv hx
            rw [isAggT_eq hi] at hds
            cases hd : i'.desc.isAgg with
            | true =>
              rw [hd, if_pos rfl] at hds
              obtain ⟨us, he, hs, h1, h2⟩ := tcells_rel hds hxr
              rw [tsize_eq hi] at hs
              refine ⟨us.toList, by rw [he]; rfl, by simpa using hs, relTVs_length h2, h1, h2⟩
            | false =>
              rw [hd, if_neg (by simp)] at hds
              split at hds
              · rename_i ho
                simp only [Option.some.injEq] at hds
                subst hds
                have h1 := relTV_one hxr ho
                refine ⟨[a.eval x], by rw [oneCell_cells h1], by rw [(hT ft i' hi).one hd]; rfl, rfl, by simpa using h1, ?_⟩
                simp only [relTVs]
                exact ⟨_, _, rfl, fixNil_rel hxr, rfl⟩
              · cases hds
          obtain ⟨us, hu1, hu2, hu3, hu4, hu5⟩ := hpart
          have hsz : (a.eval x).cells.size = i'.size := by rw [← Array.length_toList, hu1, hu2]
          obtain ⟨cells', hf1, hf2, hf3⟩ := fill_step (rest := parts.map fun x => (x.1, a.eval x.2)) (cells := cells) hpl hsz (by rw [← hu2, ← hu3, ← Array.length_toList, ← hcl]; exact hle)
          rw [hu1] at hf2
          have hone : oneCells cells' := by
            intro u hu
            rw [hf2] at hu
            simp only [List.mem_append] at hu
            rcases hu with (hu | hu) | hu
            · exact h1 u (List.mem_of_mem_take hu)
            · exact hu4 u hu
            · exact h1 u (List.mem_of_mem_drop hu)
          have hrel : relTVs w S π (cs.take fo ++ ds ++ cs.drop (fo + ds.length)) cells'.toList := by
            rw [hf2]
            refine relTVs_append (relTVs_append (relTVs_take hr fo) hu5) ?_
            rw [hu3, hu2]
            exact relTVs_drop hr _
          obtain ⟨cells'', g1, g2, g3⟩ := fill_ok hT hev hp parts _ cs' cells' h hrel hone
          exact ⟨cells'', by simp only [List.map_cons]; rw [hf1, g1], g2, g3⟩
        · cases h
      · cases h
    · cases h

theorem places_ok (hT : TOk P T) : ∀ (F : List Field), (F.map fun f => (f.type, f.offset)).all (fun f => (T f.1).isSome) = true →
    ∃ places : List (Nat × Nat), F.mapM (fun f => (P.info? f.type).map fun i => (f.offset, i.size)) = some places ∧ ∀ (i : Nat) (ft : TypeId) (fo : Nat), (F.map fun f => (f.type, f.offset))[i]? = some (ft, fo) → ∃ i', T ft = some i' ∧ places[i]? = some (fo, i'.size)
  | [], _ => ⟨[], by simp, by simp⟩
  | f :: F, h => by
    simp only [List.map_cons, List.all_cons, Bool.and_eq_true] at h
    obtain ⟨places, h1, h2⟩ := places_ok hT F h.2
    obtain ⟨i, hi⟩ := Option.isSome_iff_exists.1 h.1
    obtain ⟨g, z, hg, hs, _⟩ := (hT _ i hi).info
    refine ⟨(f.offset, i.size) :: places, by simp [List.mapM_cons, hg, hs, h1], ?_⟩
    intro j ft fo hj
    cases j with
    | zero =>
      simp only [List.map_cons, List.getElem?_cons_zero, Option.some.injEq, Prod.mk.injEq] at hj
      obtain ⟨rfl, rfl⟩ := hj
      exact ⟨i, hi, rfl⟩
    | succ j =>
      simp only [List.map_cons, List.getElem?_cons_succ] at hj ⊢
      exact h2 j ft fo hj

theorem build_ok {t : TypeId} {parts : Array (Nat × Operand)} (hT : TOk P T) (ho : o.op = .build t parts) (h : buildK T t (parts.toList.map fun x => (x.1, ev x.2)) ret4 = some (v, up, nw, rd)) : OpOk P look nx ev o v up nw := by
  have hexec : ∀ (a : Act) (w : World) (cells : Array Value), P.built t (parts.toList.map fun x => (x.1, a.eval x.2)) = some cells → (execOp a.eval o).run P w = .ok (.value (.agg cells)) w := by
    intro a w cells hb
    have := run_build (P := P) w t (parts.map fun x => (x.1, a.eval x.2)) cells (by simpa using hb)
    simp [execOp, ho, this]
  unfold buildK at h
  split at h
  · rename_i sz by' fs z hi
    split at h
    · rename_i hall
      split at h
      · rename_i cs hcs
        obtain ⟨rfl, rfl, rfl, rfl⟩ := ret4_inv h
        have hty := hT t _ hi
        have hu := hty.desc
        simp only [descOk] at hu
        obtain ⟨F, hF, hFe, _⟩ := hu
        subst hFe
        obtain ⟨places, hp1, hp2⟩ := places_ok hT F.toList hall
        obtain ⟨zv, hz1, hz2, _, _, f, hf1, hf2, _⟩ := run_zeroValue hty
        refine opOk_pure fun a w S π hev hob => ?_
        obtain ⟨hz3, hz4⟩ := zsOk_rel (w := w) (S := S) (π := π) hz2
        obtain ⟨cells, g1, g2, g3⟩ := fill_ok (place := (places.toArray[·]?)) hT hev (fun i ft fo hi => by simpa using hp2 i ft fo hi) parts.toList _ cs zv.cells hcs hz3 hz4
        refine ⟨_, hexec a w cells ?_, by simpa using packTV_rel g2 g3⟩
        simp only [Program.built, hf1, hF, hf2, hp1]
        exact g1
      · cases h
    · cases h
  · rename_i sz by' n e z hi
    split at h
    · rename_i ei hie
      split at h
      · rename_i cs hcs
        obtain ⟨rfl, rfl, rfl, rfl⟩ := ret4_inv h
        have hty := hT t _ hi
        have hu := hty.desc
        simp only [descOk] at hu
        obtain ⟨g, _, hg, hgs, _⟩ := (hT e ei hie).info
        obtain ⟨zv, hz1, hz2, _, _, f, hf1, hf2, _⟩ := run_zeroValue hty
        refine opOk_pure fun a w S π hev hob => ?_
        obtain ⟨hz3, hz4⟩ := zsOk_rel (w := w) (S := S) (π := π) hz2
        obtain ⟨cells, g1, g2, g3⟩ := fill_ok (place := fun i => some (i * g.size, g.size)) hT hev (fun i ft fo hi => by
          simp only [List.getElem?_map] at hi
          cases hr : (List.range n)[i]? with
          | none => rw [hr] at hi; cases hi
          | some j =>
            rw [hr] at hi
            simp only [Option.map_some, Option.some.injEq, Prod.mk.injEq] at hi
            obtain ⟨rfl, rfl⟩ := hi
            have : j = i := by
              have := List.getElem?_eq_some_iff.1 hr
              obtain ⟨h1, h2⟩ := this
              simp at h2
              exact h2.symm
            subst this
            exact ⟨ei, hie, by simp [hgs, tsize_eq hie]⟩) parts.toList _ cs zv.cells hcs hz3 hz4
        refine ⟨_, hexec a w cells ?_, by simpa using packTV_rel g2 g3⟩
        simp only [Program.built, hf1, hu, hf2, hg]
        exact g1
      · cases h
    · cases h
  · cases h

end
end Go.Proofs.YtgpjnppakffoiaaV
