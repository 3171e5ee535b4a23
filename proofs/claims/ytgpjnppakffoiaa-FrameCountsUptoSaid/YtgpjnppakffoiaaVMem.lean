/- The reading machine: lists of cells, loads and stores of the model at a block that is known. -/
import Derived.Test.YtgpjnppakffoiaaVRel
namespace Go.Proofs.YtgpjnppakffoiaaV
open Go Go.RowKit

section lists
variable {w : World} {S : Nat → Prop} {π : Nat → Option Pl}

theorem relL_length : ∀ {ps : List PV} {us : List Value}, relL w S ps us → ps.length = us.length
  | [], us, h => by simp only [relL] at h; simp [h]
  | p :: ps, us, h => by
    simp only [relL] at h
    obtain ⟨u, us', rfl, _, h2⟩ := h
    simp [relL_length h2]
theorem relL_get : ∀ {ps : List PV} {us : List Value}, relL w S ps us → ∀ {i : Nat} {p : PV}, ps[i]? = some p → ∃ u, us[i]? = some u ∧ rel w S p u
  | [], us, h, i, p, hp => by simp at hp
  | q :: ps, us, h, i, p, hp => by
    simp only [relL] at h
    obtain ⟨u, us', rfl, h1, h2⟩ := h
    cases i with
    | zero => simp only [List.getElem?_cons_zero, Option.some.injEq] at hp; subst hp; exact ⟨u, rfl, h1⟩
    | succ i => simpa using relL_get h2 (by simpa using hp)
theorem relL_of : ∀ {ps : List PV} {us : List Value}, ps.length = us.length → (∀ (i : Nat) (p : PV) (u : Value), ps[i]? = some p → us[i]? = some u → rel w S p u) → relL w S ps us
  | [], us, h, _ => by simp only [relL]; exact List.eq_nil_of_length_eq_zero (by simpa using h.symm)
  | p :: ps, [], h, _ => by simp at h
  | p :: ps, u :: us, h, f => by
    simp only [relL]
    exact ⟨u, us, rfl, f 0 p u rfl rfl, relL_of (by simpa using h) fun i p u hp hu => f (i + 1) p u (by simpa using hp) (by simpa using hu)⟩
theorem relL_append {ps qs : List PV} {us vs : List Value} (h : relL w S ps us) (k : relL w S qs vs) : relL w S (ps ++ qs) (us ++ vs) := by
  induction ps generalizing us with
  | nil => simp only [relL] at h; subst h; simpa using k
  | cons p ps ih =>
    simp only [relL] at h
    obtain ⟨u, us', rfl, h1, h2⟩ := h
    simp only [List.cons_append, relL]
    exact ⟨u, us' ++ vs, rfl, h1, ih h2⟩
theorem relL_take {ps : List PV} {us : List Value} (h : relL w S ps us) (n : Nat) : relL w S (ps.take n) (us.take n) := by
  refine relL_of (by simp [relL_length h]) fun i p u hp hu => ?_
  rw [List.getElem?_take] at hp hu
  split at hp
  · rename_i hi
    rw [if_pos hi] at hu
    obtain ⟨u', h1, h2⟩ := relL_get h hp
    rw [h1] at hu
    cases hu
    exact h2
  · cases hp
theorem relL_drop {ps : List PV} {us : List Value} (h : relL w S ps us) (n : Nat) : relL w S (ps.drop n) (us.drop n) := by
  refine relL_of (by simp [relL_length h]) fun i p u hp hu => ?_
  rw [List.getElem?_drop] at hp hu
  obtain ⟨u', h1, h2⟩ := relL_get h hp
  rw [h1] at hu
  cases hu
  exact h2

theorem relTVs_length : ∀ {ps : List TV} {us : List Value}, relTVs w S π ps us → ps.length = us.length
  | [], us, h => by simp only [relTVs] at h; simp [h]
  | p :: ps, us, h => by
    simp only [relTVs] at h
    obtain ⟨u, us', rfl, _, h2⟩ := h
    simp [relTVs_length h2]
theorem relTVs_get : ∀ {ps : List TV} {us : List Value}, relTVs w S π ps us → ∀ {i : Nat} {p : TV}, ps[i]? = some p → ∃ u, us[i]? = some u ∧ relTV w S π p u
  | [], us, h, i, p, hp => by simp at hp
  | q :: ps, us, h, i, p, hp => by
    simp only [relTVs] at h
    obtain ⟨u, us', rfl, h1, h2⟩ := h
    cases i with
    | zero => simp only [List.getElem?_cons_zero, Option.some.injEq] at hp; subst hp; exact ⟨u, rfl, h1⟩
    | succ i => simpa using relTVs_get h2 (by simpa using hp)
theorem relTVs_of : ∀ {ps : List TV} {us : List Value}, ps.length = us.length → (∀ (i : Nat) (p : TV) (u : Value), ps[i]? = some p → us[i]? = some u → relTV w S π p u) → relTVs w S π ps us
  | [], us, h, _ => by simp only [relTVs]; exact List.eq_nil_of_length_eq_zero (by simpa using h.symm)
  | p :: ps, [], h, _ => by simp at h
  | p :: ps, u :: us, h, f => by
    simp only [relTVs]
    exact ⟨u, us, rfl, f 0 p u rfl rfl, relTVs_of (by simpa using h) fun i p u hp hu => f (i + 1) p u (by simpa using hp) (by simpa using hu)⟩
theorem relTVs_append {ps qs : List TV} {us vs : List Value} (h : relTVs w S π ps us) (k : relTVs w S π qs vs) : relTVs w S π (ps ++ qs) (us ++ vs) := by
  induction ps generalizing us with
  | nil => simp only [relTVs] at h; subst h; simpa using k
  | cons p ps ih =>
    simp only [relTVs] at h
    obtain ⟨u, us', rfl, h1, h2⟩ := h
    simp only [List.cons_append, relTVs]
    exact ⟨u, us' ++ vs, rfl, h1, ih h2⟩
theorem relTVs_take {ps : List TV} {us : List Value} (h : relTVs w S π ps us) (n : Nat) : relTVs w S π (ps.take n) (us.take n) := by
  refine relTVs_of (by simp [relTVs_length h]) fun i p u hp hu => ?_
  rw [List.getElem?_take] at hp hu
  split at hp
  · rename_i hi
    rw [if_pos hi] at hu
    obtain ⟨u', h1, h2⟩ := relTVs_get h hp
    rw [h1] at hu
    cases hu
    exact h2
  · cases hp
theorem relTVs_drop {ps : List TV} {us : List Value} (h : relTVs w S π ps us) (n : Nat) : relTVs w S π (ps.drop n) (us.drop n) := by
  refine relTVs_of (by simp [relTVs_length h]) fun i p u hp hu => ?_
  rw [List.getElem?_drop] at hp hu
  obtain ⟨u', h1, h2⟩ := relTVs_get h hp
  rw [h1] at hu
  cases hu
  exact h2
theorem relTVs_vals {ps : List PV} {us : List Value} (h : relL w S ps us) : relTVs w S π (ps.map .val) us := by
  refine relTVs_of (by simp [relL_length h]) fun i p u hp hu => ?_
  rw [List.getElem?_map] at hp
  cases hq : ps[i]? with
  | none => rw [hq] at hp; cases hp
  | some q =>
    rw [hq] at hp
    cases hp
    obtain ⟨u', h1, h2⟩ := relL_get h hq
    rw [h1] at hu
    cases hu
    simpa only [relTV] using h2
theorem relTVs_set {ps : List TV} {us : List Value} (h : relTVs w S π ps us) (n : Nat) {p : TV} {u : Value} (hp : relTV w S π p u) : relTVs w S π (ps.set n p) (us.set n u) := by
  refine relTVs_of (by simp [relTVs_length h]) fun i q v hq hv => ?_
  rw [List.getElem?_set] at hq hv
  split at hq
  · rename_i hi
    rw [if_pos hi] at hv
    split at hq
    · split at hv
      · cases hq; cases hv; exact hp
      · cases hv
    · cases hq
  · rename_i hi
    rw [if_neg hi] at hv
    obtain ⟨u', h1, h2⟩ := relTVs_get h hq
    rw [h1] at hv
    cases hv
    exact h2
theorem relL_set {ps : List PV} {us : List Value} (h : relL w S ps us) (n : Nat) {p : PV} {u : Value} (hp : rel w S p u) : relL w S (ps.set n p) (us.set n u) := by
  refine relL_of (by simp [relL_length h]) fun i q v hq hv => ?_
  rw [List.getElem?_set] at hq hv
  split at hq
  · rename_i hi
    rw [if_pos hi] at hv
    split at hq
    · split at hv
      · cases hq; cases hv; exact hp
      · cases hv
    · cases hq
  · rename_i hi
    rw [if_neg hi] at hv
    obtain ⟨u', h1, h2⟩ := relL_get h hq
    rw [h1] at hv
    cases hv
    exact h2

theorem relCs_get : ∀ {ps : List PV} {b o : Nat}, relCs w S b o ps → ∀ {i : Nat} {p : PV}, ps[i]? = some p → ∃ u, w.cell? ⟨b, o + i, none⟩ = some u ∧ u.oneCell' = true ∧ rel w S p u
  | [], _, _, _, _, _, hp => by simp at hp
  | q :: ps, b, o, h, i, p, hp => by
    simp only [relCs] at h
    obtain ⟨⟨u, h1, h2, h3⟩, h4⟩ := h
    cases i with
    | zero => simp only [List.getElem?_cons_zero, Option.some.injEq] at hp; subst hp; exact ⟨u, h1, h2, h3⟩
    | succ i =>
      have := relCs_get h4 (i := i) (p := p) (by simpa using hp)
      rwa [show o + 1 + i = o + (i + 1) by omega] at this
theorem relCs_of : ∀ {ps : List PV} {b o : Nat}, (∀ (i : Nat) (p : PV), ps[i]? = some p → ∃ u, w.cell? ⟨b, o + i, none⟩ = some u ∧ u.oneCell' = true ∧ rel w S p u) → relCs w S b o ps
  | [], _, _, _ => by simp only [relCs]
  | q :: ps, b, o, f => by
    simp only [relCs]
    refine ⟨by simpa using f 0 q rfl, relCs_of fun i p hp => ?_⟩
    have := f (i + 1) p (by simpa using hp)
    rwa [show o + (i + 1) = o + 1 + i by omega] at this
theorem relEs_get : ∀ {es : List (List PV)} {b o sz : Nat}, relEs w S b o sz es → ∀ {i : Nat} {e : List PV}, es[i]? = some e → e.length = sz ∧ relCs w S b (o + i * sz) e
  | [], _, _, _, _, _, _, hp => by simp at hp
  | q :: es, b, o, sz, h, i, e, hp => by
    simp only [relEs] at h
    obtain ⟨h1, h2, h4⟩ := h
    cases i with
    | zero => simp only [List.getElem?_cons_zero, Option.some.injEq] at hp; subst hp; simpa using ⟨h1, h2⟩
    | succ i =>
      have := relEs_get h4 (i := i) (e := e) (by simpa using hp)
      rwa [show o + sz + i * sz = o + (i + 1) * sz by rw [Nat.add_mul]; omega] at this
theorem relEs_of : ∀ {es : List (List PV)} {b o sz : Nat}, (∀ (i : Nat) (e : List PV), es[i]? = some e → e.length = sz ∧ relCs w S b (o + i * sz) e) → relEs w S b o sz es
  | [], _, _, _, _ => by simp only [relEs]
  | q :: es, b, o, sz, f => by
    simp only [relEs]
    have h0 := f 0 q rfl
    simp only [Nat.zero_mul, Nat.add_zero] at h0
    refine ⟨h0.1, h0.2, relEs_of fun i e hp => ?_⟩
    have := f (i + 1) e (by simpa using hp)
    rwa [show o + (i + 1) * sz = o + sz + i * sz by rw [Nat.add_mul]; omega] at this
theorem relEs_drop {es : List (List PV)} {b o sz : Nat} (h : relEs w S b o sz es) (n : Nat) : relEs w S b (o + n * sz) sz (es.drop n) :=
  relEs_of fun i e he => by
    rw [List.getElem?_drop] at he
    have := relEs_get h he
    rwa [Nat.add_mul, ← Nat.add_assoc] at this
theorem relEs_take {es : List (List PV)} {b o sz : Nat} (h : relEs w S b o sz es) (n : Nat) : relEs w S b o sz (es.take n) :=
  relEs_of fun i e he => by
    rw [List.getElem?_take] at he
    split at he
    · exact relEs_get h he
    · cases he
theorem relEs_append {es fs : List (List PV)} {b o sz : Nat} (h : relEs w S b o sz es) (k : relEs w S b (o + es.length * sz) sz fs) : relEs w S b o sz (es ++ fs) :=
  relEs_of fun i e he => by
    rw [List.getElem?_append] at he
    split at he
    · exact relEs_get h he
    · rename_i hi
      have := relEs_get k he
      rw [Nat.add_assoc, ← Nat.add_mul] at this
      rwa [show es.length + (i - es.length) = i by omega] at this

/-- The cells of a row's elements, one after the other. -/
theorem relEs_flat : ∀ {es : List (List PV)} {b o sz : Nat}, relEs w S b o sz es → ∃ us : List Value, us.length = es.length * sz ∧ (∀ (j : Nat) (u : Value), us[j]? = some u → w.cell? ⟨b, o + j, none⟩ = some u) ∧ (∀ u ∈ us, u.oneCell' = true) ∧ relL w S es.flatten us
  | [], _, _, _, _ => ⟨[], by simp, by simp, by simp, by simp [relL]⟩
  | e :: es, b, o, sz, h => by
    simp only [relEs] at h
    obtain ⟨h1, h2, h3⟩ := h
    obtain ⟨us, hl, hc, ho, hr⟩ := relEs_flat h3
    have hh : ∃ vs : List Value, vs.length = e.length ∧ (∀ (j : Nat) (u : Value), vs[j]? = some u → w.cell? ⟨b, o + j, none⟩ = some u) ∧ (∀ u ∈ vs, u.oneCell' = true) ∧ relL w S e vs := by
      clear h1 h3 hl hc ho hr
      induction e generalizing o with
      | nil => exact ⟨[], by simp, by simp, by simp, by simp [relL]⟩
      | cons p ps ih =>
        simp only [relCs] at h2
        obtain ⟨⟨u, g1, g2, g3⟩, g4⟩ := h2
        obtain ⟨vs, k1, k2, k3, k4⟩ := ih (o + 1) g4
        refine ⟨u :: vs, by simp [k1], ?_, ?_, ?_⟩
        · intro j v hv
          cases j with
          | zero => simp only [List.getElem?_cons_zero, Option.some.injEq] at hv; subst hv; simpa using g1
          | succ j =>
            have := k2 j v (by simpa using hv)
            rwa [show o + 1 + j = o + (j + 1) by omega] at this
        · intro v hv
          simp only [List.mem_cons] at hv
          rcases hv with rfl | hv
          · exact g2
          · exact k3 v hv
        · simp only [relL]
          exact ⟨u, vs, rfl, g3, k4⟩
    obtain ⟨vs, g1, g2, g3, g4⟩ := hh
    refine ⟨vs ++ us, ?_, ?_, ?_, ?_⟩
    · rw [List.length_append, g1, hl, h1, List.length_cons, Nat.add_mul]; omega
    · intro j u hu
      rw [List.getElem?_append] at hu
      split at hu
      · exact g2 j u hu
      · have := hc _ u hu
        rwa [show o + sz + (j - vs.length) = o + j by omega] at this
    · intro u hu
      simp only [List.mem_append] at hu
      exact hu.elim (g3 u) (ho u)
    · simp only [List.flatten_cons]
      exact relL_append g4 hr
end lists

/-- One block has turned. -/
structure Upd (w : World) (b : Nat) (o : Obj) (w' : World) : Prop where
  os : w'.os = w.os
  tape : w'.tape = w.tape
  output : w'.output = w.output
  size : w'.heap.size = w.heap.size
  other : ∀ k, k ≠ b → w'.heap[k]? = w.heap[k]?
  here : w'.heap[b]? = some o

theorem Upd.trans {w w1 w2 : World} {b : Nat} {o o' : Obj} (h : Upd w b o w1) (k : Upd w1 b o' w2) : Upd w b o' w2 :=
  ⟨k.os.trans h.os, k.tape.trans h.tape, k.output.trans h.output, k.size.trans h.size, fun i hi => (k.other i hi).trans (h.other i hi), k.here⟩

theorem setCell_upd (w : World) (b i : Nat) (C : Array Value) (t : TypeId) (fr : Nat × Nat) (v : Value) (hg : w.heap[b]? = some (.cells C t fr)) :
    Upd w b (.cells (C.setIfInBounds i v) t fr) (w.setCell ⟨b, i, none⟩ v) := by
  refine ⟨rfl, rfl, rfl, by simp [World.setCell], ?_, ?_⟩
  · intro k hk
    simp only [World.setCell, Array.getElem?_modify]
    rw [if_neg (by omega)]
  · simp only [World.setCell, Array.getElem?_modify]
    simp [hg]

theorem unfrozen_at {w : World} {b i : Nat} {C : Array Value} {t : TypeId} {fr : Nat × Nat} (hg : w.heap[b]? = some (.cells C t fr)) (hf : unfrozen C fr) (hi : i < C.size) : w.frozen? ⟨b, i, none⟩ = false := by
  obtain ⟨lo, hh⟩ := fr
  simp only [World.frozen?, hg]
  rcases hf with h | h
  · simp only at h
    subst h
    by_cases h1 : lo ≤ i
    · have h2 : ¬ i < lo := by omega
      simp [h2]
    · simp [h1]
  · simp only at h
    have h1 : ¬ lo ≤ i := by omega
    simp [h1]

theorem run_load_at {P : Program} {w : World} {b i : Nat} {v : Value} (h : w.cell? ⟨b, i, none⟩ = some v) : (load ⟨b, i, none⟩).run P w = .ok v w := by
  simp [h]

theorem run_store_at {P : Program} {w : World} {b i : Nat} {C : Array Value} {t : TypeId} {fr : Nat × Nat} {v : Value} (hg : w.heap[b]? = some (.cells C t fr)) (hf : unfrozen C fr) (hi : i < C.size) (hv : v.oneCell' = true) :
    (store ⟨b, i, none⟩ v).run P w = .ok () (w.setCell ⟨b, i, none⟩ v) := by
  have hc : w.cell? ⟨b, i, none⟩ = some C[i] := by rw [cell_of_row w b i C t fr hg]; simp [hi]
  rw [run_store P w _ v .plain hv]
  simp [hc, unfrozen_at hg hf hi]

theorem run_storeCells_blk {P : Program} {b : Nat} {t : TypeId} {fr : Nat × Nat} {o : Nat} : ∀ (vs : List Value) (i : Nat) (C : Array Value) (w : World), w.heap[b]? = some (.cells C t fr) → unfrozen C fr → o + i + vs.length ≤ C.size → (∀ v ∈ vs, v.oneCell' = true) →
    ∃ w' C', (storeCells ⟨b, o, none⟩ vs i).run P w = .ok () w' ∧ Upd w b (.cells C' t fr) w' ∧ C'.size = C.size ∧ C'.toList = C.toList.take (o + i) ++ vs ++ C.toList.drop (o + i + vs.length)
  | [], i, C, w, hg, _, _, _ => by
    refine ⟨w, C, by simp [storeCells], ⟨rfl, rfl, rfl, rfl, fun _ _ => rfl, hg⟩, rfl, by simp⟩
  | v :: vs, i, C, w, hg, hf, hl, h1 => by
    simp only [List.length_cons] at hl
    have hlt0 : o + i < C.size := by omega
    have hs := run_store_at (P := P) (i := o + i) (v := v) hg hf hlt0 (h1 v (by simp))
    have hu := setCell_upd w b (o + i) C t fr v hg
    obtain ⟨w', C', hr, hu', hsz, hC⟩ := run_storeCells_blk (P := P) (o := o) vs (i + 1) (C.setIfInBounds (o + i) v) _ hu.here (hf.imp id fun h => by simpa using h) (by simp; omega) (fun v hv => h1 v (by simp [hv]))
    refine ⟨w', C', ?_, hu.trans hu', by simpa using hsz, ?_⟩
    · simp only [storeCells, Addr.add_lit, Sem.run_bind, hs, Result.andThen_ok, hr]
    · rw [hC]
      simp only [Array.toList_setIfInBounds]
      have e1 : o + (i + 1) = o + i + 1 := by omega
      rw [e1, show o + i + 1 + vs.length = o + i + (v :: vs).length by simp; omega]
      have hlt : o + i < C.toList.length := by simp; omega
      rw [List.drop_set_of_lt (by simp only [List.length_cons]; omega)]
      rw [List.take_succ_eq_append_getElem (by simpa using hlt)]
      simp [List.take_set_of_le]

end Go.Proofs.YtgpjnppakffoiaaV
