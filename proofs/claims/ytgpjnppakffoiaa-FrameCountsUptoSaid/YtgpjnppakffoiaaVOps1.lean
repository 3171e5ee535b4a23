/- The reading machine's operations are told rightly: variables, loads, stores. -/
import Derived.Test.YtgpjnppakffoiaaVOk
namespace Go.Proofs.YtgpjnppakffoiaaV
open Go Go.RowKit

abbrev Res := TV × List (Nat × Ob) × List Ob × List Nat
def ret4 : K Res := fun v up nw rd => some (v, up, nw, rd)

section
variable {P : Program} {T : TypeId → Option TI} {look : Nat → Option Ob} {nx : Nat} {ev : Operand → Option TV} {o : Oper} {v : TV} {up : List (Nat × Ob)} {nw : List Ob} {rd : List Nat}

theorem move_ok {x : Operand} {tv : TV} (ho : o.op = .move x ∨ o.op = .assign x) (hx : ev x = some tv) (h : ret4 (fixNil T o.type tv) [] [] [] = some (v, up, nw, rd)) : OpOk P look nx ev o v up nw := by
  simp only [ret4, Option.some.injEq, Prod.mk.injEq] at h
  obtain ⟨rfl, rfl, rfl, rfl⟩ := h
  refine opOk_pure fun a w S π hev _ => ⟨a.eval x, ?_, fixNil_rel (hev x tv hx)⟩
  rcases ho with ho | ho <;> simp [execOp, ho]

theorem alloc_ok {t : TypeId} {i : TI} (hT : TOk P T) (ho : o.op = .alloc t) (hi : T t = some i) (h : ret4 (.ref nx 0) [] [.box i.zero] [] = some (v, up, nw, rd)) : OpOk P look nx ev o v up nw := by
  simp only [ret4, Option.some.injEq, Prod.mk.injEq] at h
  obtain ⟨rfl, rfl, rfl, rfl⟩ := h
  intro a w S π hev hob hf K Q hK
  obtain ⟨z, hz1, hz2, hz3, _⟩ := run_zeroValue (hT t i hi)
  have hr : (execOp a.eval o).run P w = .ok (.value (.pointer (some ⟨w.heap.size, 0, none⟩))) (w.alloc (.cells z.cells t)) := by
    simp [execOp, ho, Instr.alloc, hz3, newVar, newRow]
  obtain ⟨π', h1, h2, h3, h4, h5⟩ := obs_new (w' := w.alloc (.cells z.cells t)) (ob := .box i.zero) (c := .cells z.cells t) hob hf rfl rfl rfl rfl 0 0 0 0 (by
    intro π' hext hnx hkeep
    obtain ⟨r1, r2⟩ := zsOk_rel (w := w.alloc (.cells z.cells t)) (S := S) (π := π') hz2
    simp only [obOk]
    exact ⟨by trivial, z.cells, t, (0, 0), heap_alloc_new w _, .inl rfl, r2, r1⟩)
  unfold Oper.wp
  rw [hr]
  exact hK _ _ S _ ⟨by simp only [relTV]; exact ⟨_, _, _, _, _, h4, rfl⟩, h1, h2, h3, h5⟩

theorem cells_agg (cs : Array Value) : (Value.agg cs).cells = cs := rfl
theorem rel_agg {w : World} {S : Nat → Prop} {p : PV} {u : Value} {n : Nat} (h : rel w S p u) (hn : p.isAgg n = true) : ∃ cs us, p = .agg cs ∧ u = .agg us ∧ (∀ u ∈ us.toList, u.oneCell' = true) ∧ relL w S cs us.toList ∧ cs.length = n ∧ us.size = n := by
  cases p with
  | agg cs =>
    simp only [PV.isAgg, beq_iff_eq] at hn
    simp only [rel] at h
    obtain ⟨us, rfl, h1, hl⟩ := h
    exact ⟨cs, us, rfl, rfl, h1, hl, hn, by have := relL_length hl; simp at this; omega⟩
  | _ => simp only [PV.isAgg, Bool.false_eq_true] at hn


theorem oneCell_cells {v : Value} (h : v.oneCell' = true) : v.cells = #[v] := by cases v <;> first | rfl | cases h

theorem coeK_spec {R : Type} {t : TypeId} {c : PV} {k : PV → Option R} {r : R} (h : coeK T t c k = some r) : k c = some r ∧ (∀ i, T t = some i → i.desc.isAgg = false → c.one = true) := by
  unfold coeK at h
  split at h
  · rename_i h1
    cases c <;> simp only [PV.asI, Option.bind_none, reduceCtorEq] at h
    split at h
    · rename_i hk; subst hk; exact ⟨by simpa using h, fun _ _ _ => rfl⟩
    · simp at h
  · cases c <;> simp only [PV.asB, Option.bind_none, Option.bind_some, reduceCtorEq] at h
    exact ⟨h, fun _ _ _ => rfl⟩
  · cases c <;> simp only [PV.asS, Option.bind_none, Option.bind_some, reduceCtorEq] at h
    exact ⟨h, fun _ _ _ => rfl⟩
  · cases c <;> simp only [PV.asFs, Option.bind_none, Option.bind_some, reduceCtorEq] at h
    exact ⟨h, fun _ _ _ => rfl⟩
  · rename_i h1
    exact ⟨h, fun i hi hd => by rw [h1] at hi; cases hi; cases hd⟩
  · rename_i h1
    exact ⟨h, fun i hi hd => by rw [h1] at hi; cases hi; cases hd⟩
  · rename_i h1
    exact ⟨h, fun i hi _ => by rw [h1] at hi; cases hi⟩
  · split at h
    · rename_i h1; exact ⟨h, fun _ _ _ => h1⟩
    · cases h

theorem allSome_vals {w : World} {S : Nat → Prop} {π : Nat → Option Pl} : ∀ {cs : List TV} {ps : List PV} {us : List Value},
    allSome (cs.map fun c => match c with | .val p => some p | _ => none) = some ps → relTVs w S π cs us → relL w S ps us
  | [], ps, us, h, hr => by
    simp only [List.map_nil, allSome, Option.some.injEq] at h
    subst h
    simpa only [relTVs, relL] using hr
  | c :: cs, ps, us, h, hr => by
    simp only [relTVs] at hr
    obtain ⟨u, us', rfl, h1, h2⟩ := hr
    cases c <;> simp only [List.map_cons, allSome, reduceCtorEq] at h
    rename_i p
    split at h
    · rename_i r hr'
      simp only [Option.some.injEq] at h
      subst h
      simp only [relL]
      exact ⟨u, us', rfl, by simpa only [relTV] using h1, allSome_vals hr' h2⟩
    · cases h

theorem packTV_rel {w : World} {S : Nat → Prop} {π : Nat → Option Pl} {cs : List TV} {us : List Value} (h : relTVs w S π cs us) (h1 : ∀ u ∈ us, u.oneCell' = true) : relTV w S π (packTV cs) (.agg us.toArray) := by
  unfold packTV
  split
  · rename_i ps hp
    simp only [relTV, rel]
    exact ⟨us.toArray, rfl, h1, allSome_vals hp h⟩
  · simp only [relTV]
    exact ⟨us.toArray, rfl, h1, h⟩

theorem tcells_rel {w : World} {S : Nat → Prop} {π : Nat → Option Pl} {n : Nat} {x : TV} {ds : List TV} {u : Value} (h : tcells n x = some ds) (hr : relTV w S π x u) :
    ∃ us, u = .agg us ∧ us.size = n ∧ (∀ u ∈ us.toList, u.oneCell' = true) ∧ relTVs w S π ds us.toList := by
  unfold tcells at h
  split at h
  · split at h
    · rename_i hl
      cases h
      simp only [relTV] at hr
      obtain ⟨us, rfl, h1, h2⟩ := hr
      exact ⟨us, rfl, by have := relTVs_length h2; simp at this; omega, h1, h2⟩
    · cases h
  · split at h
    · rename_i hp
      cases h
      simp only [relTV] at hr
      obtain ⟨cs, us, rfl, rfl, h1, h2, h3, h4⟩ := rel_agg hr hp
      exact ⟨us, rfl, h4, h1, relTVs_vals h2⟩
    · cases h
  · cases h

theorem box_ok {t : TypeId} {x : Operand} {tv : TV} {ob : Ob} (hT : TOk P T) (ho : o.op = .box t x) (hx : ev x = some tv) (hb : boxOb T t tv = some ob) (ht : (T t).isSome = true)
    (h : ret4 (.ref nx 0) [] [ob] [] = some (v, up, nw, rd)) : OpOk P look nx ev o v up nw := by
  simp only [ret4, Option.some.injEq, Prod.mk.injEq] at h
  obtain ⟨rfl, rfl, rfl, rfl⟩ := h
  intro a w S π hev hob hf K Q hK
  have hv := hev x tv hx
  obtain ⟨i, hi⟩ := Option.isSome_iff_exists.1 ht
  have hr : (execOp a.eval o).run P w = .ok (.value (.pointer (some ⟨w.heap.size, 0, none⟩))) (w.alloc (.cells (a.eval x).cells t)) := by
    simp [execOp, ho, Instr.box, newVar, newRow]
  obtain ⟨π', h1, h2, h3, h4, h5⟩ := obs_new (w' := w.alloc (.cells (a.eval x).cells t)) (ob := ob) (c := .cells (a.eval x).cells t) hob hf rfl rfl rfl rfl 0 0 0 0 (by
    intro π' hext hnx hkeep
    have hv' := relTV_keep hkeep hext tv _ hv
    unfold boxOb at hb
    split at hb
    · split at hb
      · split at hb
        · rename_i p _ hp
          cases hb
          simp only [relTV] at hv'
          obtain ⟨cs, us, rfl, hu, g1, g2, g3, g4⟩ := rel_agg hv' hp
          have hc : (a.eval x).cells = us := by rw [hu]; rfl
          have hc' : a.eval x = .agg (a.eval x).cells := by rw [hc]; exact hu
          simp only [obOk]
          refine ⟨by trivial, (a.eval x).cells, t, (0, 0), heap_alloc_new w _, .inl rfl, ?_, by rw [hc]; exact g4, hp, ?_⟩
          · rw [hc]; exact g1
          · rw [← hc']; exact hv'
        · cases hb
      · rename_i cs _
        split at hb
        · rename_i hlen
          cases hb
          simp only [relTV] at hv'
          obtain ⟨us, hu, g1, g2⟩ := hv'
          have hc : us = (a.eval x).cells := by rw [hu]; rfl
          simp only [obOk]
          subst hc
          exact ⟨by trivial, (a.eval x).cells, t, (0, 0), heap_alloc_new w _, .inl rfl, g1, g2⟩
        · cases hb
      · cases hb
    · split at hb
      · rename_i hone
        cases hb
        have g1 := relTV_one hv' hone
        simp only [obOk]
        refine ⟨by trivial, (a.eval x).cells, t, (0, 0), heap_alloc_new w _, .inl rfl, ?_, ?_⟩
        · rw [oneCell_cells g1]; intro u hu; simp at hu; subst hu; exact g1
        · have hc : (a.eval x).cells.toList = [a.eval x] := by rw [oneCell_cells g1]
          rw [hc]
          simp only [relTVs]
          exact ⟨_, _, rfl, fixNil_rel hv', rfl⟩
      · cases hb)
  unfold Oper.wp
  rw [hr]
  exact hK _ _ S _ ⟨by simp only [relTV]; exact ⟨_, _, _, _, _, h4, rfl⟩, h1, h2, h3, h5⟩

theorem subAgg_rel {w : World} {S : Nat → Prop} {b o' off n : Nat} {e : List PV} {p : PV} (hs : subAgg e off n = some p) (h : relCs w S b o' e) :
    ∃ us : List Value, us.length = n ∧ (∀ (j : Nat) (u : Value), us[j]? = some u → w.cell? ⟨b, o' + off + j, none⟩ = some u) ∧ rel w S p (.agg us.toArray) := by
  unfold subAgg at hs
  split at hs
  · rename_i hle
    cases hs
    have hd : relEs w S b (o' + off) n [(e.drop off).take n] := by
      simp only [relEs]
      refine ⟨by simp; omega, relCs_of fun i q hq => ?_, True.intro⟩
      rw [List.getElem?_take] at hq
      split at hq
      · rw [List.getElem?_drop] at hq
        have := relCs_get h hq
        rwa [show o' + (off + i) = o' + off + i by omega] at this
      · cases hq
    obtain ⟨us, h1, h2, h3, h4⟩ := relEs_flat hd
    refine ⟨us, by simpa using h1, h2, ?_⟩
    simp only [rel]
    exact ⟨us.toArray, rfl, h3, by simpa using h4⟩
  · cases hs

theorem load_ok {t : TypeId} {x : Operand} {tv : TV} (hT : TOk P T) (ho : o.op = .load t x) (hx : ev x = some tv) (ht : (T t).isSome = true)
    (h : loadK T look t tv ret4 = some (v, up, nw, rd)) : OpOk P look nx ev o v up nw := by
  obtain ⟨i, hi⟩ := Option.isSome_iff_exists.1 ht
  have hty := hT t i hi
  have hag := isAggT_eq hi
  have hsz := tsize_eq hi
  have hexec : ∀ (a : Act) (w : World) (b o' : Nat) (u : Value), a.eval x = .pointer (some ⟨b, o', none⟩) → (loadVar t ⟨b, o', none⟩).run P w = .ok u w → (execOp a.eval o).run P w = .ok (.value u) w := by
    intro a w b o' u he hr
    simp [execOp, ho, Instr.loadAt, he, Instr.sureAddr, hr]
  unfold loadK at h
  split at h
  · rename_i id off
    split at h
    · rename_i cs hl
      split at h
      · rename_i hA
        rw [hag] at hA
        rw [hsz] at h
        split at h
        · rename_i hle
          simp only [ret4, Option.some.injEq, Prod.mk.injEq] at h
          obtain ⟨rfl, rfl, rfl, rfl⟩ := h
          refine opOk_pure fun a w S π hev hob => ?_
          have hv := hev x _ hx
          simp only [relTV] at hv
          obtain ⟨b, s, c, z, l, hp, he⟩ := hv
          obtain ⟨pl, hp', hk⟩ := hob.ok id _ hl
          rw [hp] at hp'; cases hp'
          simp only [obOk] at hk
          obtain ⟨rfl, C, t', fr, hg, hu, h1, hr⟩ := hk
          have hlen := relTVs_length hr
          refine ⟨_, hexec a w b (0 + off) _ he (run_loadVar_agg hty hA ((C.toList.drop off).take i.size) ?_ ?_), packTV_rel (relTVs_take (relTVs_drop hr off) _) ?_⟩
          · simp at hlen ⊢; omega
          · intro j u hj
            rw [List.getElem?_take] at hj
            split at hj
            · rw [List.getElem?_drop] at hj
              rw [cell_of_row w b _ C t' fr hg]
              simpa using hj
            · cases hj
          · intro u hu
            exact h1 u (List.mem_of_mem_drop (List.mem_of_mem_take hu))
        · cases h
      · rename_i hA
        rw [hag] at hA
        split at h
        · rename_i c hc
          simp only [ret4, Option.some.injEq, Prod.mk.injEq] at h
          obtain ⟨rfl, rfl, rfl, rfl⟩ := h
          refine opOk_pure fun a w S π hev hob => ?_
          have hv := hev x _ hx
          simp only [relTV] at hv
          obtain ⟨b, s, c', z, l, hp, he⟩ := hv
          obtain ⟨pl, hp', hk⟩ := hob.ok id _ hl
          rw [hp] at hp'; cases hp'
          simp only [obOk] at hk
          obtain ⟨rfl, C, t', fr, hg, hu, h1, hr⟩ := hk
          obtain ⟨u, hu1, hu2⟩ := relTVs_get hr hc
          refine ⟨u, hexec a w b (0 + off) _ he (run_loadVar_one hty (by simpa using hA) ?_), hu2⟩
          rw [cell_of_row w b _ C t' fr hg]
          simpa using hu1
        · cases h
    · rename_i p n hl
      split at h
      · rename_i hA
        rw [hag] at hA
        rw [hsz] at h
        have key : off + i.size ≤ n → (∀ (a : Act) (w : World) (S : Nat → Prop) (π : Nat → Option Pl), evOk ev a w S π → ObsOk w S π look →
            ∃ (cs : List PV) (C : Array Value), p = .agg cs ∧ C.size = n ∧ (∀ u ∈ C.toList, u.oneCell' = true) ∧ relL w S cs C.toList ∧ (execOp a.eval o).run P w = .ok (.value (.agg ((C.toList.drop off).take i.size).toArray)) w) := by
          intro hle a w S π hev hob
          have hv := hev x _ hx
          simp only [relTV] at hv
          obtain ⟨b, s, c', z, l, hp, he⟩ := hv
          obtain ⟨pl, hp', hk⟩ := hob.ok id _ hl
          rw [hp] at hp'; cases hp'
          simp only [obOk] at hk
          obtain ⟨rfl, C, t', fr, hg, hu, h1, hn, hpa, hr⟩ := hk
          obtain ⟨cs, us, rfl, hus, g1, g2, g3, g4⟩ := rel_agg hr hpa
          cases hus
          refine ⟨cs, C, rfl, hn, g1, g2, hexec a w b (0 + off) _ he (run_loadVar_agg hty hA _ ?_ ?_)⟩
          · simp; omega
          · intro j u hj
            rw [List.getElem?_take] at hj
            split at hj
            · rw [List.getElem?_drop] at hj
              rw [cell_of_row w b _ C t' fr hg]
              simpa using hj
            · cases hj
        split at h
        · rename_i hc
          simp only [ret4, Option.some.injEq, Prod.mk.injEq] at h
          obtain ⟨rfl, rfl, rfl, rfl⟩ := h
          refine opOk_pure fun a w S π hev hob => ?_
          obtain ⟨cs, C, hp, hn, g1, g2, hx'⟩ := key (by omega) a w S π hev hob
          refine ⟨_, hx', ?_⟩
          have : (List.take i.size (List.drop off C.toList)) = C.toList := by
            rw [hc.1, List.drop_zero, List.take_of_length_le (by simp; omega)]
          rw [this, hp]
          simp only [relTV, rel]
          exact ⟨_, rfl, by simpa using g1, by simpa using g2⟩
        · split at h
          · rename_i hc hle
            simp only [ret4, Option.some.injEq, Prod.mk.injEq] at h
            obtain ⟨rfl, rfl, rfl, rfl⟩ := h
            refine opOk_pure fun a w S π hev hob => ?_
            obtain ⟨cs, C, hp, hn, g1, g2, hx'⟩ := key hle a w S π hev hob
            refine ⟨_, hx', ?_⟩
            rw [hp]
            simp only [relTV, PV.sub, PV.cells, rel]
            exact ⟨_, rfl, fun u hu => g1 u (List.mem_of_mem_drop (List.mem_of_mem_take hu)), relL_take (relL_drop g2 off) _⟩
          · cases h
      · rename_i hA
        rw [hag] at hA
        cases hc : p.cell off with
        | none => rw [hc] at h; simp at h
        | some c =>
          rw [hc] at h
          simp only [Option.bind_some] at h
          obtain ⟨h, hone⟩ := coeK_spec h
          simp only [ret4, Option.some.injEq, Prod.mk.injEq] at h
          obtain ⟨rfl, rfl, rfl, rfl⟩ := h
          refine opOk_pure fun a w S π hev hob => ?_
          have hv := hev x _ hx
          simp only [relTV] at hv
          obtain ⟨b, s, c', z, l, hp, he⟩ := hv
          obtain ⟨pl, hp', hk⟩ := hob.ok id _ hl
          rw [hp] at hp'; cases hp'
          simp only [obOk] at hk
          obtain ⟨rfl, C, t', fr, hg, hu, h1, hn, hpa, hr⟩ := hk
          obtain ⟨cs, us, rfl, hus, g1, g2, g3, g4⟩ := rel_agg hr hpa
          cases hus
          obtain ⟨u, hu1, hu2⟩ := relL_get g2 (show cs[off]? = some c from hc)
          refine ⟨u, hexec a w b (0 + off) _ he (run_loadVar_one hty (by simpa using hA) ?_), by simpa only [relTV] using hu2⟩
          rw [cell_of_row w b _ C t' fr hg]
          simpa using hu1
    · cases h
  · rename_i id m j
    split at h
    · rename_i es sz hl
      have key : ∀ e, es[m]? = some e → ∀ (a : Act) (w : World) (S : Nat → Prop) (π : Nat → Option Pl), evOk ev a w S π → ObsOk w S π look →
          ∃ b s, a.eval x = .pointer (some ⟨b, s + j, none⟩) ∧ relCs w S b s e := by
        intro e he a w S π hev hob
        have hv := hev x _ hx
        simp only [relTV] at hv
        obtain ⟨b, s, c', z, l, hp, hpt⟩ := hv
        obtain ⟨pl, hp', hk⟩ := hob.ok id _ hl
        rw [hp] at hp'; cases hp'
        simp only [obOk] at hk
        obtain ⟨rfl, rfl, h2, h3, C, t', fr, hg, hu, h1, hsz', hr⟩ := hk
        exact ⟨b, s + m * z, hpt, (relEs_get hr he).2⟩
      split at h
      · rename_i hA
        rw [hag] at hA
        rw [hsz] at h
        cases hc : es[m]? with
        | none => rw [hc] at h; simp at h
        | some e =>
          rw [hc] at h
          simp only [Option.bind_some] at h
          cases hs : subAgg e j i.size with
          | none => rw [hs] at h; simp at h
          | some p =>
            rw [hs] at h
            simp only [Option.bind_some, ret4, Option.some.injEq, Prod.mk.injEq] at h
            obtain ⟨rfl, rfl, rfl, rfl⟩ := h
            refine opOk_pure fun a w S π hev hob => ?_
            obtain ⟨b, s, hpt, hr⟩ := key e hc a w S π hev hob
            obtain ⟨us, h1, h2, h3⟩ := subAgg_rel hs hr
            exact ⟨_, hexec a w b (s + j) _ hpt (run_loadVar_agg hty hA us h1 h2), by simpa only [relTV] using h3⟩
      · rename_i hA
        rw [hag] at hA
        cases hc : es[m]? with
        | none => rw [hc] at h; simp at h
        | some e =>
          rw [hc] at h
          simp only [Option.bind_some] at h
          cases hs : e[j]? with
          | none => rw [hs] at h; simp at h
          | some p =>
            rw [hs] at h
            simp only [Option.bind_some] at h
            obtain ⟨h, hone⟩ := coeK_spec h
            simp only [ret4, Option.some.injEq, Prod.mk.injEq] at h
            obtain ⟨rfl, rfl, rfl, rfl⟩ := h
            refine opOk_pure fun a w S π hev hob => ?_
            obtain ⟨b, s, hpt, hr⟩ := key e hc a w S π hev hob
            obtain ⟨u, hu1, hu2, hu3⟩ := relCs_get hr hs
            exact ⟨u, hexec a w b (s + j) _ hpt (run_loadVar_one hty (by simpa using hA) hu1), by simpa only [relTV] using hu3⟩
    · cases h
  · rename_i cs off
    have key : ∀ (a : Act) (w : World) (S : Nat → Prop) (π : Nat → Option Pl), evOk ev a w S π →
        ∃ b s, a.eval x = .pointer (some ⟨b, s + off, none⟩) ∧ relCs w S b s cs := by
      intro a w S π hev
      have hv := hev x _ hx
      simp only [relTV, rel] at hv
      obtain ⟨b, s, hpt, hS, hr⟩ := hv
      exact ⟨b, s, hpt, hr⟩
    split at h
    · rename_i hA
      rw [hag] at hA
      rw [hsz] at h
      cases hs : subAgg cs off i.size with
      | none => rw [hs] at h; simp at h
      | some p =>
        rw [hs] at h
        simp only [Option.bind_some, ret4, Option.some.injEq, Prod.mk.injEq] at h
        obtain ⟨rfl, rfl, rfl, rfl⟩ := h
        refine opOk_pure fun a w S π hev hob => ?_
        obtain ⟨b, s, hpt, hr⟩ := key a w S π hev
        obtain ⟨us, h1, h2, h3⟩ := subAgg_rel hs hr
        exact ⟨_, hexec a w b (s + off) _ hpt (run_loadVar_agg hty hA us h1 h2), by simpa only [relTV] using h3⟩
    · rename_i hA
      rw [hag] at hA
      cases hs : cs[off]? with
      | none => rw [hs] at h; simp at h
      | some p =>
        rw [hs] at h
        simp only [Option.bind_some] at h
        obtain ⟨h, hone⟩ := coeK_spec h
        simp only [ret4, Option.some.injEq, Prod.mk.injEq] at h
        obtain ⟨rfl, rfl, rfl, rfl⟩ := h
        refine opOk_pure fun a w S π hev hob => ?_
        obtain ⟨b, s, hpt, hr⟩ := key a w S π hev
        obtain ⟨u, hu1, hu2, hu3⟩ := relCs_get hr hs
        exact ⟨u, hexec a w b (s + off) _ hpt (run_loadVar_one hty (by simpa using hA) hu1), by simpa only [relTV] using hu3⟩
  · cases h

end
end Go.Proofs.YtgpjnppakffoiaaV
