/- The reading machine: operations, first part. -/
import Derived.ChangeKeysEq
import Derived.Test.YtpaifgipdhgfkaaGreatDoorVA
import Derived.WalkSpells
import Derived.Lib.SliceRun
import Derived.Laws.RangeString
set_option linter.unusedVariables false
set_option linter.unusedSimpArgs false

/- The reading machine's operations are told rightly: variables, loads, stores. -/
namespace Go.Proofs.YtpaifgipdhgfkaaGreatDoorV
open Go Go.RowKit

abbrev Res := TV × List (Nat × Ob) × List Ob × List Nat
def ret4 : K Res := fun v up nw rd => some (v, up, nw, rd)

section
variable {P : Program} {T : TypeId → Option TI} {look : Nat → Option Ob} {nx : Nat} {ev : Operand → Option TV} {o : Oper} {v : TV} {up : List (Nat × Ob)} {nw : List Ob} {rd : List Nat}

theorem move_ok {x : Operand} {tv : TV} (ho : o.op = .move x ∨ o.op = .assign x) (hx : ev x = some tv) (h : ret4 (fixNil T o.type tv) [] [] [] = some (v, up, nw, rd)) : OpOk P look nx ev o v up nw := by
  simp only [ret4, Option.some.injEq, Prod.mk.injEq] at h
  obtain ⟨rfl, rfl, rfl, rfl⟩ := h
  refine opOk_pure fun a w S π hev _ => ⟨a.eval x, ?_, fixNil_rel (hev x tv hx)⟩
  rcases ho with ho | ho <;> simp [execOp, ho]

theorem alloc_ok {t : TypeId} {i : TI} (hT : TOk P T) (ho : o.op = .alloc t) (hi : T t = some i) (h : ret4 (.ref nx 0) [] [.box i.zero] [] = some (v, up, nw, rd)) : OpOk P look nx ev o v up nw := by
  simp only [ret4, Option.some.injEq, Prod.mk.injEq] at h
  obtain ⟨rfl, rfl, rfl, rfl⟩ := h
  intro a w S π hev hob hf K Q hK
  obtain ⟨z, hz1, hz2, hz3, _⟩ := run_zeroValue (hT t i hi)
  have hr : (execOp a.eval o).run P w = .ok (.value (.pointer (some ⟨w.heap.size, 0, none⟩))) (w.alloc (.cells z.cells t)) := by
    simp [execOp, ho, Instr.alloc, hz3, newVar, newRow]
  obtain ⟨π', h1, h2, h3, h4, h5⟩ := obs_new (w' := w.alloc (.cells z.cells t)) (ob := .box i.zero) (c := .cells z.cells t) hob hf rfl rfl rfl rfl 0 0 0 0 (by
    intro π' hext hnx hkeep
    obtain ⟨r1, r2⟩ := zsOk_rel (w := w.alloc (.cells z.cells t)) (S := S) (π := π') hz2
    simp only [obOk]
    exact ⟨by trivial, z.cells, t, (0, 0), heap_alloc_new w _, .inl rfl, r2, r1⟩)
  unfold Oper.wp
  rw [hr]
  exact hK _ _ S _ ⟨by simp only [relTV]; exact ⟨_, _, _, _, _, h4, rfl⟩, h1, h2, h3, h5⟩

theorem cells_agg (cs : Array Value) : (Value.agg cs).cells = cs := rfl
theorem rel_agg {w : World} {S : Nat → Prop} {p : PV} {u : Value} {n : Nat} (h : rel w S p u) (hn : p.isAgg n = true) : ∃ cs us, p = .agg cs ∧ u = .agg us ∧ (∀ u ∈ us.toList, u.oneCell' = true) ∧ relL w S cs us.toList ∧ cs.length = n ∧ us.size = n := by
  cases p with
  | agg cs =>
    simp only [PV.isAgg, beq_iff_eq] at hn
    simp only [rel] at h
    obtain ⟨us, rfl, h1, hl⟩ := h
    exact ⟨cs, us, rfl, rfl, h1, hl, hn, by have := relL_length hl; simp at this; omega⟩
  | _ => simp only [PV.isAgg, Bool.false_eq_true] at hn


theorem oneCell_cells {v : Value} (h : v.oneCell' = true) : v.cells = #[v] := by cases v <;> first | rfl | cases h

theorem coeK_spec {R : Type} {t : TypeId} {c : PV} {k : PV → Option R} {r : R} (h : coeK T t c k = some r) : k c = some r ∧ (∀ i, T t = some i → i.desc.isAgg = false → c.one = true) := by
  unfold coeK at h
  split at h
  · rename_i h1
    cases c <;> simp only [PV.asI, Option.bind_none, reduceCtorEq] at h
    split at h
    · rename_i hk; subst hk; exact ⟨by simpa using h, fun _ _ _ => rfl⟩
    · simp at h
  · cases c <;> simp only [PV.asB, Option.bind_none, Option.bind_some, reduceCtorEq] at h
    exact ⟨h, fun _ _ _ => rfl⟩
  · cases c <;> simp only [PV.asS, Option.bind_none, Option.bind_some, reduceCtorEq] at h
    exact ⟨h, fun _ _ _ => rfl⟩
  · cases c <;> simp only [PV.asFs, Option.bind_none, Option.bind_some, reduceCtorEq] at h
    exact ⟨h, fun _ _ _ => rfl⟩
  · rename_i h1
    exact ⟨h, fun i hi hd => by rw [h1] at hi; cases hi; cases hd⟩
  · rename_i h1
    exact ⟨h, fun i hi hd => by rw [h1] at hi; cases hi; cases hd⟩
  · rename_i h1
    exact ⟨h, fun i hi _ => by rw [h1] at hi; cases hi⟩
  · split at h
    · rename_i h1; exact ⟨h, fun _ _ _ => h1⟩
    · cases h

theorem allSome_vals {w : World} {S : Nat → Prop} {π : Nat → Option Pl} : ∀ {cs : List TV} {ps : List PV} {us : List Value},
    allSome (cs.map fun c => match c with | .val p => some p | _ => none) = some ps → relTVs w S π cs us → relL w S ps us
  | [], ps, us, h, hr => by
    simp only [List.map_nil, allSome, Option.some.injEq] at h
    subst h
    simpa only [relTVs, relL] using hr
  | c :: cs, ps, us, h, hr => by
    simp only [relTVs] at hr
    obtain ⟨u, us', rfl, h1, h2⟩ := hr
    cases c <;> simp only [List.map_cons, allSome, reduceCtorEq] at h
    rename_i p
    split at h
    · rename_i r hr'
      simp only [Option.some.injEq] at h
      subst h
      simp only [relL]
      exact ⟨u, us', rfl, by simpa only [relTV] using h1, allSome_vals hr' h2⟩
    · cases h

theorem packTV_rel {w : World} {S : Nat → Prop} {π : Nat → Option Pl} {cs : List TV} {us : List Value} (h : relTVs w S π cs us) (h1 : ∀ u ∈ us, u.oneCell' = true) : relTV w S π (packTV cs) (.agg us.toArray) := by
  unfold packTV
  split
  · rename_i ps hp
    simp only [relTV, rel]
    exact ⟨us.toArray, rfl, h1, allSome_vals hp h⟩
  · simp only [relTV]
    exact ⟨us.toArray, rfl, h1, h⟩

theorem tcells_rel {w : World} {S : Nat → Prop} {π : Nat → Option Pl} {n : Nat} {x : TV} {ds : List TV} {u : Value} (h : tcells n x = some ds) (hr : relTV w S π x u) :
    ∃ us, u = .agg us ∧ us.size = n ∧ (∀ u ∈ us.toList, u.oneCell' = true) ∧ relTVs w S π ds us.toList := by
  unfold tcells at h
  split at h
  · split at h
    · rename_i hl
      cases h
      simp only [relTV] at hr
      obtain ⟨us, rfl, h1, h2⟩ := hr
      exact ⟨us, rfl, by have := relTVs_length h2; simp at this; omega, h1, h2⟩
    · cases h
  · split at h
    · rename_i hp
      cases h
      simp only [relTV] at hr
      obtain ⟨cs, us, rfl, rfl, h1, h2, h3, h4⟩ := rel_agg hr hp
      exact ⟨us, rfl, h4, h1, relTVs_vals h2⟩
    · cases h
  · cases h

theorem box_ok {t : TypeId} {x : Operand} {tv : TV} {ob : Ob} (hT : TOk P T) (ho : o.op = .box t x) (hx : ev x = some tv) (hb : boxOb T t tv = some ob) (ht : (T t).isSome = true)
    (h : ret4 (.ref nx 0) [] [ob] [] = some (v, up, nw, rd)) : OpOk P look nx ev o v up nw := by
  simp only [ret4, Option.some.injEq, Prod.mk.injEq] at h
  obtain ⟨rfl, rfl, rfl, rfl⟩ := h
  intro a w S π hev hob hf K Q hK
  have hv := hev x tv hx
  obtain ⟨i, hi⟩ := Option.isSome_iff_exists.1 ht
  have hr : (execOp a.eval o).run P w = .ok (.value (.pointer (some ⟨w.heap.size, 0, none⟩))) (w.alloc (.cells (a.eval x).cells t)) := by
    simp [execOp, ho, Instr.box, newVar, newRow]
  obtain ⟨π', h1, h2, h3, h4, h5⟩ := obs_new (w' := w.alloc (.cells (a.eval x).cells t)) (ob := ob) (c := .cells (a.eval x).cells t) hob hf rfl rfl rfl rfl 0 0 0 0 (by
    intro π' hext hnx hkeep
    have hv' := relTV_keep hkeep hext tv _ hv
    unfold boxOb at hb
    split at hb
    · split at hb
      · split at hb
        · rename_i p _ hp
          cases hb
          simp only [relTV] at hv'
          obtain ⟨cs, us, rfl, hu, g1, g2, g3, g4⟩ := rel_agg hv' hp
          have hc : (a.eval x).cells = us := by rw [hu]; rfl
          have hc' : a.eval x = .agg (a.eval x).cells := by rw [hc]; exact hu
          simp only [obOk]
          refine ⟨by trivial, (a.eval x).cells, t, (0, 0), heap_alloc_new w _, .inl rfl, ?_, by rw [hc]; exact g4, hp, ?_⟩
          · rw [hc]; exact g1
          · rw [← hc']; exact hv'
        · cases hb
      · rename_i cs _
        split at hb
        · rename_i hlen
          cases hb
          simp only [relTV] at hv'
          obtain ⟨us, hu, g1, g2⟩ := hv'
          have hc : us = (a.eval x).cells := by rw [hu]; rfl
          simp only [obOk]
          subst hc
          exact ⟨by trivial, (a.eval x).cells, t, (0, 0), heap_alloc_new w _, .inl rfl, g1, g2⟩
        · cases hb
      · cases hb
    · split at hb
      · rename_i hone
        cases hb
        have g1 := relTV_one hv' hone
        simp only [obOk]
        refine ⟨by trivial, (a.eval x).cells, t, (0, 0), heap_alloc_new w _, .inl rfl, ?_, ?_⟩
        · rw [oneCell_cells g1]; intro u hu; simp at hu; subst hu; exact g1
        · have hc : (a.eval x).cells.toList = [a.eval x] := by rw [oneCell_cells g1]
          rw [hc]
          simp only [relTVs]
          exact ⟨_, _, rfl, fixNil_rel hv', rfl⟩
      · cases hb)
  unfold Oper.wp
  rw [hr]
  exact hK _ _ S _ ⟨by simp only [relTV]; exact ⟨_, _, _, _, _, h4, rfl⟩, h1, h2, h3, h5⟩

theorem subAgg_rel {w : World} {S : Nat → Prop} {b o' off n : Nat} {e : List PV} {p : PV} (hs : subAgg e off n = some p) (h : relCs w S b o' e) :
    ∃ us : List Value, us.length = n ∧ (∀ (j : Nat) (u : Value), us[j]? = some u → w.cell? ⟨b, o' + off + j, none⟩ = some u) ∧ rel w S p (.agg us.toArray) := by
  unfold subAgg at hs
  split at hs
  · rename_i hle
    cases hs
    have hd : relEs w S b (o' + off) n [(e.drop off).take n] := by
      simp only [relEs]
      refine ⟨by simp; omega, relCs_of fun i q hq => ?_, True.intro⟩
      rw [List.getElem?_take] at hq
      split at hq
      · rw [List.getElem?_drop] at hq
        have := relCs_get h hq
        rwa [show o' + (off + i) = o' + off + i by omega] at this
      · cases hq
    obtain ⟨us, h1, h2, h3, h4⟩ := relEs_flat hd
    refine ⟨us, by simpa using h1, h2, ?_⟩
    simp only [rel]
    exact ⟨us.toArray, rfl, h3, by simpa using h4⟩
  · cases hs

theorem load_ok {t : TypeId} {x : Operand} {tv : TV} (hT : TOk P T) (ho : o.op = .load t x) (hx : ev x = some tv) (ht : (T t).isSome = true)
    (h : loadK T look t tv ret4 = some (v, up, nw, rd)) : OpOk P look nx ev o v up nw := by
  obtain ⟨i, hi⟩ := Option.isSome_iff_exists.1 ht
  have hty := hT t i hi
  have hag := isAggT_eq hi
  have hsz := tsize_eq hi
  have hexec : ∀ (a : Act) (w : World) (b o' : Nat) (u : Value), a.eval x = .pointer (some ⟨b, o', none⟩) → (loadVar t ⟨b, o', none⟩).run P w = .ok u w → (execOp a.eval o).run P w = .ok (.value u) w := by
    intro a w b o' u he hr
    simp [execOp, ho, Instr.loadAt, he, Instr.sureAddr, hr]
  unfold loadK at h
  split at h
  · rename_i id off
    split at h
    · rename_i cs hl
      split at h
      · rename_i hA
        rw [hag] at hA
        rw [hsz] at h
        split at h
        · rename_i hle
          simp only [ret4, Option.some.injEq, Prod.mk.injEq] at h
          obtain ⟨rfl, rfl, rfl, rfl⟩ := h
          refine opOk_pure fun a w S π hev hob => ?_
          have hv := hev x _ hx
          simp only [relTV] at hv
          obtain ⟨b, s, c, z, l, hp, he⟩ := hv
          obtain ⟨pl, hp', hk⟩ := hob.ok id _ hl
          rw [hp] at hp'; cases hp'
          simp only [obOk] at hk
          obtain ⟨rfl, C, t', fr, hg, hu, h1, hr⟩ := hk
          have hlen := relTVs_length hr
          refine ⟨_, hexec a w b (0 + off) _ he (run_loadVar_agg hty hA ((C.toList.drop off).take i.size) ?_ ?_), packTV_rel (relTVs_take (relTVs_drop hr off) _) ?_⟩
          · simp at hlen ⊢; omega
          · intro j u hj
            rw [List.getElem?_take] at hj
            split at hj
            · rw [List.getElem?_drop] at hj
              rw [cell_of_row w b _ C t' fr hg]
              simpa using hj
            · cases hj
          · intro u hu
            exact h1 u (List.mem_of_mem_drop (List.mem_of_mem_take hu))
        · cases h
      · rename_i hA
        rw [hag] at hA
        split at h
        · rename_i c hc
          simp only [ret4, Option.some.injEq, Prod.mk.injEq] at h
          obtain ⟨rfl, rfl, rfl, rfl⟩ := h
          refine opOk_pure fun a w S π hev hob => ?_
          have hv := hev x _ hx
          simp only [relTV] at hv
          obtain ⟨b, s, c', z, l, hp, he⟩ := hv
          obtain ⟨pl, hp', hk⟩ := hob.ok id _ hl
          rw [hp] at hp'; cases hp'
          simp only [obOk] at hk
          obtain ⟨rfl, C, t', fr, hg, hu, h1, hr⟩ := hk
          obtain ⟨u, hu1, hu2⟩ := relTVs_get hr hc
          refine ⟨u, hexec a w b (0 + off) _ he (run_loadVar_one hty (by simpa using hA) ?_), hu2⟩
          rw [cell_of_row w b _ C t' fr hg]
          simpa using hu1
        · cases h
    · rename_i p n hl
      split at h
      · rename_i hA
        rw [hag] at hA
        rw [hsz] at h
        have key : off + i.size ≤ n → (∀ (a : Act) (w : World) (S : Nat → Prop) (π : Nat → Option Pl), evOk ev a w S π → ObsOk w S π look →
            ∃ (cs : List PV) (C : Array Value), p = .agg cs ∧ C.size = n ∧ (∀ u ∈ C.toList, u.oneCell' = true) ∧ relL w S cs C.toList ∧ (execOp a.eval o).run P w = .ok (.value (.agg ((C.toList.drop off).take i.size).toArray)) w) := by
          intro hle a w S π hev hob
          have hv := hev x _ hx
          simp only [relTV] at hv
          obtain ⟨b, s, c', z, l, hp, he⟩ := hv
          obtain ⟨pl, hp', hk⟩ := hob.ok id _ hl
          rw [hp] at hp'; cases hp'
          simp only [obOk] at hk
          obtain ⟨rfl, C, t', fr, hg, hu, h1, hn, hpa, hr⟩ := hk
          obtain ⟨cs, us, rfl, hus, g1, g2, g3, g4⟩ := rel_agg hr hpa
          cases hus
          refine ⟨cs, C, rfl, hn, g1, g2, hexec a w b (0 + off) _ he (run_loadVar_agg hty hA _ ?_ ?_)⟩
          · simp; omega
          · intro j u hj
            rw [List.getElem?_take] at hj
            split at hj
            · rw [List.getElem?_drop] at hj
              rw [cell_of_row w b _ C t' fr hg]
              simpa using hj
            · cases hj
        split at h
        · rename_i hc
          simp only [ret4, Option.some.injEq, Prod.mk.injEq] at h
          obtain ⟨rfl, rfl, rfl, rfl⟩ := h
          refine opOk_pure fun a w S π hev hob => ?_
          obtain ⟨cs, C, hp, hn, g1, g2, hx'⟩ := key (by omega) a w S π hev hob
          refine ⟨_, hx', ?_⟩
          have : (List.take i.size (List.drop off C.toList)) = C.toList := by
            rw [hc.1, List.drop_zero, List.take_of_length_le (by simp; omega)]
          rw [this, hp]
          simp only [relTV, rel]
          exact ⟨_, rfl, by simpa using g1, by simpa using g2⟩
        · split at h
          · rename_i hc hle
            simp only [ret4, Option.some.injEq, Prod.mk.injEq] at h
            obtain ⟨rfl, rfl, rfl, rfl⟩ := h
            refine opOk_pure fun a w S π hev hob => ?_
            obtain ⟨cs, C, hp, hn, g1, g2, hx'⟩ := key hle a w S π hev hob
            refine ⟨_, hx', ?_⟩
            rw [hp]
            simp only [relTV, PV.sub, PV.cells, rel]
            exact ⟨_, rfl, fun u hu => g1 u (List.mem_of_mem_drop (List.mem_of_mem_take hu)), relL_take (relL_drop g2 off) _⟩
          · cases h
      · rename_i hA
        rw [hag] at hA
        cases hc : p.cell off with
        | none => rw [hc] at h; simp at h
        | some c =>
          rw [hc] at h
          simp only [Option.bind_some] at h
          obtain ⟨h, hone⟩ := coeK_spec h
          simp only [ret4, Option.some.injEq, Prod.mk.injEq] at h
          obtain ⟨rfl, rfl, rfl, rfl⟩ := h
          refine opOk_pure fun a w S π hev hob => ?_
          have hv := hev x _ hx
          simp only [relTV] at hv
          obtain ⟨b, s, c', z, l, hp, he⟩ := hv
          obtain ⟨pl, hp', hk⟩ := hob.ok id _ hl
          rw [hp] at hp'; cases hp'
          simp only [obOk] at hk
          obtain ⟨rfl, C, t', fr, hg, hu, h1, hn, hpa, hr⟩ := hk
          obtain ⟨cs, us, rfl, hus, g1, g2, g3, g4⟩ := rel_agg hr hpa
          cases hus
          obtain ⟨u, hu1, hu2⟩ := relL_get g2 (show cs[off]? = some c from hc)
          refine ⟨u, hexec a w b (0 + off) _ he (run_loadVar_one hty (by simpa using hA) ?_), by simpa only [relTV] using hu2⟩
          rw [cell_of_row w b _ C t' fr hg]
          simpa using hu1
    · cases h
  · rename_i id m j
    split at h
    · rename_i es sz hl
      have key : ∀ e, es[m]? = some e → ∀ (a : Act) (w : World) (S : Nat → Prop) (π : Nat → Option Pl), evOk ev a w S π → ObsOk w S π look →
          ∃ b s, a.eval x = .pointer (some ⟨b, s + j, none⟩) ∧ relCs w S b s e := by
        intro e he a w S π hev hob
        have hv := hev x _ hx
        simp only [relTV] at hv
        obtain ⟨b, s, c', z, l, hp, hpt⟩ := hv
        obtain ⟨pl, hp', hk⟩ := hob.ok id _ hl
        rw [hp] at hp'; cases hp'
        simp only [obOk] at hk
        obtain ⟨rfl, rfl, h2, h3, C, t', fr, hg, hu, h1, hsz', hr⟩ := hk
        exact ⟨b, s + m * z, hpt, (relEs_get hr he).2⟩
      split at h
      · rename_i hA
        rw [hag] at hA
        rw [hsz] at h
        cases hc : es[m]? with
        | none => rw [hc] at h; simp at h
        | some e =>
          rw [hc] at h
          simp only [Option.bind_some] at h
          cases hs : subAgg e j i.size with
          | none => rw [hs] at h; simp at h
          | some p =>
            rw [hs] at h
            simp only [Option.bind_some, ret4, Option.some.injEq, Prod.mk.injEq] at h
            obtain ⟨rfl, rfl, rfl, rfl⟩ := h
            refine opOk_pure fun a w S π hev hob => ?_
            obtain ⟨b, s, hpt, hr⟩ := key e hc a w S π hev hob
            obtain ⟨us, h1, h2, h3⟩ := subAgg_rel hs hr
            exact ⟨_, hexec a w b (s + j) _ hpt (run_loadVar_agg hty hA us h1 h2), by simpa only [relTV] using h3⟩
      · rename_i hA
        rw [hag] at hA
        cases hc : es[m]? with
        | none => rw [hc] at h; simp at h
        | some e =>
          rw [hc] at h
          simp only [Option.bind_some] at h
          cases hs : e[j]? with
          | none => rw [hs] at h; simp at h
          | some p =>
            rw [hs] at h
            simp only [Option.bind_some] at h
            obtain ⟨h, hone⟩ := coeK_spec h
            simp only [ret4, Option.some.injEq, Prod.mk.injEq] at h
            obtain ⟨rfl, rfl, rfl, rfl⟩ := h
            refine opOk_pure fun a w S π hev hob => ?_
            obtain ⟨b, s, hpt, hr⟩ := key e hc a w S π hev hob
            obtain ⟨u, hu1, hu2, hu3⟩ := relCs_get hr hs
            exact ⟨u, hexec a w b (s + j) _ hpt (run_loadVar_one hty (by simpa using hA) hu1), by simpa only [relTV] using hu3⟩
    · cases h
  · rename_i cs off
    have key : ∀ (a : Act) (w : World) (S : Nat → Prop) (π : Nat → Option Pl), evOk ev a w S π →
        ∃ b s, a.eval x = .pointer (some ⟨b, s + off, none⟩) ∧ relCs w S b s cs := by
      intro a w S π hev
      have hv := hev x _ hx
      simp only [relTV, rel] at hv
      obtain ⟨b, s, hpt, hS, hr⟩ := hv
      exact ⟨b, s, hpt, hr⟩
    split at h
    · rename_i hA
      rw [hag] at hA
      rw [hsz] at h
      cases hs : subAgg cs off i.size with
      | none => rw [hs] at h; simp at h
      | some p =>
        rw [hs] at h
        simp only [Option.bind_some, ret4, Option.some.injEq, Prod.mk.injEq] at h
        obtain ⟨rfl, rfl, rfl, rfl⟩ := h
        refine opOk_pure fun a w S π hev hob => ?_
        obtain ⟨b, s, hpt, hr⟩ := key a w S π hev
        obtain ⟨us, h1, h2, h3⟩ := subAgg_rel hs hr
        exact ⟨_, hexec a w b (s + off) _ hpt (run_loadVar_agg hty hA us h1 h2), by simpa only [relTV] using h3⟩
    · rename_i hA
      rw [hag] at hA
      cases hs : cs[off]? with
      | none => rw [hs] at h; simp at h
      | some p =>
        rw [hs] at h
        simp only [Option.bind_some] at h
        obtain ⟨h, hone⟩ := coeK_spec h
        simp only [ret4, Option.some.injEq, Prod.mk.injEq] at h
        obtain ⟨rfl, rfl, rfl, rfl⟩ := h
        refine opOk_pure fun a w S π hev hob => ?_
        obtain ⟨b, s, hpt, hr⟩ := key a w S π hev
        obtain ⟨u, hu1, hu2, hu3⟩ := relCs_get hr hs
        exact ⟨u, hexec a w b (s + off) _ hpt (run_loadVar_one hty (by simpa using hA) hu1), by simpa only [relTV] using hu3⟩
  · cases h

/-- What is read of data is the same in each world in which that memory is as it was. -/
theorem load_held {t : TypeId} {x : Operand} {cs : List PV} {off : Nat} (hT : TOk P T) (ho : o.op = .load t x) (hx : ev x = some (.val (.rp cs off))) (ht : (T t).isSome = true)
    (h : loadK T look t (.val (.rp cs off)) ret4 = some (v, up, nw, rd)) {a : Act} {w : World} {S : Nat → Prop} {π : Nat → Option Pl} (hev : evOk ev a w S π) :
    ∃ u, ∀ w', (∀ b, S b → w'.heap[b]? = w.heap[b]?) → (execOp a.eval o).run P w' = .ok (.value u) w' := by
  obtain ⟨i, hi⟩ := Option.isSome_iff_exists.1 ht
  have hty := hT t i hi
  have hag := isAggT_eq hi
  have hsz := tsize_eq hi
  have hexec : ∀ (w : World) (b o' : Nat) (u : Value), a.eval x = .pointer (some ⟨b, o', none⟩) → (loadVar t ⟨b, o', none⟩).run P w = .ok u w → (execOp a.eval o).run P w = .ok (.value u) w := by
    intro w b o' u he hr
    simp [execOp, ho, Instr.loadAt, he, Instr.sureAddr, hr]
  have hv := hev x _ hx
  simp only [relTV, rel] at hv
  obtain ⟨b, s, hpt, hS, hr⟩ := hv
  unfold loadK at h
  simp only at h
  split at h
  · rename_i hA
    rw [hag] at hA
    rw [hsz] at h
    cases hs : subAgg cs off i.size with
    | none => rw [hs] at h; simp at h
    | some p =>
      obtain ⟨us, h1, h2, h3⟩ := subAgg_rel hs hr
      exact ⟨_, fun w' hw => hexec w' b (s + off) _ hpt (run_loadVar_agg hty hA us h1 fun j u hj => (cell_same (hw b hS)).trans (h2 j u hj))⟩
  · rename_i hA
    rw [hag] at hA
    cases hs : cs[off]? with
    | none => rw [hs] at h; simp at h
    | some p =>
      obtain ⟨u, hu1, hu2, hu3⟩ := relCs_get hr hs
      exact ⟨u, fun w' hw => hexec w' b (s + off) _ hpt (run_loadVar_one hty (by simpa using hA) ((cell_same (hw b hS)).trans hu1))⟩

end
end Go.Proofs.YtpaifgipdhgfkaaGreatDoorV

/- The reading machine's operations are told rightly: stores. -/
namespace Go.Proofs.YtpaifgipdhgfkaaGreatDoorV
open Go Go.RowKit

section
variable {P : Program} {T : TypeId → Option TI} {look : Nat → Option Ob} {nx : Nat} {ev : Operand → Option TV} {o : Oper} {v : TV} {up : List (Nat × Ob)} {nw : List Ob} {rd : List Nat}

theorem toList_of_size {C D : Array Value} (h : C.toList = D.toList) : C = D := Array.ext' h

theorem run_storeVar_one {t : TypeId} {i : TI} (h : TyOk P t i) (hd : i.desc.isAgg = false) {w : World} {b o' : Nat} {C : Array Value} {t' : TypeId} {fr : Nat × Nat} {u : Value} (hg : w.heap[b]? = some (.cells C t' fr)) (hf : unfrozen C fr) (hi : o' < C.size) (hu : u.oneCell' = true) :
    (storeVar t ⟨b, o', none⟩ u).run P w = .ok () (w.setCell ⟨b, o', none⟩ u) := by
  have h1 := h.one hd
  simp only [storeVar, Sem.run_bind, run_sizeOf h, Result.andThen_ok, oneCell_cells hu, List.size_toArray, List.length_cons, List.length_nil, h1]
  have e : ({ block := b, off := o' } : Addr).add 0 = ⟨b, o', none⟩ := Addr.add_lit b o' 0
  simp only [storeCells, ne_eq, not_true_eq_false, if_false, Sem.run_pure, Result.andThen_ok, e, Sem.run_bind, run_store_at hg hf hi hu]

theorem run_storeVar_agg {t : TypeId} {i : TI} (h : TyOk P t i) {w : World} {b o' : Nat} {C : Array Value} {t' : TypeId} {fr : Nat × Nat} {us : Array Value} (hg : w.heap[b]? = some (.cells C t' fr)) (hf : unfrozen C fr) (hi : o' + us.size ≤ C.size) (hn : us.size = i.size) (h1 : ∀ u ∈ us.toList, u.oneCell' = true) :
    ∃ w' C', (storeVar t ⟨b, o', none⟩ (.agg us)).run P w = .ok () w' ∧ Upd w b (.cells C' t' fr) w' ∧ C'.size = C.size ∧ C'.toList = C.toList.take o' ++ us.toList ++ C.toList.drop (o' + us.size) := by
  obtain ⟨w', C', hr, hu, hs, hc⟩ := run_storeCells_blk (P := P) (o := o') us.toList 0 C w hg hf (by simpa using hi) h1
  refine ⟨w', C', ?_, hu, hs, by simpa using hc⟩
  simp only [storeVar, Sem.run_bind, run_sizeOf h, Result.andThen_ok, cells_agg, hn]
  simpa using hr

theorem unfrozen_size {C C' : Array Value} {fr : Nat × Nat} (h : unfrozen C fr) (hs : C'.size = C.size) : unfrozen C' fr := by
  exact h.imp id fun h => by rw [hs]; exact h

theorem store_turn {t : TypeId} {x y : Operand} {id : Nat} {ob ob' : Ob} (ho : o.op = .store t x y) (hl : look id = some ob) (hlive : ob.live = true) (hlive' : ob'.live = true)
    (hrun : ∀ a w S π, evOk ev a w S π → ObsOk w S π look → ∃ b s c z l w' C, π id = some (.at b s c z l) ∧ (Instr.storeAt t (a.eval x) (a.eval y)).run P w = .ok () w' ∧ Upd w b C w' ∧
      (Keep w S w' S → obOk w' S π ob' (.at b s c z l))) : OpOk P look nx ev o .undef [(id, ob')] [] := by
  intro a w S π hev hob hf K Q hK
  obtain ⟨b, s, c, z, l, w', C, hp, hr, hu, hk⟩ := hrun a w S π hev hob
  have he : (execOp a.eval o).run P w = .ok .skip w' := by simp [execOp, ho, hr]
  obtain ⟨h1, h2⟩ := obs_turn (nx := nx) hob hl hlive hlive' hp hu hk
  unfold Oper.wp
  rw [he]
  exact hK undef w' S π ⟨by simp only [relTV], h1, Ext.refl _, fun _ h => .inl h, h2⟩

theorem rel_set_cells {w : World} {S : Nat → Prop} {cs : List PV} {us : List Value} {off n : Nat} {ds : List PV} {vs : List Value} (h : relL w S cs us) (hd : relL w S ds vs) :
    relL w S (cs.take off ++ ds ++ cs.drop (off + n)) (us.take off ++ vs ++ us.drop (off + n)) :=
  relL_append (relL_append (relL_take h off) hd) (relL_drop h (off + n))

theorem toPV_rel {w : World} {S : Nat → Prop} {π : Nat → Option Pl} {tv : TV} {q : PV} {u : Value} (h : toPV tv = some q) (hr : relTV w S π tv u) : rel w S q u := by
  unfold toPV at h
  split at h
  · cases h; simpa only [relTV] using hr
  · cases h
    simp only [relTV] at hr
    subst hr
    simp only [rel]
    exact .inl ⟨⟨_, rfl⟩, trivial⟩
  · rename_i cs
    split at h
    · rename_i ps hps
      cases h
      simp only [relTV] at hr
      obtain ⟨us, rfl, h1, h2⟩ := hr
      simp only [rel]
      refine ⟨us, rfl, h1, ?_⟩
      clear h1
      generalize us.toList = l at h2
      induction cs generalizing ps l with
      | nil =>
        simp only [List.map_nil, allSome, Option.some.injEq] at hps
        subst hps
        simpa only [relTVs, relL] using h2
      | cons c cs ih =>
        simp only [relTVs] at h2
        obtain ⟨u, us', rfl, g1, g2⟩ := h2
        cases c
        case val p =>
          simp only [List.map_cons, allSome] at hps
          split at hps
          · rename_i r hr'
            cases hps
            simp only [relL]
            exact ⟨u, us', rfl, by simpa only [relTV] using g1, ih r hr' us' g2⟩
          · cases hps
        case nil sz =>
          simp only [List.map_cons, allSome] at hps
          split at hps
          · rename_i r hr'
            cases hps
            simp only [relTV] at g1
            subst g1
            simp only [relL]
            exact ⟨_, us', rfl, by simp only [rel]; exact .inl ⟨⟨_, rfl⟩, trivial⟩, ih r hr' us' g2⟩
          · cases hps
        all_goals (simp only [List.map_cons, allSome] at hps; cases hps)
    · cases h
  · cases h

/-- One element of a row turns. -/
theorem relEs_set {w : World} {S : Nat → Prop} {b s sz m : Nat} {es : List (List PV)} {e' : List PV} (h : relEs w S b s sz es) (hl : e'.length = sz) (he : relCs w S b (s + m * sz) e') : relEs w S b s sz (es.set m e') :=
  relEs_of fun i e hi => by
    rw [List.getElem?_set] at hi
    split at hi
    · rename_i hmi
      subst hmi
      split at hi
      · cases hi; exact ⟨hl, he⟩
      · cases hi
    · exact relEs_get h hi

/-- What a block's cells read as, when some others of its cells have turned. -/
theorem relCs_other {w w' : World} {S : Nat → Prop} {b o' : Nat} {cs : List PV} (hk : Keep w S w' S) (hc : ∀ i, i < cs.length → w'.cell? ⟨b, o' + i, none⟩ = w.cell? ⟨b, o' + i, none⟩) (h : relCs w S b o' cs) : relCs w' S b o' cs :=
  relCs_of fun i p hp => by
    obtain ⟨u, h1, h2, h3⟩ := relCs_get h hp
    exact ⟨u, (hc i (by have := List.getElem?_eq_some_iff.1 hp; exact this.1)).trans h1, h2, rel_keep hk _ _ h3⟩

theorem cell_upd {w w' : World} {b : Nat} {C : Array Value} {t : TypeId} {fr : Nat × Nat} (h : Upd w b (.cells C t fr) w') (i : Nat) : w'.cell? ⟨b, i, none⟩ = C[i]? := cell_of_row w' b i C t fr h.here

theorem relEs_turn {w w' : World} {S : Nat → Prop} {b s sz : Nat} {C C' : Array Value} {t : TypeId} {fr fr' : Nat × Nat} {es : List (List PV)} {m : Nat} {e' : List PV} (hk : Keep w S w' S) (hg : w.heap[b]? = some (.cells C t fr))
    (hu : Upd w b (.cells C' t fr') w') (hsame : ∀ i, ¬ (s + m * sz ≤ i ∧ i < s + m * sz + sz) → C'[i]? = C[i]?) (h : relEs w S b s sz es) (hl : e'.length = sz) (he : relCs w' S b (s + m * sz) e') : relEs w' S b s sz (es.set m e') := by
  refine relEs_of fun i e hi => ?_
  rw [List.getElem?_set] at hi
  split at hi
  · rename_i hmi
    subst hmi
    split at hi
    · cases hi; exact ⟨hl, he⟩
    · cases hi
  · rename_i hne
    obtain ⟨h1, h2⟩ := relEs_get h hi
    refine ⟨h1, relCs_other hk (fun j hj => ?_) h2⟩
    rw [cell_upd hu, cell_of_row w b _ C t fr hg]
    refine hsame _ fun hh => hne ?_
    rw [h1] at hj
    have a1 : m * sz < (i + 1) * sz := by rw [Nat.add_mul]; omega
    have a2 : i * sz < (m + 1) * sz := by rw [Nat.add_mul]; omega
    have b1 := Nat.lt_of_mul_lt_mul_right a1
    have b2 := Nat.lt_of_mul_lt_mul_right a2
    omega

theorem store_ok {t : TypeId} {x y : Operand} {tv yv : TV} (hT : TOk P T) (ho : o.op = .store t x y) (hx : ev x = some tv) (hy : ∀ a w S π, evOk ev a w S π → relTV w S π yv (a.eval y)) (ht : (T t).isSome = true)
    (h : storeK T look t tv yv ret4 = some (v, up, nw, rd)) : OpOk P look nx ev o v up nw := by
  obtain ⟨i, hi⟩ := Option.isSome_iff_exists.1 ht
  have hty := hT t i hi
  have hag := isAggT_eq hi
  have hsz := tsize_eq hi
  have hexec : ∀ (a : Act) (w : World) (b o' : Nat), a.eval x = .pointer (some ⟨b, o', none⟩) → (Instr.storeAt t (a.eval x) (a.eval y)).run P w = (storeVar t ⟨b, o', none⟩ (a.eval y)).run P w := by
    intro a w b o' he
    simp [Instr.storeAt, he, Instr.sureAddr]
  unfold storeK at h
  split at h
  · rename_i id off
    split at h
    · rename_i cs hl
      split at h
      · rename_i hA
        rw [hag] at hA
        rw [hsz] at h
        split at h
        · rename_i hle
          split at h
          · rename_i q hwh
            split at h
            case isFalse => cases h
            rename_i hq
            simp only [ret4, Option.some.injEq, Prod.mk.injEq] at h
            obtain ⟨rfl, rfl, rfl, rfl⟩ := h
            have hw2 : yv = .val q ∧ off = 0 ∧ i.size = cs.length := by
              unfold whole at hwh
              split at hwh
              · split at hwh
                · rename_i hh; cases hwh; exact ⟨rfl, hh⟩
                · cases hwh
              · cases hwh
            obtain ⟨rfl, rfl, hcl⟩ := hw2
            refine store_turn ho hl rfl rfl fun a w S π hev hob => ?_
            have hv := hev x _ hx
            simp only [relTV] at hv
            obtain ⟨b, s, c, z, l, hp, he⟩ := hv
            obtain ⟨pl, hp', hk⟩ := hob.ok id _ hl
            rw [hp] at hp'; cases hp'
            simp only [obOk] at hk
            obtain ⟨rfl, C, t', fr, hg, hu, h1, hr⟩ := hk
            have hlen := relTVs_length hr
            have hyr := hy a w S π hev
            simp only [relTV] at hyr
            obtain ⟨ds, us, rfl, hyu, k1, k2, k3, k4⟩ := rel_agg hyr hq
            obtain ⟨w', C', hr', hu', hs', hc'⟩ := run_storeVar_agg hty (o' := 0 + 0) (us := us) hg hu (by simp at hlen; omega) (by omega) k1
            refine ⟨b, 0, c, z, l, w', _, hp, ?_, hu', ?_⟩
            · rw [hexec a w b _ he, hyu]; exact hr'
            · intro hkeep
              have hC : C' = us := by
                refine toList_of_size ?_
                rw [hc']
                simp only [Nat.add_zero, List.take_zero, List.nil_append]
                rw [List.drop_of_length_le (by omega)]
                simp
              simp only [obOk]
              subst hC
              refine ⟨trivial, C', t', fr, hu'.here, unfrozen_size hu hs', k1, by omega, hq, rel_keep hkeep _ _ ?_⟩
              simp only [rel]
              exact ⟨C', rfl, k1, k2⟩
          split at h
          · rename_i ds hds
            simp only [ret4, Option.some.injEq, Prod.mk.injEq] at h
            obtain ⟨rfl, rfl, rfl, rfl⟩ := h
            refine store_turn ho hl rfl rfl fun a w S π hev hob => ?_
            have hv := hev x _ hx
            simp only [relTV] at hv
            obtain ⟨b, s, c, z, l, hp, he⟩ := hv
            obtain ⟨pl, hp', hk⟩ := hob.ok id _ hl
            rw [hp] at hp'; cases hp'
            simp only [obOk] at hk
            obtain ⟨rfl, C, t', fr, hg, hu, h1, hr⟩ := hk
            obtain ⟨us, hy1, hy2, hy3, hy4⟩ := tcells_rel hds (hy a w S π hev)
            have hlen := relTVs_length hr
            obtain ⟨w', C', hr', hu', hs', hc'⟩ := run_storeVar_agg hty (o' := 0 + off) hg hu (by simp at hlen; omega) hy2 hy3
            refine ⟨b, 0, c, z, l, w', _, hp, ?_, hu', ?_⟩
            · rw [hexec a w b _ he, hy1]; exact hr'
            · intro hkeep
              simp only [obOk]
              refine ⟨trivial, C', t', fr, hu'.here, unfrozen_size hu hs', ?_, ?_⟩
              · intro u hu
                rw [hc'] at hu
                simp only [List.mem_append] at hu
                rcases hu with (hu | hu) | hu
                · exact h1 u (List.mem_of_mem_take hu)
                · exact hy3 u hu
                · exact h1 u (List.mem_of_mem_drop hu)
              · rw [hc']
                have := relTVs_keep hkeep (Ext.refl π) _ _ (relTVs_append (relTVs_append (relTVs_take hr off) hy4) (relTVs_drop hr (off + i.size)))
                simpa [hy2] using this
          · cases h
        · cases h
      · rename_i hA
        rw [hag] at hA
        split at h
        · rename_i hle
          simp only [ret4, Option.some.injEq, Prod.mk.injEq] at h
          obtain ⟨rfl, rfl, rfl, rfl⟩ := h
          refine store_turn ho hl rfl rfl fun a w S π hev hob => ?_
          have hv := hev x _ hx
          simp only [relTV] at hv
          obtain ⟨b, s, c, z, l, hp, he⟩ := hv
          obtain ⟨pl, hp', hk⟩ := hob.ok id _ hl
          rw [hp] at hp'; cases hp'
          simp only [obOk] at hk
          obtain ⟨rfl, C, t', fr, hg, hu, h1, hr⟩ := hk
          have hlen := relTVs_length hr
          have hyr := hy a w S π hev
          have hone := relTV_one hyr hle.2
          have hu' := setCell_upd w b (0 + off) C t' fr (a.eval y) hg
          refine ⟨b, 0, c, z, l, _, _, hp, ?_, hu', ?_⟩
          · rw [hexec a w b _ he]
            exact run_storeVar_one hty (by simpa using hA) hg hu (by simp at hlen; omega) hone
          · intro hkeep
            simp only [obOk]
            refine ⟨trivial, _, t', fr, hu'.here, unfrozen_size hu (by simp), ?_, ?_⟩
            · intro u hu
              simp only [Array.toList_setIfInBounds] at hu
              rcases List.mem_or_eq_of_mem_set hu with hu | rfl
              · exact h1 u hu
              · exact hone
            · have e0 : ((C.setIfInBounds (0 + off) (a.eval y)).toList) = C.toList.set off (a.eval y) := by simp
              rw [e0]
              exact relTVs_keep hkeep (Ext.refl π) _ _ (relTVs_set hr off hyr)
        · cases h
    · rename_i p n hl
      have key : ∀ a w S π, evOk ev a w S π → ObsOk w S π look → ∃ b c z l, π id = some (.at b 0 c z l) ∧ a.eval x = .pointer (some ⟨b, 0 + off, none⟩) ∧
          ∃ cs C t' fr, p = .agg cs ∧ cs.length = n ∧ w.heap[b]? = some (.cells C t' fr) ∧ unfrozen C fr ∧ C.size = n ∧ (∀ u ∈ C.toList, u.oneCell' = true) ∧ relL w S cs C.toList := by
        intro a w S π hev hob
        have hv := hev x _ hx
        simp only [relTV] at hv
        obtain ⟨b, s, c, z, l, hp, he⟩ := hv
        obtain ⟨pl, hp', hk⟩ := hob.ok id _ hl
        rw [hp] at hp'; cases hp'
        simp only [obOk] at hk
        obtain ⟨rfl, C, t', fr, hg, hu, h1, hn, hpa, hr⟩ := hk
        obtain ⟨cs, us, rfl, hus, g1, g2, g3, g4⟩ := rel_agg hr hpa
        cases hus
        exact ⟨b, c, z, l, hp, he, cs, C, t', fr, rfl, g3, hg, hu, hn, g1, g2⟩
      split at h
      · rename_i hA
        rw [hag] at hA
        rw [hsz] at h
        split at h
        · rename_i q
          split at h
          · rename_i hwhole
            split at h
            · rename_i hq
              simp only [ret4, Option.some.injEq, Prod.mk.injEq] at h
              obtain ⟨rfl, rfl, rfl, rfl⟩ := h
              refine store_turn ho hl rfl rfl fun a w S π hev hob => ?_
              obtain ⟨b, c, z, l, hp, he, cs, C, t', fr, rfl, g3, hg, hu, hn, g1, g2⟩ := key a w S π hev hob
              have hyr := hy a w S π hev
              simp only [relTV] at hyr
              obtain ⟨ds, us, rfl, hyu, k1, k2, k3, k4⟩ := rel_agg hyr hq
              obtain ⟨w', C', hr', hu', hs', hc'⟩ := run_storeVar_agg hty (o' := 0 + off) (us := us) hg hu (by omega) (by omega) k1
              refine ⟨b, 0, c, z, l, w', _, hp, ?_, hu', ?_⟩
              · rw [hexec a w b _ he, hyu]; exact hr'
              · intro hkeep
                have hC : C' = us := by
                  refine toList_of_size ?_
                  rw [hc', hwhole.1]
                  simp only [Nat.add_zero, List.take_zero, List.nil_append]
                  rw [List.drop_of_length_le (by simp; omega)]
                  simp
                simp only [obOk]
                subst hC
                refine ⟨trivial, C', t', fr, hu'.here, unfrozen_size hu hs', k1, k4, hq, rel_keep hkeep _ _ ?_⟩
                simp only [rel]
                exact ⟨C', rfl, k1, k2⟩
            · cases h
          · split at h
            · rename_i hle
              split at h
              · rename_i hq
                simp only [ret4, Option.some.injEq, Prod.mk.injEq] at h
                obtain ⟨rfl, rfl, rfl, rfl⟩ := h
                refine store_turn ho hl rfl rfl fun a w S π hev hob => ?_
                obtain ⟨b, c, z, l, hp, he, cs, C, t', fr, rfl, g3, hg, hu, hn, g1, g2⟩ := key a w S π hev hob
                have hyr := hy a w S π hev
                simp only [relTV] at hyr
                obtain ⟨ds, us, rfl, hyu, k1, k2, k3, k4⟩ := rel_agg hyr hq
                obtain ⟨w', C', hr', hu', hs', hc'⟩ := run_storeVar_agg hty (o' := 0 + off) (us := us) hg hu (by omega) (by omega) k1
                refine ⟨b, 0, c, z, l, w', _, hp, ?_, hu', ?_⟩
                · rw [hexec a w b _ he, hyu]; exact hr'
                · intro hkeep
                  simp only [obOk, PV.cells]
                  refine ⟨trivial, C', t', fr, hu'.here, unfrozen_size hu hs', ?_, by omega, ?_, rel_keep hkeep _ _ ?_⟩
                  · intro u hu
                    rw [hc'] at hu
                    simp only [List.mem_append] at hu
                    rcases hu with (hu | hu) | hu
                    · exact g1 u (List.mem_of_mem_take hu)
                    · exact k1 u hu
                    · exact g1 u (List.mem_of_mem_drop hu)
                  · simp [PV.isAgg]; omega
                  · simp only [rel]
                    refine ⟨C', rfl, ?_, ?_⟩
                    · intro u hu
                      rw [hc'] at hu
                      simp only [List.mem_append] at hu
                      rcases hu with (hu | hu) | hu
                      · exact g1 u (List.mem_of_mem_take hu)
                      · exact k1 u hu
                      · exact g1 u (List.mem_of_mem_drop hu)
                    · rw [hc']
                      have := rel_set_cells (off := off) (n := i.size) g2 k2
                      simpa [k4] using this
              · cases h
            · cases h
        · rename_i ds
          split at h
          · rename_i hwhole
            simp only [ret4, Option.some.injEq, Prod.mk.injEq] at h
            obtain ⟨rfl, rfl, rfl, rfl⟩ := h
            refine store_turn ho hl rfl rfl fun a w S π hev hob => ?_
            obtain ⟨b, c, z, l, hp, he, cs, C, t', fr, rfl, g3, hg, hu, hn, g1, g2⟩ := key a w S π hev hob
            have hyr := hy a w S π hev
            simp only [relTV] at hyr
            obtain ⟨us, hyu, k1, k2⟩ := hyr
            have k4 := relTVs_length k2
            simp at k4
            obtain ⟨w', C', hr', hu', hs', hc'⟩ := run_storeVar_agg hty (o' := 0 + off) (us := us) hg hu (by omega) (by omega) k1
            refine ⟨b, 0, c, z, l, w', _, hp, ?_, hu', ?_⟩
            · rw [hexec a w b _ he, hyu]; exact hr'
            · intro hkeep
              have hC : C' = us := by
                refine toList_of_size ?_
                rw [hc', hwhole.1]
                simp only [Nat.add_zero, List.take_zero, List.nil_append]
                rw [List.drop_of_length_le (by simp; omega)]
                simp
              simp only [obOk]
              subst hC
              exact ⟨trivial, C', t', fr, hu'.here, unfrozen_size hu hs', k1, relTVs_keep hkeep (Ext.refl π) _ _ k2⟩
          · cases h
        · cases h
      · rename_i hA
        rw [hag] at hA
        split at h
        · rename_i hle
          split at h
          · rename_i c'
            simp only [ret4, Option.some.injEq, Prod.mk.injEq] at h
            obtain ⟨rfl, rfl, rfl, rfl⟩ := h
            refine store_turn ho hl rfl rfl fun a w S π hev hob => ?_
            obtain ⟨b, c, z, l, hp, he, cs, C, t', fr, rfl, g3, hg, hu, hn, g1, g2⟩ := key a w S π hev hob
            have hyr := hy a w S π hev
            have hone := relTV_one hyr hle.2
            simp only [relTV] at hyr
            have hu' := setCell_upd w b (0 + off) C t' fr (a.eval y) hg
            refine ⟨b, 0, c, z, l, _, _, hp, ?_, hu', ?_⟩
            · rw [hexec a w b _ he]
              exact run_storeVar_one hty (by simpa using hA) hg hu (by omega) hone
            · intro hkeep
              simp only [obOk, PV.setc]
              have ho1 : ∀ u ∈ (C.setIfInBounds (0 + off) (a.eval y)).toList, u.oneCell' = true := by
                intro u hu
                simp only [Array.toList_setIfInBounds] at hu
                rcases List.mem_or_eq_of_mem_set hu with hu | rfl
                · exact g1 u hu
                · exact hone
              refine ⟨trivial, _, t', fr, hu'.here, unfrozen_size hu (by simp), ho1, by simpa using hn, by simp [PV.isAgg, g3], rel_keep hkeep _ _ ?_⟩
              simp only [rel]
              refine ⟨_, rfl, ho1, ?_⟩
              simp only [Array.toList_setIfInBounds, Nat.zero_add]
              exact relL_set g2 off hyr
          · split at h
            · rename_i hpa
              simp only [ret4, Option.some.injEq, Prod.mk.injEq] at h
              obtain ⟨rfl, rfl, rfl, rfl⟩ := h
              refine store_turn ho hl rfl rfl fun a w S π hev hob => ?_
              obtain ⟨b, c, z, l, hp, he, cs, C, t', fr, rfl, g3, hg, hu, hn, g1, g2⟩ := key a w S π hev hob
              have hyr := hy a w S π hev
              have hone := relTV_one hyr hle.2
              have hu' := setCell_upd w b (0 + off) C t' fr (a.eval y) hg
              refine ⟨b, 0, c, z, l, _, _, hp, ?_, hu', ?_⟩
              · rw [hexec a w b _ he]
                exact run_storeVar_one hty (by simpa using hA) hg hu (by omega) hone
              · intro hkeep
                simp only [obOk, PV.cells]
                refine ⟨trivial, _, t', fr, hu'.here, unfrozen_size hu (by simp), ?_, ?_⟩
                · intro u hu
                  simp only [Array.toList_setIfInBounds] at hu
                  rcases List.mem_or_eq_of_mem_set hu with hu | rfl
                  · exact g1 u hu
                  · exact hone
                · have e0 : ((C.setIfInBounds (0 + off) (a.eval y)).toList) = C.toList.set off (a.eval y) := by simp
                  rw [e0]
                  exact relTVs_keep hkeep (Ext.refl π) _ _ (relTVs_set (relTVs_vals g2) off hyr)
            · cases h
        · cases h
    · cases h
  · rename_i id m j
    split at h
    · rename_i es sz hl
      split at h
      · rename_i q hq
        have key : ∀ a w S π, evOk ev a w S π → ObsOk w S π look → m < es.length → ∃ b s c l, π id = some (.at b s c sz l) ∧ a.eval x = .pointer (some ⟨b, s + m * sz + j, none⟩) ∧
            l = es.length ∧ l ≤ c ∧ c ≤ maxLen ∧ ∃ C t' fr, w.heap[b]? = some (.cells C t' fr) ∧ unfrozen C fr ∧ (∀ u ∈ C.toList, u.oneCell' = true) ∧ s + c * sz ≤ C.size ∧ s + m * sz + sz ≤ C.size ∧ relEs w S b s sz es := by
          intro a w S π hev hob hm
          have hv := hev x _ hx
          simp only [relTV] at hv
          obtain ⟨b, s, c, z, l, hp, he⟩ := hv
          obtain ⟨pl, hp', hk⟩ := hob.ok id _ hl
          rw [hp] at hp'; cases hp'
          simp only [obOk] at hk
          obtain ⟨rfl, rfl, h2, h3, C, t', fr, hg, hu, h1, hsz', hr⟩ := hk
          have hsz' := hsz' (by omega)
          refine ⟨b, s, c, _, hp, he, rfl, h2, h3, C, t', fr, hg, hu, h1, hsz', ?_, hr⟩
          have : (m + 1) * z ≤ c * z := Nat.mul_le_mul_right _ (by omega)
          rw [Nat.add_mul] at this
          omega
        split at h
        · rename_i hA
          rw [hag] at hA
          rw [hsz] at h
          split at h
          · rename_i hj
            split at h
            · rename_i hqa
              cases hc : es[m]? with
              | none => rw [hc] at h; simp at h
              | some e =>
                rw [hc] at h
                simp only [Option.bind_some, ret4, Option.some.injEq, Prod.mk.injEq] at h
                obtain ⟨rfl, rfl, rfl, rfl⟩ := h
                have hm : m < es.length := (List.getElem?_eq_some_iff.1 hc).1
                refine store_turn ho hl rfl rfl fun a w S π hev hob => ?_
                obtain ⟨b, s, c, l, hp, he, rfl, h2, h3, C, t', fr, hg, hu, h1, hsz', hin, hr⟩ := key a w S π hev hob hm
                have hyr := toPV_rel hq (hy a w S π hev)
                obtain ⟨ds, us, rfl, hyu, k1, k2, k3, k4⟩ := rel_agg hyr hqa
                obtain ⟨w', C', hr', hu', hs', hc'⟩ := run_storeVar_agg hty (o' := s + m * sz + j) (us := us) hg hu (by omega) (by omega) k1
                refine ⟨b, s, c, sz, _, w', _, hp, ?_, hu', ?_⟩
                · rw [hexec a w b _ he, hyu]; exact hr'
                · intro hkeep
                  have hj0 : j = 0 := hj.1
                  subst hj0
                  simp only [Nat.add_zero] at hc'
                  have hget : ∀ q, C'[q]? = if q < s + m * sz then C[q]? else if q < s + m * sz + sz then us[q - (s + m * sz)]? else C[q]? := by
                    intro q
                    rw [← Array.getElem?_toList, hc', List.append_assoc, List.getElem?_append, List.getElem?_append]
                    simp only [List.length_take, Array.length_toList, Nat.min_eq_left (show s + m * sz ≤ C.size by omega)]
                    split
                    · rename_i hq1
                      rw [List.getElem?_take, if_pos hq1]; simp
                    · rename_i hq1
                      by_cases hq2 : q < s + m * sz + sz
                      · rw [if_pos (by omega), if_pos hq2]; simp
                      · rw [if_neg (by omega), if_neg hq2, List.getElem?_drop]
                        rw [show s + m * sz + us.size + (q - (s + m * sz) - us.size) = q by omega]
                        simp
                  simp only [obOk, List.length_set, PV.cells]
                  refine ⟨trivial, trivial, h2, h3, C', t', fr, hu'.here, unfrozen_size hu hs', ?_, by omega, ?_⟩
                  · intro u hu
                    rw [hc'] at hu
                    simp only [List.mem_append] at hu
                    rcases hu with (hu | hu) | hu
                    · exact h1 u (List.mem_of_mem_take hu)
                    · exact k1 u hu
                    · exact h1 u (List.mem_of_mem_drop hu)
                  · refine relEs_turn hkeep hg hu' ?_ hr k3 ?_
                    · intro q hq
                      rw [hget]
                      split
                      · rfl
                      · split
                        · omega
                        · rfl
                    · refine relCs_of fun q p hp => ?_
                      obtain ⟨u, g1, g2⟩ := relL_get k2 hp
                      have hq := (List.getElem?_eq_some_iff.1 hp).1
                      refine ⟨u, ?_, k1 u (List.mem_of_getElem? g1), rel_keep hkeep _ _ g2⟩
                      rw [cell_upd hu', hget, if_neg (by omega), if_pos (by omega)]
                      rw [show s + m * sz + q - (s + m * sz) = q by omega]
                      simpa using g1
            · cases h
          · cases h
        · rename_i hA
          rw [hag] at hA
          split at h
          · rename_i hqone
            cases hc : es[m]? with
            | none => rw [hc] at h; simp at h
            | some e =>
              rw [hc] at h
              simp only [Option.bind_some] at h
              cases hcj : e[j]? with
              | none => rw [hcj] at h; simp at h
              | some p0 =>
                rw [hcj] at h
                simp only [Option.bind_some, ret4, Option.some.injEq, Prod.mk.injEq] at h
                obtain ⟨rfl, rfl, rfl, rfl⟩ := h
                have hm : m < es.length := (List.getElem?_eq_some_iff.1 hc).1
                have hjl : j < e.length := (List.getElem?_eq_some_iff.1 hcj).1
                refine store_turn ho hl rfl rfl fun a w S π hev hob => ?_
                obtain ⟨b, s, c, l, hp, he, rfl, h2, h3, C, t', fr, hg, hu, h1, hsz', hin, hr⟩ := key a w S π hev hob hm
                have hyr := toPV_rel hq (hy a w S π hev)
                have hone := rel_one hyr hqone
                obtain ⟨e1, e2⟩ := relEs_get hr hc
                have hu' := setCell_upd w b (s + m * sz + j) C t' fr (a.eval y) hg
                refine ⟨b, s, c, sz, _, _, _, hp, ?_, hu', ?_⟩
                · rw [hexec a w b _ he]
                  exact run_storeVar_one hty (by simpa using hA) hg hu (by omega) hone
                · intro hkeep
                  simp only [obOk, List.length_set]
                  refine ⟨trivial, trivial, h2, h3, _, t', fr, hu'.here, unfrozen_size hu (by simp), ?_, fun _ => by simpa using hsz', ?_⟩
                  · intro u hu
                    simp only [Array.toList_setIfInBounds] at hu
                    rcases List.mem_or_eq_of_mem_set hu with hu | rfl
                    · exact h1 u hu
                    · exact hone
                  · refine relEs_turn hkeep hg hu' ?_ hr (by simpa using e1) ?_
                    · intro q hq
                      rw [Array.getElem?_setIfInBounds]
                      rw [if_neg (by omega)]
                    · refine relCs_of fun q p hp => ?_
                      rw [List.getElem?_set] at hp
                      split at hp
                      · rename_i hjq
                        subst hjq
                        cases hp
                        refine ⟨a.eval y, ?_, hone, rel_keep hkeep _ _ hyr⟩
                        rw [cell_upd hu', Array.getElem?_setIfInBounds]
                        rw [if_pos rfl, if_pos (by omega)]
                      · rename_i hjq
                        obtain ⟨u, g1, g2, g3⟩ := relCs_get e2 hp
                        refine ⟨u, ?_, g2, rel_keep hkeep _ _ g3⟩
                        rw [cell_upd hu', Array.getElem?_setIfInBounds, if_neg (by omega)]
                        rw [cell_of_row w b _ C t' fr hg] at g1
                        exact g1
          · cases h
      · cases h
    · cases h
  · cases h

end
end Go.Proofs.YtpaifgipdhgfkaaGreatDoorV

/- The reading machine's operations are told rightly: reckoning, addresses, parts. -/
namespace Go.Proofs.YtpaifgipdhgfkaaGreatDoorV
open Go Go.RowKit

theorem asI_inv {p : PV} {k : IntKind} {n : Int} (h : p.asI k = some n) : p = .int k n := by
  cases p <;> simp only [PV.asI, reduceCtorEq] at h
  split at h
  · rename_i e; subst e; cases h; rfl
  · cases h
theorem asB_inv {p : PV} {b : Bool} (h : p.asB = some b) : p = .bool b := by cases p <;> simp only [PV.asB, reduceCtorEq, Option.some.injEq] at h; subst h; rfl
theorem asS_inv {p : PV} {s : ByteArray} (h : p.asS = some s) : p = .str s := by cases p <;> simp only [PV.asS, reduceCtorEq, Option.some.injEq] at h; subst h; rfl
theorem asFs_inv {p : PV} {es : List (List PV)} (h : p.asFs = some es) : p = .fs es := by cases p <;> simp only [PV.asFs, reduceCtorEq, Option.some.injEq] at h; subst h; rfl
theorem bind_inv {α β : Type} {o : Option α} {f : α → Option β} {b : β} (h : o.bind f = some b) : ∃ a, o = some a ∧ f a = some b := Option.bind_eq_some_iff.1 h

section
variable {P : Program} {T : TypeId → Option TI} {look : Nat → Option Ob} {nx : Nat} {ev : Operand → Option TV} {o : Oper} {v : TV} {up : List (Nat × Ob)} {nw : List Ob} {rd : List Nat}

theorem ret4_inv {tv : TV} {u : List (Nat × Ob)} {n : List Ob} {d : List Nat} (h : ret4 tv u n d = some (v, up, nw, rd)) : tv = v ∧ u = up ∧ n = nw ∧ d = rd := by
  simp only [ret4, Option.some.injEq, Prod.mk.injEq] at h; exact h

theorem ev_int {x : Operand} {k : IntKind} {n : Int} (hx : ev x = some (.val (.int k n))) {a : Act} {w : World} {S : Nat → Prop} {π : Nat → Option Pl} (hev : evOk ev a w S π) : a.eval x = .int k n := by
  have := hev x _ hx; simpa only [relTV, rel] using this
theorem ev_bool {x : Operand} {b : Bool} (hx : ev x = some (.val (.bool b))) {a : Act} {w : World} {S : Nat → Prop} {π : Nat → Option Pl} (hev : evOk ev a w S π) : a.eval x = .bool b := by
  have := hev x _ hx; simpa only [relTV, rel] using this
theorem ev_str {x : Operand} {s : ByteArray} (hx : ev x = some (.val (.str s))) {a : Act} {w : World} {S : Nat → Prop} {π : Nat → Option Pl} (hev : evOk ev a w S π) : a.eval x = .string s := by
  have := hev x _ hx; simpa only [relTV, rel] using this

theorem pick_ok {c x y : Operand} {p : PV} {u v' : TV} (ho : o.op = .pick c x y) (hc : ev c = some (.val p)) (hx : ev x = some u) (hy : ev y = some v')
    (h : (p.asB.bind fun t => cond t (ret4 u [] [] []) (ret4 v' [] [] [])) = some (v, up, nw, rd)) : OpOk P look nx ev o v up nw := by
  obtain ⟨t, ht, h⟩ := bind_inv h
  have := asB_inv ht
  subst this
  cases t
  · have h : ret4 v' [] [] [] = some (v, up, nw, rd) := h
    obtain ⟨rfl, rfl, rfl, rfl⟩ := ret4_inv h
    exact opOk_pure fun a w S π hev _ => ⟨a.eval y, by simp [execOp, ho, ev_bool hc hev, asBool], hev _ _ hy⟩
  · have h : ret4 u [] [] [] = some (v, up, nw, rd) := h
    obtain ⟨rfl, rfl, rfl, rfl⟩ := ret4_inv h
    exact opOk_pure fun a w S π hev _ => ⟨a.eval x, by simp [execOp, ho, ev_bool hc hev, asBool], hev _ _ hx⟩

theorem nilCheck_ok {x : Operand} {tv : TV} (ho : o.op = .nilCheck x) (hx : ev x = some tv)
    (hk : (∃ i j, tv = .ref i j) ∨ (∃ i j m, tv = .eref i j m) ∨ (∃ cs off, tv = .val (.rp cs off)) ∨ (∃ f cs, tv = .val (.fn (.func f) cs)) ∨ (∃ f cs, tv = .fn (.func f) cs))
    (h : ret4 tv [] [] [] = some (v, up, nw, rd)) : OpOk P look nx ev o v up nw := by
  obtain ⟨rfl, rfl, rfl, rfl⟩ := ret4_inv h
  refine opOk_pure fun a w S π hev _ => ⟨a.eval x, ?_, hev x _ hx⟩
  have hv := hev x _ hx
  rcases hk with ⟨i, j, rfl⟩ | ⟨i, j, m, rfl⟩ | ⟨cs, off, rfl⟩ | ⟨f, cs, rfl⟩ | ⟨f, cs, rfl⟩ <;> simp only [relTV, rel] at hv
  · obtain ⟨b, s, c, z, l, _, he⟩ := hv; simp [execOp, ho, he]
  · obtain ⟨b, s, c, z, l, _, he⟩ := hv; simp [execOp, ho, he]
  · obtain ⟨b, s, he, _⟩ := hv; simp [execOp, ho, he]
  · obtain ⟨us, he, _⟩ := hv; simp [execOp, ho, he]
  · obtain ⟨us, he, _⟩ := hv; simp [execOp, ho, he]

theorem intK_ok {R : Type} {op : BinOp} {ik : IntKind} {a b : Int} {k : PV → Option R} {r : R} {t : TypeId} (h : intK op ik a b k = some r) (h1 : op ≠ .shl) (h2 : op ≠ .shr) :
    ∃ p, k p = some r ∧ ∀ (w : World) (S : Nat → Prop), ∃ u, (binOp op t (.int ik a) (.int ik b)).run P w = .ok u w ∧ rel w S p u := by
  cases op <;> simp only [intK, reduceCtorEq] at h <;> try exact absurd rfl h1
  all_goals try exact absurd rfl h2
  case quo =>
    split at h
    · cases h
    · rename_i hb
      refine ⟨_, h, fun w S => ⟨_, ?_, by simp only [rel]; exact rfl⟩⟩
      simp [Op.intDiv, hb, binOp_quo]
  case rem =>
    split at h
    · cases h
    · rename_i hb
      refine ⟨_, h, fun w S => ⟨_, ?_, by simp only [rel]; exact rfl⟩⟩
      simp [Op.intDiv, hb, binOp_rem]
  all_goals
    refine ⟨_, h, fun w S => ⟨_, ?_, by simp only [rel]; exact rfl⟩⟩
    first
      | (rw [binOp_add]; rfl) | (rw [binOp_sub]; rfl) | (rw [binOp_mul]; rfl) | (rw [binOp_and]; rfl) | (rw [binOp_or]; rfl) | (rw [binOp_xor]; rfl) | (rw [binOp_andNot]; rfl)
      | (rw [binOp_eql]; rfl) | (rw [binOp_neq]; rfl) | (rw [binOp_lss]; rfl) | (rw [binOp_leq]; rfl) | (rw [binOp_gtr]; rfl) | (rw [binOp_geq]; rfl)

theorem shiftK_ok {R : Type} {op : BinOp} {ik yk : IntKind} {a b : Int} {k : PV → Option R} {r : R} {t : TypeId} (h : shiftK op ik a b k = some r) (hop : op = .shl ∨ op = .shr) :
    ∃ p, k p = some r ∧ ∀ (w : World) (S : Nat → Prop), ∃ u, (binOp op t (.int ik a) (.int yk b)).run P w = .ok u w ∧ rel w S p u := by
  unfold shiftK at h
  split at h
  · cases h
  · rename_i hb
    rcases hop with rfl | rfl
    · refine ⟨_, h, fun w S => ⟨_, ?_, by simp only [rel]; exact rfl⟩⟩
      simp [binOp_shl, Op.shift, hb]
    · refine ⟨_, h, fun w S => ⟨_, ?_, by simp only [rel]; exact rfl⟩⟩
      simp [binOp_shr, Op.shift, hb]

theorem strK_ok {R : Type} {op : BinOp} {a b : ByteArray} {k : PV → Option R} {r : R} {t : TypeId} (h : strK op a b k = some r) :
    ∃ p, k p = some r ∧ ∀ (w : World) (S : Nat → Prop), ∃ u, (binOp op t (.string a) (.string b)).run P w = .ok u w ∧ rel w S p u := by
  cases op <;> simp only [strK, reduceCtorEq] at h
  case add =>
    split at h
    · rename_i hl
      refine ⟨_, h, fun w S => ⟨.string (a ++ b), ?_, by simp only [rel]⟩⟩
      rw [binOp_string_add]
      simp only [Op.stringOp, IntKind.max_i64]
      rw [if_neg (by omega)]
      rfl
    · cases h
  all_goals
    refine ⟨_, h, fun w S => ⟨_, ?_, by simp only [rel]; exact rfl⟩⟩
    first | (rw [binOp_string_eql]; rfl) | (rw [binOp_string_neq]; rfl) | (rw [binOp_string_lss]; rfl)

/-- The type of a plain value. -/
def plainD (P : Program) (t : TypeId) : Prop := P.underlying t = some .bool ∨ (∃ k, P.underlying t = some (.int k)) ∨ P.underlying t = some .string
theorem plainT_ok {t : TypeId} (hT : TOk P T) (h : plainT T t = true) : plainD P t ∧ ∃ i, T t = some i ∧ i.desc.isAgg = false := by
  unfold plainT at h
  split at h
  · rename_i a b z hi; exact ⟨.inl (hT t _ hi).desc, _, hi, rfl⟩
  · rename_i a b k z hi; exact ⟨.inr (.inl ⟨k, (hT t _ hi).desc⟩), _, hi, rfl⟩
  · rename_i a b z hi; exact ⟨.inr (.inr (hT t _ hi).desc), _, hi, rfl⟩
  · cases h

theorem eqvT_ok {t : TypeId} {p q : PV} {b : Bool} (hT : TOk P T) (h : eqvT T t p q = some b) {w : World} {S : Nat → Prop} {u u' : Value} (hp : rel w S p u) (hq : rel w S q u') (d : Nat) :
    (Op.equalIn (d + 1) t u u').run P w = .ok b w ∧ ((∃ k n m, u = .int k n ∧ u' = .int k m ∧ b = (n == m)) ∨ (∃ x y, u = .bool x ∧ u' = .bool y ∧ b = (x == y)) ∨ (∃ x y, u = .string x ∧ u' = .string y ∧ b = (x == y))) := by
  unfold eqvT at h
  split at h
  · rename_i sz by' ik z hi
    obtain ⟨n, hn, h'⟩ := bind_inv h
    obtain ⟨m, hm, h''⟩ := bind_inv h'
    clear h h'
    have h := h''; clear h''
    rw [asI_inv hn] at hp
    rw [asI_inv hm] at hq
    simp only [rel] at hp hq
    cases h
    subst hp hq
    exact ⟨run_equalIn_int w d t _ _ _ _ (hT t _ hi).desc, .inl ⟨_, _, _, rfl, rfl, rfl⟩⟩
  · rename_i sz by' z hi
    obtain ⟨n, hn, h'⟩ := bind_inv h
    obtain ⟨m, hm, h''⟩ := bind_inv h'
    clear h h'
    have h := h''; clear h''
    rw [asB_inv hn] at hp
    rw [asB_inv hm] at hq
    simp only [rel] at hp hq
    cases h
    subst hp hq
    exact ⟨run_equalIn_bool w d t _ _ (hT t _ hi).desc, .inr (.inl ⟨_, _, rfl, rfl, rfl⟩)⟩
  · rename_i sz by' z hi
    obtain ⟨n, hn, h'⟩ := bind_inv h
    obtain ⟨m, hm, h''⟩ := bind_inv h'
    clear h h'
    have h := h''; clear h''
    rw [asS_inv hn] at hp
    rw [asS_inv hm] at hq
    simp only [rel] at hp hq
    cases h
    subst hp hq
    exact ⟨run_equalIn_string w d t _ _ (hT t _ hi).desc, .inr (.inr ⟨_, _, rfl, rfl, (beq_toListBytes _ _).symm⟩)⟩
  · cases h

theorem eqvT_plain {t : TypeId} {p q : PV} {b : Bool} (h : eqvT T t p q = some b) : plainT T t = true := by
  unfold eqvT at h
  unfold plainT
  split at h <;> simp_all

theorem run_part_one {t : TypeId} {i : TI} (h : TyOk P t i) (hd : i.desc.isAgg = false) {cs : Array Value} {off : Nat} {u : Value} (hu : cs[off]? = some u) (w : World) : (part t cs off).run P w = .ok u w := by
  simp only [part, Sem.run_bind, run_isAgg h, hd, Result.andThen_ok, Bool.false_eq_true, if_false, hu, Sem.run_pure]

theorem eqvs_ok (hT : TOk P T) {w : World} {S : Nat → Prop} {d : Nat} : ∀ (F : List Field) (j : Nat) (ps qs : List PV) (b : Bool) (xs ys : Array Value), eqvs T (F.map fun f => (f.type, f.offset)) ps qs = some b → (∀ f ∈ F, f.name ≠ "_") →
    (F.map (·.offset)) = (List.range F.length).map (· + j) → relL w S ps (xs.toList.drop j) → relL w S qs (ys.toList.drop j) → (Op.eqFields (d + 1) xs ys F).run P w = .ok b w
  | [], j, ps, qs, b, xs, ys, h, _, _, _, _ => by
    cases ps <;> cases qs <;> simp only [List.map_nil, eqvs, reduceCtorEq, Option.some.injEq] at h
    subst h
    simp [Op.eqFields]
  | f :: F, j, ps, qs, b, xs, ys, h, hn, ho, hp, hq => by
    cases ps <;> cases qs <;> simp only [List.map_cons, eqvs, reduceCtorEq] at h
    rename_i p ps q qs
    obtain ⟨b1, h1, h⟩ := bind_inv h
    obtain ⟨b2, h2, h⟩ := bind_inv h
    cases h
    simp only [relL] at hp hq
    obtain ⟨u, us, hu, hp1, hp2⟩ := hp
    obtain ⟨u', us', hu', hq1, hq2⟩ := hq
    simp only [List.map_cons, List.length_cons, List.range_succ_eq_map, List.map_map] at ho
    have ho0 : f.offset = j := by have := (List.cons.inj ho).1; simpa using this
    have ho1 : F.map (·.offset) = (List.range F.length).map (· + (j + 1)) := by
      have := (List.cons.inj ho).2
      rw [this]
      apply List.map_congr_left
      intro x _
      simp only [Function.comp_apply]
      omega
    obtain ⟨_, i, hi, hd⟩ := plainT_ok hT (eqvT_plain h1)
    have e1 : xs[f.offset]? = some u := by
      rw [ho0]
      have := congrArg (fun l : List Value => l[0]?) hu
      simpa [List.getElem?_drop] using this
    have e2 : ys[f.offset]? = some u' := by
      rw [ho0]
      have := congrArg (fun l : List Value => l[0]?) hu'
      simpa [List.getElem?_drop] using this
    have r1 := run_part_one (hT _ _ hi) hd e1 w
    have r2 := run_part_one (hT _ _ hi) hd e2 w
    obtain ⟨r3, _⟩ := eqvT_ok hT h1 hp1 hq1 d
    have hn0 := hn f (by simp)
    have d1 : xs.toList.drop (j + 1) = us := by
      have := congrArg List.tail hu
      simpa using this
    have d2 : ys.toList.drop (j + 1) = us' := by
      have := congrArg List.tail hu'
      simpa using this
    have ih := eqvs_ok hT (d := d) F (j + 1) ps qs b2 xs ys h2 (fun g hg => hn g (by simp [hg])) ho1 (by rw [d1]; exact hp2) (by rw [d2]; exact hq2)
    simp only [Op.eqFields]
    rw [if_pos hn0]
    simp only [Sem.run_bind, r1, r2, r3, Result.andThen_ok]
    cases b1
    · simp
    · simpa using ih

theorem bin_struct {t : TypeId} {i : TI} {fs : List (TypeId × Nat)} {ps qs : List PV} {b : Bool} (hT : TOk P T) (hi : T t = some i) (hd : i.desc = .struct fs) (ho : fs.map (·.2) = List.range fs.length) (h : eqvs T fs ps qs = some b) {w : World} {S : Nat → Prop}
    {xs ys : Array Value} (hp : relL w S ps xs.toList) (hq : relL w S qs ys.toList) (X Y : Operand) :
    ((do eqGuard .eql t X Y (.agg xs) (.agg ys); binOp .eql t (.agg xs) (.agg ys)) : Sem Value).run P w = .ok (.bool b) w ∧ ((do eqGuard .neq t X Y (.agg xs) (.agg ys); binOp .neq t (.agg xs) (.agg ys)) : Sem Value).run P w = .ok (.bool (!b)) w := by
  have hdesc := (hT t i hi).desc
  rw [hd] at hdesc
  simp only [descOk] at hdesc
  obtain ⟨F, hu, hF, hn, hst, heg⟩ := hdesc
  have hfo : P.fieldsOf t = F := by simp [Program.fieldsOf, hu]
  have he : (Op.equal t (.agg xs) (.agg ys)).run P w = .ok b w := by
    unfold Op.equal Op.maxDepth
    rw [run_equalIn_struct w 9999 t xs ys (by rw [hfo]; exact hu) hst, hfo]
    refine eqvs_ok hT F.toList 0 ps qs b xs ys (by rw [hF]; exact h) hn ?_ (by simpa using hp) (by simpa using hq)
    rw [← hF] at ho
    simpa [Function.comp_def] using ho
  constructor
  · simp [eqGuard, binOp, heg, he]
  · simp [eqGuard, binOp, heg, he]

theorem eqItems_ok (hT : TOk P T) {w : World} {S : Nat → Prop} {d : Nat} {e : TypeId} : ∀ (m j : Nat) (ps qs : List PV) (b : Bool) (xs ys : Array Value), eqvs T ((List.range' j m).map fun i => (e, i)) ps qs = some b →
    relL w S ps (xs.toList.drop j) → relL w S qs (ys.toList.drop j) → (Op.eqItems (d + 1) e 1 xs ys (List.range' j m)).run P w = .ok b w
  | 0, j, ps, qs, b, xs, ys, h, _, _ => by
    cases ps <;> cases qs <;> simp only [List.range'_zero, List.map_nil, eqvs, reduceCtorEq, Option.some.injEq] at h
    subst h
    simp [Op.eqItems]
  | m + 1, j, ps, qs, b, xs, ys, h, hp, hq => by
    cases ps <;> cases qs <;> simp only [List.range'_succ, List.map_cons, eqvs, reduceCtorEq] at h
    rename_i p ps q qs
    obtain ⟨b1, h1, h⟩ := bind_inv h
    obtain ⟨b2, h2, h⟩ := bind_inv h
    cases h
    simp only [relL] at hp hq
    obtain ⟨u, us, hu, hp1, hp2⟩ := hp
    obtain ⟨u', us', hu', hq1, hq2⟩ := hq
    obtain ⟨_, i, hi, hd⟩ := plainT_ok hT (eqvT_plain h1)
    have e1 : xs[j * 1]? = some u := by
      rw [Nat.mul_one]
      have := congrArg (fun l : List Value => l[0]?) hu
      simpa [List.getElem?_drop] using this
    have e2 : ys[j * 1]? = some u' := by
      rw [Nat.mul_one]
      have := congrArg (fun l : List Value => l[0]?) hu'
      simpa [List.getElem?_drop] using this
    have r1 := run_part_one (hT _ _ hi) hd e1 w
    have r2 := run_part_one (hT _ _ hi) hd e2 w
    obtain ⟨r3, _⟩ := eqvT_ok hT h1 hp1 hq1 d
    have d1 : xs.toList.drop (j + 1) = us := by
      have := congrArg List.tail hu
      simpa using this
    have d2 : ys.toList.drop (j + 1) = us' := by
      have := congrArg List.tail hu'
      simpa using this
    have ih := eqItems_ok hT (d := d) m (j + 1) ps qs b2 xs ys h2 (by rw [d1]; exact hp2) (by rw [d2]; exact hq2)
    simp only [List.range'_succ, Op.eqItems, Sem.run_bind, r1, r2, r3, Result.andThen_ok]
    cases b1
    · simp
    · simpa using ih
theorem bin_array {t e : TypeId} {i : TI} {n : Nat} {ps qs : List PV} {b : Bool} (hT : TOk P T) (hi : T t = some i) (hd : i.desc = .array n e) (he : plainT T e = true) (h : eqvs T ((List.range n).map fun i => (e, i)) ps qs = some b) {w : World} {S : Nat → Prop}
    {xs ys : Array Value} (hp : relL w S ps xs.toList) (hq : relL w S qs ys.toList) (X Y : Operand) :
    ((do eqGuard .eql t X Y (.agg xs) (.agg ys); binOp .eql t (.agg xs) (.agg ys)) : Sem Value).run P w = .ok (.bool b) w ∧ ((do eqGuard .neq t X Y (.agg xs) (.agg ys); binOp .neq t (.agg xs) (.agg ys)) : Sem Value).run P w = .ok (.bool (!b)) w := by
  have hdesc := (hT t i hi).desc
  have heg := (hT t i hi).eqg (by rw [hd]; rfl)
  rw [hd] at hdesc
  simp only [descOk] at hdesc
  obtain ⟨_, ie, hie, hde⟩ := plainT_ok hT he
  obtain ⟨f, z, hf, hsz, _⟩ := (hT e ie hie).info
  have hc : P.cellsOf e = 1 := by
    have := (hT e ie hie).one hde
    simp [Program.cellsOf, hf, hsz, this]
  have heq : (Op.equal t (.agg xs) (.agg ys)).run P w = .ok b w := by
    unfold Op.equal Op.maxDepth
    rw [run_equalIn_array w 9999 xs ys hdesc hf, hc, List.range_eq_range']
    exact eqItems_ok hT (d := 9998) n 0 ps qs b xs ys (by rw [← List.range_eq_range']; exact h) (by simpa using hp) (by simpa using hq)
  constructor
  · simp [eqGuard, binOp, heg, heq]
  · simp [eqGuard, binOp, heg, heq]

theorem asMp_inv {w : World} {S : Nat → Prop} {p : PV} {kvs : List (PV × PV)} {v : Value} (h : p.asMp = some kvs) (r : rel w S p v) :
    (v = .map none ∧ kvs = []) ∨ ∃ b, v = .map (some b) ∧ S b ∧ ∃ ms clock, w.heap[b]? = some (.map ms clock) ∧ stamps ms clock ∧ relKV w S kvs ms.toList := by
  cases p <;> simp only [PV.asMp, reduceCtorEq, Option.some.injEq] at h
  · subst h
    simp only [rel] at r
    exact .inl ⟨r, rfl⟩
  · subst h
    simp only [rel] at r
    exact .inr r
theorem asPn_inv {w : World} {S : Nat → Prop} {p : PV} {b : Bool} {v : Value} (h : p.asPn = some b) (r : rel w S p v) : ∃ A : Option Addr, v = .pointer A ∧ A.isNone = b := by
  cases p <;> simp only [PV.asPn, reduceCtorEq, Option.some.injEq] at h
  · subst h
    simp only [rel] at r
    exact ⟨_, r, rfl⟩
  · subst h
    simp only [rel] at r
    obtain ⟨b, s, r, _⟩ := r
    exact ⟨_, r, rfl⟩
theorem asMn_inv {w : World} {S : Nat → Prop} {p : PV} {b : Bool} {v : Value} (h : p.asMn = some b) (r : rel w S p v) : ∃ o : Option Nat, v = .map o ∧ o.isNone = b := by
  cases p <;> simp only [PV.asMn, reduceCtorEq, Option.some.injEq] at h
  · subst h
    simp only [rel] at r
    exact ⟨_, r, rfl⟩
  · subst h
    simp only [rel] at r
    obtain ⟨b, r, _⟩ := r
    exact ⟨_, r, rfl⟩

def nilF : Value → Bool | .nilFunc => true | _ => false
/-- A value of an interface's type beside the literal nil. -/
theorem iface_eq {xt : TypeId} {ms : Array (String × TypeId)} (hd : P.underlying xt = some (.interface ms)) {x : Operand} {c u u' : Value} {p : PV} {b : Bool} {w : World} {S : Nat → Prop} {π : Nat → Option Pl} (hb : p.asNil = some b) (r1 : relTV w S π (.val p) u) (r2 : relTV w S π (.val .nilif) u') :
    (do eqGuard .eql xt x (.const c) u u'; binOp .eql xt u u' : Sem Value).run P w = .ok (.bool b) w ∧ (do eqGuard .neq xt x (.const c) u u'; binOp .neq xt u u' : Sem Value).run P w = .ok (.bool (!b)) w := by
  simp only [relTV, rel] at r2
  subst r2
  cases p <;> simp only [PV.asNil, reduceCtorEq, Option.some.injEq] at hb
  · subst hb
    simp only [relTV, rel] at r1
    subst r1
    have e0 : ∀ d, (Op.equalIn (d + 1) xt .nilIface .nilIface).run P w = .ok true w := fun d => by simp [Op.equalIn, run_underlying hd]
    have e : (Op.equal xt .nilIface .nilIface).run P w = .ok true w := e0 9999
    have g1 : (eqGuard .eql xt x (.const c) .nilIface .nilIface).run P w = .ok () w := by simp [eqGuard]
    have g2 : (eqGuard .neq xt x (.const c) .nilIface .nilIface).run P w = .ok () w := by simp [eqGuard]
    have b1 : binOp .eql xt .nilIface .nilIface = (do pure (.bool (← Op.equal xt .nilIface .nilIface)) : Sem Value) := rfl
    have b2 : binOp .neq xt .nilIface .nilIface = (do pure (.bool (!(← Op.equal xt .nilIface .nilIface))) : Sem Value) := rfl
    rw [b1, b2]
    simp only [Sem.run_bind, g1, g2, e, Result.andThen_ok, Sem.run_pure, and_self]
  · subst hb
    simp only [relTV, rel] at r1
    obtain ⟨t, u, rfl⟩ := r1
    have e0 : ∀ d, (Op.equalIn (d + 1) xt (.iface t u) .nilIface).run P w = .ok false w := fun d => by simp [Op.equalIn, run_underlying hd]
    have e : (Op.equal xt (.iface t u) .nilIface).run P w = .ok false w := e0 9999
    have g1 : (eqGuard .eql xt x (.const c) (.iface t u) .nilIface).run P w = .ok () w := by simp [eqGuard]
    have g2 : (eqGuard .neq xt x (.const c) (.iface t u) .nilIface).run P w = .ok () w := by simp [eqGuard]
    have b1 : binOp .eql xt (.iface t u) .nilIface = (do pure (.bool (← Op.equal xt (.iface t u) .nilIface)) : Sem Value) := rfl
    have b2 : binOp .neq xt (.iface t u) .nilIface = (do pure (.bool (!(← Op.equal xt (.iface t u) .nilIface))) : Sem Value) := rfl
    rw [b1, b2]
    simp only [Sem.run_bind, g1, g2, e, Result.andThen_ok, Sem.run_pure, and_self]

theorem bin_ok {op : BinOp} {xt yt : TypeId} {x y : Operand} {u u' : TV} (hT : TOk P T) (ho : o.op = .binOp op xt x y yt) (hx : ev x = some u) (hy : ev y = some u')
    (h : binK T op xt yt (isConst y) u u' (fun p => ret4 (.val p) [] [] []) = some (v, up, nw, rd)) : OpOk P look nx ev o v up nw := by
  have fin : ∀ p, ret4 (.val p) [] [] [] = some (v, up, nw, rd) → (∀ a w S π, evOk ev a w S π → ObsOk w S π look → ∃ z, ((do eqGuard op xt x y (a.eval x) (a.eval y); binOp op xt (a.eval x) (a.eval y)) : Sem Value).run P w = .ok z w ∧ rel w S p z) → OpOk P look nx ev o v up nw := by
    intro p h hr
    obtain ⟨rfl, rfl, rfl, rfl⟩ := ret4_inv h
    refine opOk_pure fun a w S π hev hob => ?_
    obtain ⟨z, h1, h2⟩ := hr a w S π hev hob
    refine ⟨z, ?_, by simpa only [relTV] using h2⟩
    simp only [execOp, ho, Sem.run_bind] at h1 ⊢
    rw [h1]
    rfl
  unfold binK at h
  split at h
  · rename_i sz by' ik z hi
    split at h
    · rename_i p q
      by_cases hs : op = .shl ∨ op = .shr
      · replace h : (match T yt with | some ⟨_, _, .int yk, _⟩ => (p.asI ik).bind fun a => (q.asI yk).bind fun b => shiftK op ik a b (fun p => ret4 (.val p) [] [] []) | _ => none) = some (v, up, nw, rd) := by
          rcases hs with rfl | rfl <;> exact h
        split at h
        · rename_i yk _ _
          obtain ⟨n, hn, h'⟩ := bind_inv h
          obtain ⟨m, hm, h''⟩ := bind_inv h'
          clear h h'
          have h := h''; clear h''
          cases asI_inv hn
          cases asI_inv hm
          obtain ⟨p, h, hr⟩ := shiftK_ok (P := P) (yk := yk) (t := xt) h hs
          refine fin p h fun a w S π hev _ => ?_
          obtain ⟨z, h1, h2⟩ := hr w S
          refine ⟨z, ?_, h2⟩
          rw [ev_int hx hev, ev_int hy hev, eqGuard_at_int]
          simpa using h1
        · cases h
      · replace h : ((p.asI ik).bind fun a => (q.asI ik).bind fun b => intK op ik a b (fun p => ret4 (.val p) [] [] [])) = some (v, up, nw, rd) := by
          cases op <;> first | exact h | exact absurd (.inl rfl) hs | exact absurd (.inr rfl) hs
        obtain ⟨n, hn, h'⟩ := bind_inv h
        obtain ⟨m, hm, h''⟩ := bind_inv h'
        clear h h'
        have h := h''; clear h''
        cases asI_inv hn
        cases asI_inv hm
        obtain ⟨p, h, hr⟩ := intK_ok (P := P) (t := xt) h (fun e => hs (.inl e)) (fun e => hs (.inr e))
        refine fin p h fun a w S π hev _ => ?_
        obtain ⟨z, h1, h2⟩ := hr w S
        refine ⟨z, ?_, h2⟩
        rw [ev_int hx hev, ev_int hy hev, eqGuard_at_int]
        simpa using h1
    · cases h
  · rename_i sz by' z hi
    split at h
    · rename_i p q
      obtain ⟨n, hn, h'⟩ := bind_inv h
      obtain ⟨m, hm, h''⟩ := bind_inv h'
      clear h h'
      have h := h''; clear h''
      cases asS_inv hn
      cases asS_inv hm
      obtain ⟨p, h, hr⟩ := strK_ok (P := P) (t := xt) h
      refine fin p h fun a w S π hev _ => ?_
      obtain ⟨z, h1, h2⟩ := hr w S
      refine ⟨z, ?_, h2⟩
      rw [ev_str hx hev, ev_str hy hev, eqGuard_at_string]
      simpa using h1
    · cases h
  · rename_i sz by' z hi
    have hd := (hT xt _ hi).desc
    simp only [descOk] at hd
    split at h
    · rename_i p q
      split at h
      · obtain ⟨n, hn, h'⟩ := bind_inv h
        obtain ⟨m, hm, h''⟩ := bind_inv h'
        clear h h'
        have h := h''; clear h''
        cases asB_inv hn
        cases asB_inv hm
        refine fin _ h fun a w S π hev _ => ⟨_, ?_, by simp only [rel]; exact rfl⟩
        rw [ev_bool hx hev, ev_bool hy hev, eqGuard_at_bool]
        simpa using run_eql_bool w xt n m hd
      · obtain ⟨n, hn, h'⟩ := bind_inv h
        obtain ⟨m, hm, h''⟩ := bind_inv h'
        clear h h'
        have h := h''; clear h''
        cases asB_inv hn
        cases asB_inv hm
        refine fin _ h fun a w S π hev _ => ⟨_, ?_, by simp only [rel]; exact rfl⟩
        rw [ev_bool hx hev, ev_bool hy hev, eqGuard_at_bool]
        simpa [bne] using run_neq_bool w xt n m hd
      · cases h
    · cases h
  · rename_i sz by' fs z hi
    split at h
    · rename_i hfs
      simp only [Bool.and_eq_true, beq_iff_eq] at hfs
      split at h
      · rename_i p q
        split at h
        · obtain ⟨ps, hps, h⟩ := bind_inv h
          obtain ⟨qs, hqs, h⟩ := bind_inv h
          obtain ⟨b, hb, h⟩ := bind_inv h
          refine fin _ h fun a w S π hev _ => ⟨_, ?_, by simp only [rel]; exact rfl⟩
          have r1 := hev x _ hx
          have r2 := hev y _ hy
          cases p <;> simp only [PV.asAgg, reduceCtorEq, Option.some.injEq] at hps
          cases q <;> simp only [PV.asAgg, reduceCtorEq, Option.some.injEq] at hqs
          subst hps hqs
          simp only [relTV, rel] at r1 r2
          obtain ⟨us, e1, _, l1⟩ := r1
          obtain ⟨vs, e2, _, l2⟩ := r2
          rw [e1, e2]
          exact (bin_struct hT hi rfl hfs.2 hb l1 l2 x y).1
        · obtain ⟨ps, hps, h⟩ := bind_inv h
          obtain ⟨qs, hqs, h⟩ := bind_inv h
          obtain ⟨b, hb, h⟩ := bind_inv h
          refine fin _ h fun a w S π hev _ => ⟨_, ?_, by simp only [rel]; exact rfl⟩
          have r1 := hev x _ hx
          have r2 := hev y _ hy
          cases p <;> simp only [PV.asAgg, reduceCtorEq, Option.some.injEq] at hps
          cases q <;> simp only [PV.asAgg, reduceCtorEq, Option.some.injEq] at hqs
          subst hps hqs
          simp only [relTV, rel] at r1 r2
          obtain ⟨us, e1, _, l1⟩ := r1
          obtain ⟨vs, e2, _, l2⟩ := r2
          rw [e1, e2]
          exact (bin_struct hT hi rfl hfs.2 hb l1 l2 x y).2
        · cases h
      · cases h
    · cases h
  · rename_i sz by' n e z hi
    split at h
    · rename_i hpl
      split at h
      · rename_i p q
        split at h
        · obtain ⟨ps, hps, h⟩ := bind_inv h
          obtain ⟨qs, hqs, h⟩ := bind_inv h
          obtain ⟨b, hb, h⟩ := bind_inv h
          refine fin _ h fun a w S π hev _ => ⟨_, ?_, by simp only [rel]; exact rfl⟩
          have r1 := hev x _ hx
          have r2 := hev y _ hy
          cases p <;> simp only [PV.asAgg, reduceCtorEq, Option.some.injEq] at hps
          cases q <;> simp only [PV.asAgg, reduceCtorEq, Option.some.injEq] at hqs
          subst hps hqs
          simp only [relTV, rel] at r1 r2
          obtain ⟨us, e1, _, l1⟩ := r1
          obtain ⟨vs, e2, _, l2⟩ := r2
          rw [e1, e2]
          exact (bin_array hT hi rfl hpl hb l1 l2 x y).1
        · obtain ⟨ps, hps, h⟩ := bind_inv h
          obtain ⟨qs, hqs, h⟩ := bind_inv h
          obtain ⟨b, hb, h⟩ := bind_inv h
          refine fin _ h fun a w S π hev _ => ⟨_, ?_, by simp only [rel]; exact rfl⟩
          have r1 := hev x _ hx
          have r2 := hev y _ hy
          cases p <;> simp only [PV.asAgg, reduceCtorEq, Option.some.injEq] at hps
          cases q <;> simp only [PV.asAgg, reduceCtorEq, Option.some.injEq] at hqs
          subst hps hqs
          simp only [relTV, rel] at r1 r2
          obtain ⟨us, e1, _, l1⟩ := r1
          obtain ⟨vs, e2, _, l2⟩ := r2
          rw [e1, e2]
          exact (bin_array hT hi rfl hpl hb l1 l2 x y).2
        · cases h
      · cases h
    · cases h
  · rename_i sz by' e z hi
    have hd := (hT xt _ hi).desc
    simp only [descOk] at hd
    have eqp : ∀ (d : Nat) (w : World) (A B : Option Addr), (A = none ∨ B = none) → (Op.equalIn (d + 1) xt (.pointer A) (.pointer B)).run P w = .ok (A.isNone && B.isNone) w := by
      intro d w A B hAB
      cases A <;> cases B <;> simp only [reduceCtorEq, or_self] at hAB <;> simp [Op.equalIn, run_underlying hd]
    have nn : ∀ (op : BinOp) (w : World) (A B : Option Addr), (A = none ∨ B = none) → ∀ b, (A.isNone && B.isNone) = b → op = .eql ∨ op = .neq → ((do eqGuard op xt x y (.pointer A) (.pointer B); binOp op xt (.pointer A) (.pointer B)) : Sem Value).run P w = .ok (.bool (if op = .eql then b else !b)) w := by
      intro op w A B hAB b hb hop
      rw [eqGuard_at_pointer]
      subst hb
      have e := eqp 9999 w A B hAB
      have e' : (Op.equal xt (.pointer A) (.pointer B)).run P w = .ok (A.isNone && B.isNone) w := e
      rcases hop with rfl | rfl
      · have : binOp .eql xt (.pointer A) (.pointer B) = (do pure (.bool (← Op.equal xt (.pointer A) (.pointer B))) : Sem Value) := by cases A <;> cases B <;> rfl
        rw [this]
        simp [e']
      · have : binOp .neq xt (.pointer A) (.pointer B) = (do pure (.bool (!(← Op.equal xt (.pointer A) (.pointer B)))) : Sem Value) := by cases A <;> cases B <;> rfl
        rw [this]
        simp [e']
    split at h
    · rename_i i j
      split at h
      · refine fin _ h fun a w S π hev _ => ?_
        have r1 := hev x _ hx
        have r2 := hev y _ hy
        simp only [relTV, rel] at r1 r2
        obtain ⟨b, s, c, z', l, _, e1⟩ := r1
        rw [e1, r2]
        exact ⟨_, nn .eql w _ _ (.inr rfl) _ rfl (.inl rfl), by simp only [rel]; rfl⟩
      · refine fin _ h fun a w S π hev _ => ?_
        have r1 := hev x _ hx
        have r2 := hev y _ hy
        simp only [relTV, rel] at r1 r2
        obtain ⟨b, s, c, z', l, _, e1⟩ := r1
        rw [e1, r2]
        exact ⟨_, nn .neq w _ _ (.inr rfl) _ rfl (.inr rfl), by simp only [rel]; rfl⟩
      · cases h
    · rename_i p
      split at h
      · obtain ⟨b, hb, h⟩ := bind_inv h
        refine fin _ h fun a w S π hev _ => ?_
        have r1 := hev x _ hx
        have r2 := hev y _ hy
        simp only [relTV] at r1 r2
        obtain ⟨A, h1, rfl⟩ := asPn_inv hb r1
        simp only [rel] at r2
        rw [h1, r2]
        exact ⟨_, nn .eql w A none (.inr rfl) A.isNone (by simp) (.inl rfl), by simp only [rel]; rfl⟩
      · obtain ⟨b, hb, h⟩ := bind_inv h
        refine fin _ h fun a w S π hev _ => ?_
        have r1 := hev x _ hx
        have r2 := hev y _ hy
        simp only [relTV] at r1 r2
        obtain ⟨A, h1, rfl⟩ := asPn_inv hb r1
        simp only [rel] at r2
        rw [h1, r2]
        exact ⟨_, nn .neq w A none (.inr rfl) A.isNone (by simp) (.inr rfl), by simp only [rel]; rfl⟩
      · cases h
    · cases h
  · rename_i sz by' z hi
    have hd := (hT xt _ hi).desc
    simp only [descOk] at hd
    obtain ⟨A, B, C, hd⟩ := hd
    have eqp : ∀ (d : Nat) (w : World) (u : Value), (u = .nilFunc ∨ ∃ f a c, u = .func f a c) → (Op.equalIn (d + 1) xt u .nilFunc).run P w = .ok (nilF u) w := by
      intro d w u hu
      rcases hu with rfl | ⟨f, a, c, rfl⟩ <;> simp [Op.equalIn, run_underlying hd, nilF]
    have nn : ∀ (op : BinOp) (w : World) (u : Value), (u = .nilFunc ∨ ∃ f a c, u = .func f a c) → ∀ b, (nilF u) = b → op = .eql ∨ op = .neq → ((do eqGuard op xt x y u .nilFunc; binOp op xt u .nilFunc) : Sem Value).run P w = .ok (.bool (if op = .eql then b else !b)) w := by
      intro op w u hu b hb hop
      subst hb
      have e := eqp 9999 w u hu
      have e' : (Op.equal xt u .nilFunc).run P w = .ok (nilF u) w := e
      rcases hu with rfl | ⟨f, a, c, rfl⟩
      · rw [eqGuard_at_nilFunc]
        rcases hop with rfl | rfl
        · have : binOp .eql xt .nilFunc .nilFunc = (do pure (.bool (← Op.equal xt .nilFunc .nilFunc)) : Sem Value) := rfl
          rw [this]; simp [e']
        · have : binOp .neq xt .nilFunc .nilFunc = (do pure (.bool (!(← Op.equal xt .nilFunc .nilFunc))) : Sem Value) := rfl
          rw [this]; simp [e']
      · rw [eqGuard_at_func]
        rcases hop with rfl | rfl
        · have : binOp .eql xt (.func f a c) .nilFunc = (do pure (.bool (← Op.equal xt (.func f a c) .nilFunc)) : Sem Value) := rfl
          rw [this]; simp [e']
        · have : binOp .neq xt (.func f a c) .nilFunc = (do pure (.bool (!(← Op.equal xt (.func f a c) .nilFunc))) : Sem Value) := rfl
          rw [this]; simp [e']
    split at h
    · split at h
      · refine fin _ h fun a w S π hev _ => ?_
        have r1 := hev x _ hx
        have r2 := hev y _ hy
        simp only [relTV, rel] at r1 r2
        obtain ⟨us, e1, _⟩ := r1
        rw [e1, r2]
        exact ⟨_, nn .eql w _ (.inr ⟨_, _, _, rfl⟩) _ rfl (.inl rfl), by simp only [rel]; rfl⟩
      · refine fin _ h fun a w S π hev _ => ?_
        have r1 := hev x _ hx
        have r2 := hev y _ hy
        simp only [relTV, rel] at r1 r2
        obtain ⟨us, e1, _⟩ := r1
        rw [e1, r2]
        exact ⟨_, nn .neq w _ (.inr ⟨_, _, _, rfl⟩) _ rfl (.inr rfl), by simp only [rel]; rfl⟩
      · cases h
    · split at h
      · refine fin _ h fun a w S π hev _ => ?_
        have r1 := hev x _ hx
        have r2 := hev y _ hy
        simp only [relTV, rel] at r1 r2
        obtain ⟨us, e1, _⟩ := r1
        rw [e1, r2]
        exact ⟨_, nn .eql w _ (.inr ⟨_, _, _, rfl⟩) _ rfl (.inl rfl), by simp only [rel]; rfl⟩
      · refine fin _ h fun a w S π hev _ => ?_
        have r1 := hev x _ hx
        have r2 := hev y _ hy
        simp only [relTV, rel] at r1 r2
        obtain ⟨us, e1, _⟩ := r1
        rw [e1, r2]
        exact ⟨_, nn .neq w _ (.inr ⟨_, _, _, rfl⟩) _ rfl (.inr rfl), by simp only [rel]; rfl⟩
      · cases h
    · split at h
      · refine fin _ h fun a w S π hev _ => ?_
        have r1 := hev x _ hx
        have r2 := hev y _ hy
        simp only [relTV, rel] at r1 r2
        rw [r1, r2]
        exact ⟨_, nn .eql w _ (.inl rfl) _ rfl (.inl rfl), by simp only [rel]; rfl⟩
      · refine fin _ h fun a w S π hev _ => ?_
        have r1 := hev x _ hx
        have r2 := hev y _ hy
        simp only [relTV, rel] at r1 r2
        rw [r1, r2]
        exact ⟨_, nn .neq w _ (.inl rfl) _ rfl (.inr rfl), by simp only [rel]; rfl⟩
      · cases h
    · cases h
  · rename_i sz by' z hi
    have hd := (hT xt _ hi).desc
    simp only [descOk] at hd
    obtain ⟨ms, hd⟩ := hd
    split at h
    · rename_i p hyc
      obtain ⟨c, rfl⟩ : ∃ c, y = .const c := by cases y <;> simp only [isConst, Bool.false_eq_true] at hyc; exact ⟨_, rfl⟩
      split at h
      · obtain ⟨b, hb, h⟩ := bind_inv h
        exact fin _ h fun a w S π hev _ => ⟨_, (iface_eq hd hb (hev x _ hx) (hev _ _ hy)).1, by simp only [rel]⟩
      · obtain ⟨b, hb, h⟩ := bind_inv h
        exact fin _ h fun a w S π hev _ => ⟨_, (iface_eq hd hb (hev x _ hx) (hev _ _ hy)).2, by simp only [rel]⟩
      · cases h
    · cases h
  · rename_i sz by' kt et z hi
    have hd := (hT xt _ hi).desc
    simp only [descOk] at hd
    have key : ∀ (o : Option Nat) (w : World), (do eqGuard .eql xt x y (.map o) (.map none); binOp .eql xt (.map o) (.map none) : Sem Value).run P w = .ok (.bool o.isNone) w ∧
        (do eqGuard .neq xt x y (.map o) (.map none); binOp .neq xt (.map o) (.map none) : Sem Value).run P w = .ok (.bool (!o.isNone)) w := by
      intro o w
      have e0 : ∀ d, (Op.equalIn (d + 1) xt (.map o) (.map none)).run P w = .ok o.isNone w := fun d => by cases o <;> simp [Op.equalIn, run_underlying hd]
      have e : (Op.equal xt (.map o) (.map none)).run P w = .ok o.isNone w := e0 9999
      have g1 : (eqGuard .eql xt x y (.map o) (.map none)).run P w = .ok () w := by simp [eqGuard]
      have g2 : (eqGuard .neq xt x y (.map o) (.map none)).run P w = .ok () w := by simp [eqGuard]
      have b1 : binOp .eql xt (.map o) (.map none) = (do pure (.bool (← Op.equal xt (.map o) (.map none))) : Sem Value) := rfl
      have b2 : binOp .neq xt (.map o) (.map none) = (do pure (.bool (!(← Op.equal xt (.map o) (.map none)))) : Sem Value) := rfl
      rw [b1, b2]
      simp only [Sem.run_bind, g1, g2, e, Result.andThen_ok, Sem.run_pure, and_self]
    split at h
    · rename_i p
      split at h
      · obtain ⟨b, hb, h⟩ := bind_inv h
        refine fin _ h fun a w S π hev _ => ?_
        have r1 := hev x _ hx
        have r2 := hev y _ hy
        simp only [relTV] at r1 r2
        obtain ⟨o, h1, rfl⟩ := asMn_inv hb r1
        simp only [rel] at r2
        rw [h1, r2]
        exact ⟨_, (key o w).1, by simp only [rel]⟩
      · obtain ⟨b, hb, h⟩ := bind_inv h
        refine fin _ h fun a w S π hev _ => ?_
        have r1 := hev x _ hx
        have r2 := hev y _ hy
        simp only [relTV] at r1 r2
        obtain ⟨o, h1, rfl⟩ := asMn_inv hb r1
        simp only [rel] at r2
        rw [h1, r2]
        exact ⟨_, (key o w).2, by simp only [rel]⟩
      · cases h
    · cases h
  · cases h

end
end Go.Proofs.YtpaifgipdhgfkaaGreatDoorV

/- The reading machine's operations are told rightly: addresses, parts, slices of slices, lengths. -/
namespace Go.Proofs.YtpaifgipdhgfkaaGreatDoorV
open Go Go.RowKit

section
variable {P : Program} {T : TypeId → Option TI} {look : Nat → Option Ob} {nx : Nat} {ev : Operand → Option TV} {o : Oper} {v : TV} {up : List (Nat × Ob)} {nw : List Ob} {rd : List Nat}

theorem un_ok {op : UnOp} {xt : TypeId} {x : Operand} {u : TV} (ho : o.op = .unOp op xt x) (hx : ev x = some u)
    (h : unK T op xt u (fun p => ret4 (.val p) [] [] []) = some (v, up, nw, rd)) : OpOk P look nx ev o v up nw := by
  unfold unK at h
  split at h
  · obtain ⟨n, hn, h'⟩ := bind_inv h
    clear h
    cases asI_inv hn
    obtain ⟨rfl, rfl, rfl, rfl⟩ := ret4_inv h'
    exact opOk_pure fun a w S π hev _ => ⟨_, by simp only [execOp, ho, ev_int hx hev, Op.unary, Op.intArith]; rfl, by simp only [relTV, rel]⟩
  · obtain ⟨n, hn, h'⟩ := bind_inv h
    clear h
    cases asB_inv hn
    obtain ⟨rfl, rfl, rfl, rfl⟩ := ret4_inv h'
    exact opOk_pure fun a w S π hev _ => ⟨_, by simp only [execOp, ho, ev_bool hx hev, Op.unary]; rfl, by simp only [relTV, rel]⟩
  · cases h

theorem makeFunc_ok {fn : Fn} {first caps : Array Operand} {vs : List TV} (ho : o.op = .makeFunc fn first caps) (hf : first.toList = []) (hc : allSome (caps.toList.map ev) = some vs)
    (h : (match valsOf vs with | some ps => ret4 (.val (.fn fn ps)) [] [] [] | none => ret4 (.fn fn vs) [] [] []) = some (v, up, nw, rd)) : OpOk P look nx ev o v up nw := by
  have hf' : first = #[] := by apply Array.ext'; simpa using hf
  have hrun : ∀ a w, (execOp (Act.eval a) o).run P w = .ok (.value (.func fn #[] (caps.map a.eval))) w := by
    intro a w
    simp [execOp, ho, Instr.makeFunc, hf']
  split at h
  · rename_i ps hps
    obtain ⟨rfl, rfl, rfl, rfl⟩ := ret4_inv h
    refine opOk_pure fun a w S π hev _ => ⟨_, hrun a w, ?_⟩
    have := evOk_all hev hc
    simp only [relTV, rel]
    exact ⟨_, rfl, by simpa using allSome_vals hps this⟩
  · obtain ⟨rfl, rfl, rfl, rfl⟩ := ret4_inv h
    refine opOk_pure fun a w S π hev _ => ⟨_, hrun a w, ?_⟩
    have := evOk_all hev hc
    simp only [relTV]
    exact ⟨_, rfl, by simpa using this⟩

/-- A field's place of a struct type. -/
theorem field_at {t : TypeId} {i : TI} {fs : List (TypeId × Nat)} (hT : TOk P T) (hi : T t = some i) (hd : i.desc = .struct fs) {f ft fo : Nat} (hf : fs[f]? = some (ft, fo)) :
    ∃ F, P.underlying t = some (.struct F) ∧ ∃ fd, F[f]? = some fd ∧ fd.type = ft ∧ fd.offset = fo := by
  have hdesc := (hT t i hi).desc
  rw [hd] at hdesc
  simp only [descOk] at hdesc
  obtain ⟨F, hu, hF, _⟩ := hdesc
  rw [← hF, List.getElem?_map] at hf
  cases hg : F.toList[f]? with
  | none => rw [hg] at hf; cases hf
  | some fd =>
    rw [hg] at hf
    simp only [Option.map_some, Option.some.injEq, Prod.mk.injEq] at hf
    exact ⟨F, hu, fd, by simpa using hg, hf.1, hf.2⟩

theorem tsize_some {t : TypeId} (h : tsize T t ≠ 0) : ∃ i, T t = some i ∧ i.size = tsize T t := by
  unfold tsize at h ⊢
  split at h
  · rename_i i hi; exact ⟨i, hi, rfl⟩
  · exact absurd rfl h

theorem fieldAddr_ok {t : TypeId} {x : Operand} {f : Nat} {u : TV} (hT : TOk P T) (ho : o.op = .fieldAddr t x f) (hx : ev x = some u)
    (h : fieldAddrK T t u f ret4 = some (v, up, nw, rd)) : OpOk P look nx ev o v up nw := by
  unfold fieldAddrK at h
  split at h
  · rename_i sz by' fs z hi
    split at h
    · rename_i ft fo hf
      split at h
      · cases h
      · rename_i hsz
        obtain ⟨F, hu, fd, hF, rfl, rfl⟩ := field_at hT hi rfl hf
        obtain ⟨i, hti, his⟩ := tsize_some hsz
        have hrun : ∀ (a : Act) (w : World) (b o' : Nat), a.eval x = .pointer (some ⟨b, o', none⟩) → (execOp a.eval o).run P w = .ok (.value (.pointer (some ⟨b, o' + fd.offset, none⟩))) w := by
          intro a w b o' he
          have hs := run_sizeOf (hT _ i hti) w
          have hne : i.size ≠ 0 := by omega
          simp [execOp, ho, Instr.fieldAt, run_underlying hu, hF, he, Instr.sureAddr, fieldPlace, hs, hne, Addr.add_lit]
        split at h
        · obtain ⟨rfl, rfl, rfl, rfl⟩ := ret4_inv h
          refine opOk_pure fun a w S π hev _ => ?_
          have hv := hev x _ hx
          simp only [relTV] at hv ⊢
          obtain ⟨b, s, c, z, l, hp, he⟩ := hv
          exact ⟨_, hrun a w _ _ he, b, s, c, z, l, hp, by rw [Nat.add_assoc]⟩
        · obtain ⟨rfl, rfl, rfl, rfl⟩ := ret4_inv h
          refine opOk_pure fun a w S π hev _ => ?_
          have hv := hev x _ hx
          simp only [relTV] at hv ⊢
          obtain ⟨b, s, c, z, l, hp, he⟩ := hv
          exact ⟨_, hrun a w _ _ he, b, s, c, z, l, hp, by rw [Nat.add_assoc]⟩
        · obtain ⟨rfl, rfl, rfl, rfl⟩ := ret4_inv h
          refine opOk_pure fun a w S π hev _ => ?_
          have hv := hev x _ hx
          simp only [relTV, rel] at hv ⊢
          obtain ⟨b, s, he, hr⟩ := hv
          exact ⟨_, hrun a w _ _ he, b, s, by rw [Nat.add_assoc], hr⟩
        · cases h
    · cases h
  · cases h

theorem run_part_agg {t : TypeId} {i : TI} (h : TyOk P t i) (hd : i.desc.isAgg = true) {cs : Array Value} {off : Nat} (w : World) : (part t cs off).run P w = .ok (.agg (cs.extract off (off + i.size))) w := by
  simp only [part, Sem.run_bind, run_isAgg h, hd, Result.andThen_ok, if_true, run_sizeOf h, Sem.run_pure]

theorem isAggT_some {t : TypeId} (h : isAggT T t = true) : ∃ i, T t = some i ∧ i.desc.isAgg = true := by
  cases hi : T t with
  | none => unfold isAggT at h; rw [hi] at h; cases h
  | some i => exact ⟨i, rfl, by rw [← isAggT_eq hi]; exact h⟩

theorem extract_toList (C : Array Value) (a b : Nat) : (C.extract a b).toList = (C.toList.drop a).take (b - a) := by
  simp

theorem asAgg_inv {p : PV} {cs : List PV} (h : p.asAgg = some cs) : p = .agg cs := by cases p <;> simp only [PV.asAgg, reduceCtorEq, Option.some.injEq] at h; subst h; rfl

theorem subAgg_list {w : World} {S : Nat → Prop} {off n : Nat} {cs : List PV} {p : PV} {us : Array Value} (hs : subAgg cs off n = some p) (h : relL w S cs us.toList) (h1 : ∀ u ∈ us.toList, u.oneCell' = true) : rel w S p (.agg (us.extract off (off + n))) := by
  unfold subAgg at hs
  split at hs
  · cases hs
    simp only [rel]
    refine ⟨_, rfl, ?_, ?_⟩
    · intro u hu
      rw [extract_toList] at hu
      exact h1 u (List.mem_of_mem_drop (List.mem_of_mem_take hu))
    · rw [extract_toList, show off + n - off = n by omega]
      exact relL_take (relL_drop h off) n
  · cases hs

theorem field_ok {t : TypeId} {x : Operand} {f : Nat} {u : TV} (hT : TOk P T) (ho : o.op = .field t x f) (hx : ev x = some u)
    (h : fieldK T t u f ret4 = some (v, up, nw, rd)) : OpOk P look nx ev o v up nw := by
  unfold fieldK at h
  split at h
  · rename_i sz by' fs z hi
    split at h
    · rename_i ft fo hf
      obtain ⟨F, hu, fd, hF, rfl, rfl⟩ := field_at hT hi rfl hf
      have hrun : ∀ (a : Act) (w : World) (us : Array Value) (r : Value), a.eval x = .agg us → (part fd.type us fd.offset).run P w = .ok r w → (execOp a.eval o).run P w = .ok (.value r) w := by
        intro a w us r he hr
        simp [execOp, ho, Instr.field, run_underlying hu, hF, he, asAgg, hr]
      split at h
      · rename_i p
        obtain ⟨cs, hcs, h'⟩ := bind_inv h
        clear h
        have := asAgg_inv hcs
        subst this
        split at h'
        · cases h'
        · rename_i i hti
          split at h'
          · rename_i hA
            obtain ⟨q, hq, h⟩ := bind_inv h'
            clear h'
            obtain ⟨rfl, rfl, rfl, rfl⟩ := ret4_inv h
            refine opOk_pure fun a w S π hev _ => ?_
            have hv := hev x _ hx
            simp only [relTV, rel] at hv
            obtain ⟨us, he, h1, hl⟩ := hv
            exact ⟨_, hrun a w us _ he (run_part_agg (hT _ i hti) hA w), by simp only [relTV]; exact subAgg_list hq hl h1⟩
          · rename_i hA
            obtain ⟨c, hc, h⟩ := bind_inv h'
            clear h'
            obtain ⟨h', _⟩ := coeK_spec h
            clear h
            obtain ⟨rfl, rfl, rfl, rfl⟩ := ret4_inv h'
            refine opOk_pure fun a w S π hev _ => ?_
            have hv := hev x _ hx
            simp only [relTV, rel] at hv
            obtain ⟨us, he, h1, hl⟩ := hv
            obtain ⟨u, hu1, hu2⟩ := relL_get hl hc
            exact ⟨u, hrun a w us _ he (run_part_one (hT _ i hti) (by simpa using hA) (by simpa using hu1) w), by simpa only [relTV] using hu2⟩
      · rename_i cs
        split at h
        · cases h
        · rename_i i hti
          split at h
          · cases h
          · rename_i hA
            split at h
            · rename_i c hc
              obtain ⟨rfl, rfl, rfl, rfl⟩ := ret4_inv h
              refine opOk_pure fun a w S π hev _ => ?_
              have hv := hev x _ hx
              simp only [relTV] at hv
              obtain ⟨us, he, h1, hl⟩ := hv
              obtain ⟨u, hu1, hu2⟩ := relTVs_get hl hc
              exact ⟨u, hrun a w us _ he (run_part_one (hT _ i hti) (by simpa using hA) (by simpa using hu1) w), hu2⟩
            · cases h
      · cases h
    · cases h
  · cases h

theorem run_indexAt_in {t e : TypeId} {i : TI} (hT : TOk P T) (hu : P.underlying t = some (.slice e)) (he : T e = some i) {b off len cap : Nat} {k : IntKind} {n : Int} (h0 : 0 ≤ n) (h1 : n < len) (w : World) :
    (Instr.indexAt t (.slice (some ⟨b, off, none⟩) len cap) (.int k n)).run P w = .ok (.pointer (some ⟨b, off + n.toNat * i.size, none⟩)) w := by
  have hs := run_sizeOf (hT _ i he) w
  simp [Instr.indexAt, run_underlying hu, asIntOf, h0, h1, hs, Addr.add_lit]
theorem run_indexAt_arr {t e : TypeId} {i : TI} {m : Nat} (hT : TOk P T) (hu : P.underlying t = some (.array m e)) (he : T e = some i) {b off : Nat} {k : IntKind} {n : Int} (h0 : 0 ≤ n) (h1 : n < m) (w : World) :
    (Instr.indexAt t (.pointer (some ⟨b, off, none⟩)) (.int k n)).run P w = .ok (.pointer (some ⟨b, off + n.toNat * i.size, none⟩)) w := by
  have hs := run_sizeOf (hT _ i he) w
  simp [Instr.indexAt, run_underlying hu, asIntOf, Instr.sureAddr, h0, h1, hs, Addr.add_lit]

theorem indexAddr_ok {t : TypeId} {x y : Operand} {u u' : TV} (hT : TOk P T) (ho : o.op = .indexAddr t x y) (hx : ev x = some u) (hy : ev y = some u')
    (h : indexAddrK T look t u u' ret4 = some (v, up, nw, rd)) : OpOk P look nx ev o v up nw := by
  have hexec : ∀ (a : Act) (w : World) (r : Value), (Instr.indexAt t (a.eval x) (a.eval y)).run P w = .ok r w → (execOp a.eval o).run P w = .ok (.value r) w := by
    intro a w r hr
    simp [execOp, ho, hr]
  unfold indexAddrK at h
  split at h
  · rename_i sz by' e z i hi
    have hu := (hT t _ hi).desc
    simp only [descOk] at hu
    cases hte : T e with
    | none => rw [hte] at h; simp only at h; cases h
    | some ei =>
    rw [hte] at h
    simp only at h
    split at h
    · rename_i id
      obtain ⟨n, hn, h'⟩ := bind_inv h
      clear h
      cases asI_inv hn
      split at h'
      · rename_i es sz' hl
        split at h'
        · rename_i hz
          split at h'
          · rename_i hlt
            obtain ⟨rfl, rfl, rfl, rfl⟩ := ret4_inv h'
            refine opOk_pure fun a w S π hev hob => ?_
            have hv := hev x _ hx
            simp only [relTV] at hv
            obtain ⟨pl, hp', hk⟩ := hob.ok id _ hl
            rcases hv with ⟨hp, he⟩ | ⟨b, s, c, z', l, ad, hp, he, had⟩
            · rw [hp] at hp'; cases hp'
              simp only [obOk] at hk
              subst hk
              have h1 := hlt.1
              have h2 : n < (0 : Nat) := hlt.2
              exact absurd h2 (by omega)
            · rw [hp] at hp'; cases hp'
              simp only [obOk] at hk
              obtain ⟨rfl, rfl, hlc, _⟩ := hk
              have had' : ad = ⟨b, s, none⟩ := by
                rcases had with h0 | h0
                · exfalso; omega
                · exact h0
              subst had'
              refine ⟨(.pointer (some ⟨b, s + n.toNat * ei.size, none⟩)), hexec a w _ ?_, ?_⟩
              · rw [he, ev_int hy hev]
                exact run_indexAt_in hT hu hte hlt.1 hlt.2 w
              · simp only [relTV]
                exact ⟨b, s, c, _, _, hp, by rw [hz]; rfl⟩
          · cases h'
        · cases h'
      · cases h'
    · rename_i id off len cp
      obtain ⟨n, hn, h'⟩ := bind_inv h
      clear h
      cases asI_inv hn
      split at h'
      · rename_i es sz' hl
        split at h'
        · rename_i hz
          split at h'
          · rename_i hlt
            obtain ⟨rfl, rfl, rfl, rfl⟩ := ret4_inv h'
            refine opOk_pure fun a w S π hev hob => ?_
            have hv := hev x _ hx
            simp only [relTV] at hv
            obtain ⟨pl, hp', hk⟩ := hob.ok id _ hl
            rcases hv with ⟨hp, he, h0, h1⟩ | ⟨b, s, c, z', l, ad, cv, hp, he, hcv, had, _⟩
            · exfalso
              have h1' := hlt.1
              have h2 := hlt.2
              omega
            · rw [hp] at hp'; cases hp'
              simp only [obOk] at hk
              obtain ⟨rfl, rfl, hlc, _⟩ := hk
              have had' : ad = ⟨b, s + off * z', none⟩ := by
                rcases had with h0 | h0
                · exfalso; omega
                · exact h0
              subst had'
              refine ⟨(.pointer (some ⟨b, s + off * z' + n.toNat * ei.size, none⟩)), hexec a w _ ?_, ?_⟩
              · rw [he, ev_int hy hev]
                exact run_indexAt_in hT hu hte hlt.1 hlt.2 w
              · simp only [relTV]
                exact ⟨b, s, c, _, _, hp, by rw [← hz, Nat.add_mul]; congr 2; simp only [Addr.mk.injEq, true_and, and_true]; omega⟩
          · cases h'
        · cases h'
      · rename_i cs hl
        split at h'
        · rename_i hz
          split at h'
          · rename_i hlt
            obtain ⟨ho0, hlt⟩ := hlt
            obtain ⟨rfl, rfl, rfl, rfl⟩ := ret4_inv h'
            refine opOk_pure fun a w S π hev hob => ?_
            have hv := hev x _ hx
            simp only [relTV] at hv
            obtain ⟨pl, hp', hk⟩ := hob.ok id _ hl
            rcases hv with ⟨hp, he, h0, h1⟩ | ⟨b, s, c, z', l, ad, cv, hp, he, hcv, had, _⟩
            · exfalso
              have h1' := hlt.1
              have h2 := hlt.2
              omega
            · have had' : ad = ⟨b, s + off * z', none⟩ := by
                rcases had with h0 | h0
                · exfalso; omega
                · exact h0
              subst had'
              refine ⟨(.pointer (some ⟨b, s + off * z' + n.toNat * ei.size, none⟩)), hexec a w _ ?_, ?_⟩
              · rw [he, ev_int hy hev]
                exact run_indexAt_in hT hu hte hlt.1 hlt.2 w
              · simp only [relTV]
                exact ⟨b, s, c, _, _, hp, by rw [← hz, ho0, Nat.zero_mul, Nat.mul_one, Nat.add_zero]⟩
          · cases h'
        · cases h'
      · cases h'
    · rename_i p
      obtain ⟨n, hn, h'⟩ := bind_inv h
      obtain ⟨es, hes, h''⟩ := bind_inv h'
      obtain ⟨e', he', h3⟩ := bind_inv h''
      clear h h' h''
      cases asI_inv hn
      cases asFs_inv hes
      split at h3
      · rename_i hlen
        obtain ⟨rfl, rfl, rfl, rfl⟩ := ret4_inv h3
        unfold idx at he'
        split at he'
        · rename_i hn0
          refine opOk_pure fun a w S π hev hob => ?_
          have hv := hev x _ hx
          simp only [relTV, rel] at hv
          have hlt := (List.getElem?_eq_some_iff.1 he').1
          rcases hv with ⟨he, h0⟩ | ⟨b, s, cap, sz', he, hcap, hmax, hS, hr⟩
          · subst h0; simp at hlt
          · obtain ⟨g1, g2⟩ := relEs_get hr he'
            refine ⟨(.pointer (some ⟨b, s + n.toNat * ei.size, none⟩)), hexec a w _ ?_, ?_⟩
            · rw [he, ev_int hy hev]
              exact run_indexAt_in hT hu hte hn0 (by omega) w
            · simp only [relTV, rel]
              exact ⟨b, s + n.toNat * ei.size, rfl, hS, by rw [← hlen, g1]; exact g2⟩
        · cases he'
      · cases h3
    · cases h
  · rename_i sz by' m e z i hi
    have hu := (hT t _ hi).desc
    simp only [descOk] at hu
    cases hte : T e with
    | none => rw [hte] at h; simp only at h; cases h
    | some ei =>
    rw [hte] at h
    simp only at h
    split at h
    · rename_i id off
      obtain ⟨n, hn, h'⟩ := bind_inv h
      clear h
      cases asI_inv hn
      split at h'
      · rename_i hlt
        obtain ⟨rfl, rfl, rfl, rfl⟩ := ret4_inv h'
        refine opOk_pure fun a w S π hev hob => ?_
        have hv := hev x _ hx
        simp only [relTV] at hv
        obtain ⟨b, s, c, z', l, hp, he⟩ := hv
        refine ⟨(.pointer (some ⟨b, s + off + n.toNat * ei.size, none⟩)), hexec a w _ ?_, ?_⟩
        · rw [he, ev_int hy hev]
          exact run_indexAt_arr hT hu hte hlt.1 hlt.2 w
        · simp only [relTV]
          exact ⟨b, s, c, _, _, hp, by rw [Nat.add_assoc]⟩
      · cases h'
    · rename_i id q off
      obtain ⟨n, hn, h'⟩ := bind_inv h
      clear h
      cases asI_inv hn
      split at h'
      · rename_i hlt
        obtain ⟨rfl, rfl, rfl, rfl⟩ := ret4_inv h'
        refine opOk_pure fun a w S π hev hob => ?_
        have hv := hev x _ hx
        simp only [relTV] at hv
        obtain ⟨b, s, c, z', l, hp, he⟩ := hv
        refine ⟨(.pointer (some ⟨b, s + q * z' + off + n.toNat * ei.size, none⟩)), hexec a w _ ?_, ?_⟩
        · rw [he, ev_int hy hev]
          exact run_indexAt_arr hT hu hte hlt.1 hlt.2 w
        · simp only [relTV]
          exact ⟨b, s, c, _, _, hp, by rw [Nat.add_assoc (s + _)]⟩
      · cases h'
    · rename_i cs off
      obtain ⟨n, hn, h'⟩ := bind_inv h
      clear h
      cases asI_inv hn
      split at h'
      · rename_i hlt
        obtain ⟨rfl, rfl, rfl, rfl⟩ := ret4_inv h'
        refine opOk_pure fun a w S π hev hob => ?_
        have hv := hev x _ hx
        simp only [relTV, rel] at hv
        obtain ⟨b, s, he, hS, hr⟩ := hv
        refine ⟨(.pointer (some ⟨b, s + off + n.toNat * ei.size, none⟩)), hexec a w _ ?_, ?_⟩
        · rw [he, ev_int hy hev]
          exact run_indexAt_arr hT hu hte hlt.1 hlt.2 w
        · simp only [relTV, rel]
          exact ⟨b, s, by rw [Nat.add_assoc], hS, hr⟩
      · cases h'
    · cases h
  · cases h

theorem asN_inv {p : PV} {n : Int} (h : p.asN = some n) : ∃ k, p = .int k n := by
  cases p <;> simp only [PV.asN, reduceCtorEq, Option.some.injEq] at h
  subst h
  exact ⟨_, rfl⟩
theorem index_ok {t : TypeId} {x y : Operand} {u u' : TV} (hT : TOk P T) (ho : o.op = .index t x y) (hx : ev x = some u) (hy : ev y = some u')
    (h : indexK T t u u' ret4 = some (v, up, nw, rd)) : OpOk P look nx ev o v up nw := by
  have hexec : ∀ (a : Act) (w : World) (r : Value), (Instr.index t (a.eval x) (a.eval y)).run P w = .ok r w → (execOp a.eval o).run P w = .ok (.value r) w := by
    intro a w r hr
    simp [execOp, ho, hr]
  unfold indexK at h
  split at h
  · rename_i sz by' m e z p i hi
    have hu := (hT t _ hi).desc
    simp only [descOk] at hu
    cases hte : T e with
    | none => rw [hte] at h; simp only at h; cases h
    | some ei =>
    rw [hte] at h
    simp only at h
    split at h
    · cases h
    · rename_i hA
      obtain ⟨cs, hcs, h1⟩ := bind_inv h
      obtain ⟨n, hn, h2⟩ := bind_inv h1
      clear h h1
      cases asI_inv hn
      have := asAgg_inv hcs
      subst this
      split at h2
      · rename_i hlt
        obtain ⟨c, hc, h3⟩ := bind_inv h2
        clear h2
        obtain ⟨h4, _⟩ := coeK_spec h3
        clear h3
        obtain ⟨rfl, rfl, rfl, rfl⟩ := ret4_inv h4
        refine opOk_pure fun a w S π hev hob => ?_
        have hv := hev x _ hx
        simp only [relTV, rel] at hv
        obtain ⟨us, he, h1, hl⟩ := hv
        obtain ⟨u, hu1, hu2⟩ := relL_get hl hc
        refine ⟨u, hexec a w u ?_, by simpa only [relTV] using hu2⟩
        rw [he, ev_int hy hev]
        have hs := run_sizeOf (hT _ _ hte) w
        have hone := (hT _ _ hte).one (by simpa using hA)
        have hp := run_part_one (cs := us) (off := n.toNat * ei.size) (hT _ _ hte) (by simpa using hA) (by rw [hone]; simpa using hu1) w
        simp [Instr.index, run_underlying hu, asIntOf, hlt.1, hlt.2, hs, hp]
      · cases h2
  · rename_i sz by' z p i hi
    have hu := (hT t _ hi).desc
    simp only [descOk] at hu
    obtain ⟨n, hn, h1⟩ := bind_inv h
    obtain ⟨s, hs, h2⟩ := bind_inv h1
    obtain ⟨b, hb, h3⟩ := bind_inv h2
    clear h h1 h2
    obtain ⟨ik, rfl⟩ := asN_inv hn
    cases asS_inv hs
    obtain ⟨rfl, rfl, rfl, rfl⟩ := ret4_inv h3
    unfold idx at hb
    split at hb
    · rename_i hn0
      have hlt := (List.getElem?_eq_some_iff.1 hb)
      obtain ⟨hl, hbe⟩ := hlt
      have hl' : n.toNat < s.size := by simpa using hl
      refine opOk_pure fun a w S π hev hob => ⟨.int .u8 (b.toNat : Nat), hexec a w _ ?_, by simp only [relTV, rel]⟩
      rw [ev_str hx hev, ev_int hy hev]
      have : s[n.toNat]? = some b := by
        rw [ByteArray.getElem?_lt' s _ hl']
        congr 1
      simp [Instr.index, run_underlying hu, asIntOf, hn0, this]
    · cases hb
  · cases h

end
end Go.Proofs.YtpaifgipdhgfkaaGreatDoorV

/- The reading machine's operations are told rightly: slicing, lengths, parts of tuples. -/
namespace Go.Proofs.YtpaifgipdhgfkaaGreatDoorV
open Go Go.RowKit

section
variable {P : Program} {T : TypeId → Option TI} {look : Nat → Option Ob} {nx : Nat} {ev : Operand → Option TV} {o : Oper} {v : TV} {up : List (Nat × Ob)} {nw : List Ob} {rd : List Nat}

/-- What stands for a bound. -/
def bnd (o : Option Value) (d n : Int) : Prop := (o = none ∧ n = d) ∨ ∃ k, o = some (.int k n)

theorem boundK_inv {R : Type} {o : Option TV} {d : Int} {k : Int → Option R} {r : R} (h : boundK o d k = some r) : ∃ n, k n = some r ∧ ((o = none ∧ n = d) ∨ o = some (.val (.int .i64 n))) := by
  unfold boundK at h
  split at h
  · exact ⟨d, h, .inl ⟨rfl, rfl⟩⟩
  · obtain ⟨n, hn, h'⟩ := bind_inv h
    cases asI_inv hn
    exact ⟨n, h', .inr rfl⟩
  · cases h

theorem run_sliceBound_in {k : IntKind} {i : Int} {y : Nat} {c : BoundsCode} (h0 : 0 ≤ i) (h1 : i ≤ y) (w : World) : (Instr.sliceBound (.int k i) y c).run P w = .ok i.toNat w := by
  simp [Instr.sliceBound, asIntOf, h0, h1]

theorem run_sliceBounds {isS : Bool} {len cap : Nat} {lo hi mx : Option Value} {l h m : Int} (hlo : bnd lo 0 l) (hhi : bnd hi len h) (hmx : bnd mx cap m) (hok : ¬ (hi = none ∧ mx ≠ none)) (h1 : 0 ≤ l) (h2 : l ≤ h) (h3 : h ≤ m) (h4 : m ≤ cap) (w : World) :
    (Instr.sliceBounds isS len cap lo hi mx).run P w = .ok (l.toNat, h.toNat, m.toNat) w := by
  have em : (m.toNat : Int) = m := by omega
  have eh : (h.toNat : Int) = h := by omega
  unfold Instr.sliceBounds
  rcases hmx with ⟨rfl, rfl⟩ | ⟨km, rfl⟩
  · rcases hhi with ⟨rfl, rfl⟩ | ⟨kh, rfl⟩
    · rcases hlo with ⟨rfl, rfl⟩ | ⟨kl, rfl⟩
      · simp
      · simp [run_sliceBound_in (P := P) h1 h2]
    · have e1 : ∀ c, (Instr.sliceBound (.int kh h) cap c).run P w = .ok h.toNat w := fun c => run_sliceBound_in (by omega) h3 w
      rcases hlo with ⟨rfl, rfl⟩ | ⟨kl, rfl⟩
      · simp [e1]
      · have e2 : ∀ c, (Instr.sliceBound (.int kl l) h.toNat c).run P w = .ok l.toNat w := fun c => run_sliceBound_in h1 (by omega) w
        simp [e1, e2]
  · rcases hhi with ⟨rfl, rfl⟩ | ⟨kh, rfl⟩
    · exact absurd ⟨rfl, by simp⟩ hok
    · have e0 : ∀ c, (Instr.sliceBound (.int km m) cap c).run P w = .ok m.toNat w := fun c => run_sliceBound_in (by omega) h4 w
      have e1 : ∀ c, (Instr.sliceBound (.int kh h) m.toNat c).run P w = .ok h.toNat w := fun c => run_sliceBound_in (by omega) (by omega) w
      rcases hlo with ⟨rfl, rfl⟩ | ⟨kl, rfl⟩
      · simp [e0, e1]
      · have e2 : ∀ c, (Instr.sliceBound (.int kl l) h.toNat c).run P w = .ok l.toNat w := fun c => run_sliceBound_in h1 (by omega) w
        simp [e0, e1, e2]

theorem run_sliceAt_sl {t e : TypeId} {i : TI} (hT : TOk P T) (hu : P.underlying t = some (.slice e)) (hte : T e = some i) {A : Option Addr} {len cap : Nat} {lo hi mx : Option Value} {l h m : Int} (hlo : bnd lo 0 l) (hhi : bnd hi len h) (hmx : bnd mx cap m)
    (hok : ¬ (hi = none ∧ mx ≠ none)) (h1 : 0 ≤ l) (h2 : l ≤ h) (h3 : h ≤ m) (h4 : m ≤ cap) (w : World) :
    (Instr.sliceAt t (.slice A len cap) lo hi mx).run P w = .ok (.slice (if m.toNat = l.toNat then A else A.map (·.add (l.toNat * i.size))) (h.toNat - l.toNat) (m.toNat - l.toNat)) w := by
  have hb := run_sliceBounds (P := P) (isS := true) hlo hhi hmx hok h1 h2 h3 h4 w
  have hs := run_sizeOf (hT _ _ hte) w
  simp only [Instr.sliceAt, Sem.run_bind, run_underlying hu, Result.andThen_ok, Instr.slice, hb, hs, Sem.run_pure]

theorem ev_bnd {x : Option Operand} {tv : Option TV} {d n : Int} (hx : evOpt ev x = some tv) (h : (tv = none ∧ n = d) ∨ tv = some (.val (.int .i64 n)))
    {a : Act} {w : World} {S : Nat → Prop} {π : Nat → Option Pl} (hev : evOk ev a w S π) : bnd (x.map a.eval) d n ∧ (x.map a.eval = none ↔ tv = none) := by
  cases x with
  | none =>
    simp only [evOpt, Option.some.injEq] at hx
    subst hx
    rcases h with ⟨_, h⟩ | h
    · exact ⟨.inl ⟨rfl, h⟩, by simp⟩
    · cases h
  | some x =>
    simp only [evOpt] at hx
    split at hx
    case h_2 => cases hx
    rename_i y hy
    cases hx
    rcases h with ⟨h, _⟩ | h
    · cases h
    · simp only [Option.some.injEq] at h
      subst h
      exact ⟨.inr ⟨.i64, by simp [ev_int hy hev]⟩, by simp⟩

theorem slice_ok {t : TypeId} {x : Operand} {lo hi mx : Option Operand} {u : TV} {l0 h0 m0 : Option TV} (hT : TOk P T) (ho : o.op = .slice t x lo hi mx) (hx : ev x = some u)
    (hlo : evOpt ev lo = some l0) (hhi : evOpt ev hi = some h0) (hmx : evOpt ev mx = some m0)
    (h : sliceK T look t u l0 h0 m0 ret4 = some (v, up, nw, rd)) : OpOk P look nx ev o v up nw := by
  have hexec : ∀ (a : Act) (w : World) (r : Value), (Instr.sliceAt t (a.eval x) (lo.map a.eval) (hi.map a.eval) (mx.map a.eval)).run P w = .ok r w → (execOp a.eval o).run P w = .ok (.value r) w := by
    intro a w r hr
    simp [execOp, ho, hr]
  unfold sliceK at h
  split at h
  · cases h
  rename_i hnn
  have hok : ∀ (a : Act) (w : World) (S : Nat → Prop) (π : Nat → Option Pl), (hi.map a.eval = none ↔ h0 = none) → (mx.map a.eval = none ↔ m0 = none) → ¬ (hi.map a.eval = none ∧ mx.map a.eval ≠ none) := by
    intro a w S π e1 e2 ⟨e3, e4⟩
    have h3 := e1.1 e3
    have h4 : m0 ≠ none := fun e => e4 (e2.2 e)
    subst h3
    cases m0 with
    | none => exact h4 rfl
    | some y => simp at hnn
  have hmsome : ∀ (a : Act) (q : Option TV), m0 = q → True := fun _ _ _ => trivial
  split at h
  · rename_i sz by' z hi'
    have hu := (hT t _ hi').desc
    simp only [descOk] at hu
    split at h
    · rename_i p
      obtain ⟨s, hs, h'⟩ := bind_inv h
      obtain ⟨l, h1, hl⟩ := boundK_inv h'
      obtain ⟨hh, h2, hh'⟩ := boundK_inv h1
      clear h h' h1
      cases asS_inv hs
      split at h2
      · rename_i hle
        obtain ⟨rfl, rfl, rfl, rfl⟩ := ret4_inv h2
        refine opOk_pure fun a w S π hev hob => ⟨_, hexec a w _ ?_, by simp only [relTV, rel]; rfl⟩
        obtain ⟨b1, e1⟩ := ev_bnd hlo hl hev
        obtain ⟨b2, e2⟩ := ev_bnd hhi hh' hev
        have e3 : mx.map a.eval = none := by
          cases mx with
          | none => rfl
          | some y => simp only [evOpt] at hmx; split at hmx <;> cases hmx
        have hb := run_sliceBounds (P := P) (isS := false) (cap := s.size) (mx := none) b1 b2 (.inl ⟨rfl, rfl⟩) (by simp) hle.1 hle.2.1 hle.2.2 (Int.le_refl _) w
        rw [ev_str hx hev, e3]
        simp only [Instr.sliceAt, Sem.run_bind, run_underlying hu, Result.andThen_ok, Instr.slice, Option.isSome_none, Bool.false_eq_true, if_false, hb, Sem.run_pure]
      · cases h2
    · cases h
  · rename_i sz by' e z hi'
    have hu := (hT t _ hi').desc
    simp only [descOk] at hu
    cases hte : T e with
    | none => rw [hte] at h; simp only at h; cases h
    | some ei =>
    rw [hte] at h
    simp only at h
    -- what stands for the greatest bound
    have bmx : ∀ (m hh : Int) (cap : Nat), ((m0 = none ∧ m = hh) ∨ m0 = some (.val (.int .i64 m))) → m = hh → hh ≤ cap → ∀ (a : Act) (w : World) (S : Nat → Prop) (π : Nat → Option Pl), evOk ev a w S π →
        ∃ M : Int, bnd (mx.map a.eval) cap M ∧ hh ≤ M ∧ M ≤ cap ∧ (mx.map a.eval = none ↔ m0 = none) ∧ (m0.isSome = true → M = hh) := by
      intro m hh cap hm h1 h2 a w S π hev
      rcases hm with ⟨rfl, rfl⟩ | rfl
      · obtain ⟨b1, e1⟩ := ev_bnd (d := cap) (n := cap) hmx (.inl ⟨rfl, rfl⟩) hev
        exact ⟨cap, b1, by omega, Int.le_refl _, e1, by simp⟩
      · obtain ⟨b1, e1⟩ := ev_bnd (d := cap) (n := m) hmx (.inr rfl) hev
        exact ⟨m, b1, by omega, by omega, e1, fun _ => h1⟩
    split at h
    · rename_i p
      obtain ⟨es, hes, h'⟩ := bind_inv h
      obtain ⟨l, h1, hl⟩ := boundK_inv h'
      obtain ⟨hh, h2, hh'⟩ := boundK_inv h1
      obtain ⟨m, h3, hm⟩ := boundK_inv h2
      clear h h' h1 h2
      cases asFs_inv hes
      split at h3
      · rename_i hle
        obtain ⟨rfl, rfl, rfl, rfl⟩ := ret4_inv h3
        obtain ⟨c1, c2, c3, c4, c5⟩ := hle
        refine opOk_pure fun a w S π hev hob => ?_
        have hv := hev x _ hx
        simp only [relTV] at hv
        obtain ⟨b1, e1⟩ := ev_bnd hlo hl hev
        obtain ⟨b2, e2⟩ := ev_bnd hhi hh' hev
        have hlen : ((es.take hh.toNat).drop l.toNat).length = hh.toNat - l.toNat := by simp; omega
        suffices hsuf : ∃ (u : Value) (M : Int), (Instr.sliceAt t (a.eval x) (lo.map a.eval) (hi.map a.eval) (mx.map a.eval)).run P w = .ok u w ∧ rel w S (.fs ((es.take hh.toNat).drop l.toNat)) u ∧ (∃ A, u = .slice A (hh.toNat - l.toNat) (M.toNat - l.toNat)) ∧ (m0.isSome = true → M = hh) by
          obtain ⟨u, M, q1, q2, ⟨A, q3⟩, q4⟩ := hsuf
          refine ⟨u, hexec a w _ q1, ?_⟩
          cases h0 : m0.isSome with
          | true =>
            simp only [cond_true, relTV]
            refine ⟨q2, A, ?_⟩
            rw [q3, hlen, q4 h0]
          | false => simp only [cond_false, relTV]; exact q2
        simp only [rel] at hv
        rcases hv with ⟨⟨A0, he⟩, h0'⟩ | ⟨b, s, cap, sz', he, hcap, hmax, hS, hr⟩
        · subst h0'
          simp only [List.length_nil] at c4 b2
          obtain ⟨M, b3, d1, d2, d3, d4⟩ := bmx m hh 0 hm c3 (by omega) a w S π hev
          have hr := run_sliceAt_sl hT hu hte (A := A0) (len := 0) (cap := 0) b1 b2 b3 (hok a w S π e2 d3) c1 c2 d1 d2 w
          refine ⟨_, M, by rw [he]; exact hr, ?_, ⟨_, rfl⟩, d4⟩
          simp only [rel]
          refine .inl ⟨⟨A0, ?_⟩, by simp⟩
          have z1 : l.toNat = 0 := by omega
          have z2 : hh.toNat = 0 := by omega
          have z3 : M.toNat = 0 := by omega
          rw [z1, z2, z3]; rfl
        · obtain ⟨M, b3, d1, d2, d3, d4⟩ := bmx m hh cap hm c3 (by omega) a w S π hev
          have hr' := run_sliceAt_sl hT hu hte (A := some ⟨b, s, none⟩) (len := es.length) (cap := cap) b1 b2 b3 (hok a w S π e2 d3) c1 c2 d1 d2 w
          refine ⟨_, M, by rw [he]; exact hr', ?_, ⟨_, rfl⟩, d4⟩
          simp only [rel]
          refine .inr ?_
          by_cases hml : M.toNat = l.toNat
          · refine ⟨b, s, M.toNat - l.toNat, sz', ?_, by omega, by omega, hS, ?_⟩
            · rw [hlen, if_pos hml]
            · have : (es.take hh.toNat).drop l.toNat = [] := List.eq_nil_of_length_eq_zero (by omega)
              rw [this]; simp only [relEs]
          · refine ⟨b, s + l.toNat * ei.size, M.toNat - l.toNat, sz', ?_, by omega, by omega, hS, ?_⟩
            · rw [hlen, if_neg hml]; simp [Addr.add_lit]
            · by_cases hes0 : es = []
              · subst hes0; simp [relEs]
              · have hsz : sz' = ei.size := by
                  cases es with
                  | nil => exact absurd rfl hes0
                  | cons e0 es =>
                    have g1 := (relEs_get hr (i := 0) rfl).1
                    have g2 : e0.length = ei.size := by simp only [allLen, List.all_cons, Bool.and_eq_true, beq_iff_eq] at c5; exact c5.1
                    omega
                rw [← hsz]
                exact relEs_drop (relEs_take hr hh.toNat) l.toNat
      · cases h3
    · rename_i id
      split at h
      · rename_i es sz' hl'
        obtain ⟨l, h1, hl⟩ := boundK_inv h
        obtain ⟨hh, h2, hh'⟩ := boundK_inv h1
        obtain ⟨m, h3, hm⟩ := boundK_inv h2
        clear h h1 h2
        split at h3
        · rename_i hle
          obtain ⟨rfl, rfl, rfl, rfl⟩ := ret4_inv h3
          obtain ⟨c1, c2, c3, c4, c5⟩ := hle
          refine opOk_pure fun a w S π hev hob => ?_
          have hv := hev x _ hx
          simp only [relTV] at hv
          obtain ⟨b1, e1⟩ := ev_bnd hlo hl hev
          obtain ⟨b2, e2⟩ := ev_bnd hhi hh' hev
          obtain ⟨pl, hp', hk⟩ := hob.ok id _ hl'
          rcases hv with ⟨hp, he⟩ | ⟨b, s, c, z', l', ad, hp, he, had⟩
          · rw [hp] at hp'; cases hp'
            simp only [obOk] at hk
            subst hk
            simp only [List.length_nil] at c4 b2
            obtain ⟨M, b3, d1, d2, d3, d4⟩ := bmx m hh 0 hm c3 (by omega) a w S π hev
            have hr := run_sliceAt_sl hT hu hte (A := none) (len := 0) (cap := 0) b1 b2 b3 (hok a w S π e2 d3) c1 c2 d1 d2 w
            refine ⟨_, hexec a w _ (by rw [he]; exact hr), ?_⟩
            simp only [relTV]
            refine .inl ⟨hp, ?_, by omega, by omega⟩
            have z1 : l.toNat = 0 := by omega
            have z2 : hh.toNat = 0 := by omega
            have z3 : M.toNat = 0 := by omega
            rw [z1, z2, z3]; rfl
          · rw [hp] at hp'; cases hp'
            simp only [obOk] at hk
            obtain ⟨rfl, rfl, hlc, hcm, _⟩ := hk
            obtain ⟨M, b3, d1, d2, d3, d4⟩ := bmx m hh c hm c3 (by omega) a w S π hev
            have hr' := run_sliceAt_sl hT hu hte (A := some ad) (len := es.length) (cap := c) b1 b2 b3 (hok a w S π e2 d3) c1 c2 d1 d2 w
            refine ⟨_, hexec a w _ (by rw [he]; exact hr'), ?_⟩
            simp only [relTV]
            refine .inr ?_
            have hlen : (hh - l).toNat = hh.toNat - l.toNat := by omega
            have hcp : m0.isSome = true → M.toNat - l.toNat = (hh - l).toNat := by
              intro hh2
              have := d4 hh2
              omega
            by_cases hml : M.toNat = l.toNat
            · refine ⟨b, s, c, _, _, ad, M.toNat - l.toNat, hp, ?_, by omega, .inl (by omega), by omega, hcp, by omega⟩
              rw [hlen, if_pos hml]
            · refine ⟨b, s, c, _, _, ⟨b, s + l.toNat * z', none⟩, M.toNat - l.toNat, hp, ?_, by omega, .inr rfl, by omega, hcp, by omega⟩
              have had' : ad = ⟨b, s, none⟩ := by
                rcases had with h0 | h0
                · exfalso; omega
                · exact h0
              rw [hlen, if_neg hml, had', c5]; simp [Addr.add_lit]
        · cases h3
      · cases h
    · rename_i id off len cp
      split at h
      · rename_i es sz' hl'
        obtain ⟨l, h1, hl⟩ := boundK_inv h
        obtain ⟨hh, h2, hh'⟩ := boundK_inv h1
        obtain ⟨m, h3, hm⟩ := boundK_inv h2
        clear h h1 h2
        split at h3
        · rename_i hle
          obtain ⟨rfl, rfl, rfl, rfl⟩ := ret4_inv h3
          obtain ⟨c1, c2, c3, c4, c5⟩ := hle
          refine opOk_pure fun a w S π hev hob => ?_
          have hv := hev x _ hx
          simp only [relTV] at hv
          obtain ⟨b1, e1⟩ := ev_bnd hlo hl hev
          obtain ⟨b2, e2⟩ := ev_bnd hhi hh' hev
          obtain ⟨pl, hp', hk⟩ := hob.ok id _ hl'
          rcases hv with ⟨hp, he, q1, q2⟩ | ⟨b, s, c, z', l', ad, cv, hp, he, k1, had, k2, k3, k4⟩
          · subst q1 q2
            obtain ⟨M, b3, d1, d2, d3, d4⟩ := bmx m hh 0 hm c3 (by omega) a w S π hev
            have hr := run_sliceAt_sl hT hu hte (A := none) (len := 0) (cap := 0) b1 b2 b3 (hok a w S π e2 d3) c1 c2 d1 d2 w
            refine ⟨_, hexec a w _ (by rw [he]; exact hr), ?_⟩
            simp only [relTV]
            refine .inl ⟨hp, ?_, by omega, by omega⟩
            have z1 : l.toNat = 0 := by omega
            have z2 : hh.toNat = 0 := by omega
            have z3 : M.toNat = 0 := by omega
            rw [z1, z2, z3]; rfl
          · rw [hp] at hp'; cases hp'
            simp only [obOk] at hk
            obtain ⟨rfl, rfl, hlc, hcm, _⟩ := hk
            obtain ⟨M, b3, d1, d2, d3, d4⟩ := bmx m hh cv hm c3 (by omega) a w S π hev
            have hr' := run_sliceAt_sl hT hu hte (A := some ad) (len := len) (cap := cv) b1 b2 b3 (hok a w S π e2 d3) c1 c2 d1 d2 w
            refine ⟨_, hexec a w _ (by rw [he]; exact hr'), ?_⟩
            simp only [relTV]
            refine .inr ?_
            have hlen : (hh - l).toNat = hh.toNat - l.toNat := by omega
            have hcp : m0.isSome = true → M.toNat - l.toNat = (hh - l).toNat := by
              intro hh2
              have := d4 hh2
              omega
            by_cases hml : M.toNat = l.toNat
            · refine ⟨b, s, c, _, _, ad, M.toNat - l.toNat, hp, ?_, by omega, .inl (by omega), by omega, hcp, by omega⟩
              rw [hlen, if_pos hml]
            · refine ⟨b, s, c, _, _, ⟨b, s + (off + l.toNat) * z', none⟩, M.toNat - l.toNat, hp, ?_, by omega, .inr rfl, by omega, hcp, by omega⟩
              have had' : ad = ⟨b, s + off * z', none⟩ := by
                rcases had with h0 | h0
                · exfalso; omega
                · exact h0
              rw [hlen, if_neg hml, had', ← c5]; simp [Addr.add_lit, Nat.add_mul, Nat.add_assoc]
        · cases h3
      · cases h
    · rename_i sz'
      obtain ⟨l, h1, hl⟩ := boundK_inv h
      obtain ⟨hh, h2, hh'⟩ := boundK_inv h1
      obtain ⟨m, h3, hm⟩ := boundK_inv h2
      clear h h1 h2
      split at h3
      · rename_i hle
        obtain ⟨rfl, rfl, rfl, rfl⟩ := ret4_inv h3
        obtain ⟨c1, c2, c3⟩ := hle
        refine opOk_pure fun a w S π hev hob => ?_
        have hv := hev x _ hx
        simp only [relTV] at hv
        obtain ⟨b1, e1⟩ := ev_bnd hlo hl hev
        obtain ⟨b2, e2⟩ := ev_bnd hhi hh' hev
        obtain ⟨b3, e3⟩ := ev_bnd hmx hm hev
        have hr := run_sliceAt_sl hT hu hte (A := none) (len := 0) (cap := 0) b1 b2 b3 (hok a w S π e2 e3) (by omega) (by omega) (by omega) (by omega) w
        refine ⟨_, hexec a w _ (by rw [hv]; exact hr), ?_⟩
        simp only [relTV]
        subst c1 c2 c3
        rfl
      · cases h3
    · cases h
  · cases h

end
end Go.Proofs.YtpaifgipdhgfkaaGreatDoorV

/- The reading machine's operations are told rightly: parts of tuples, lengths, conversions, iterators. -/
namespace Go.Proofs.YtpaifgipdhgfkaaGreatDoorV
open Go Go.RowKit

section
variable {P : Program} {T : TypeId → Option TI} {look : Nat → Option Ob} {nx : Nat} {ev : Operand → Option TV} {o : Oper} {v : TV} {up : List (Nat × Ob)} {nw : List Ob} {rd : List Nat}

theorem extract_ok {x : Operand} {i : Nat} {u : TV} (ho : o.op = .extract x i) (hx : ev x = some u)
    (h : (match u with
      | .tuple vs => match vs[i]? with | some v => ret4 v [] [] [] | none => none
      | .val p => (p.proj i).bind fun c => coeK T o.type c fun c => ret4 (.val c) [] [] []
      | _ => none) = some (v, up, nw, rd)) : OpOk P look nx ev o v up nw := by
  have hexec : ∀ (a : Act) (w : World) (r : Value), (Instr.extract (a.eval x) i).run P w = .ok r w → (execOp a.eval o).run P w = .ok (.value r) w := by
    intro a w r hr
    simp [execOp, ho, hr]
  cases u <;> simp only [reduceCtorEq] at h
  case tuple vs =>
    split at h
    · rename_i z hz
      obtain ⟨rfl, rfl, rfl, rfl⟩ := ret4_inv h
      refine opOk_pure fun a w S π hev hob => ?_
      have hv := hev x _ hx
      simp only [relTV] at hv
      obtain ⟨us, he, hr⟩ := hv
      obtain ⟨y, hy, hzy⟩ := relTVs_get hr hz
      refine ⟨y, hexec a w _ ?_, hzy⟩
      rw [he]
      simp only [Array.getElem?_toList] at hy
      simp [Instr.extract, hy]
    · cases h
  case val p =>
    obtain ⟨c, hc, h'⟩ := bind_inv h
    obtain ⟨h1, _⟩ := coeK_spec h'
    obtain ⟨rfl, rfl, rfl, rfl⟩ := ret4_inv h1
    refine opOk_pure fun a w S π hev hob => ?_
    have hv := hev x _ hx
    simp only [relTV] at hv
    cases p <;> simp only [PV.proj, reduceCtorEq] at hc
    simp only [rel] at hv
    obtain ⟨us, he, hr⟩ := hv
    obtain ⟨y, hy, hzy⟩ := relL_get hr hc
    refine ⟨y, hexec a w _ ?_, by simpa only [relTV] using hzy⟩
    rw [he]
    simp only [Array.getElem?_toList] at hy
    simp [Instr.extract, hy]

theorem run_getObj_at {w : World} {r : Nat} {x : Obj} (h : w.heap[r]? = some x) (hx : (x matches .cells _ _ _) = false) : (getObj r).run P w = .ok x w := by
  cases x <;> simp [getObj, Sem.run, h] at hx ⊢
theorem run_setObj_at {w : World} {r : Nat} {x y : Obj} (h : w.heap[r]? = some x) (hx : (x matches .cells _ _ _) = false) : ∃ w', (setObj r y).run P w = .ok () w' ∧ Upd w r y w' := by
  refine ⟨{ w with heap := w.heap.setIfInBounds r y }, ?_, rfl, rfl, rfl, by simp, ?_, ?_⟩
  · cases x <;> simp [setObj, Sem.run, h] at hx ⊢
  · intro k hk
    simp only [Array.getElem?_setIfInBounds]
    rw [if_neg (fun e => hk e.symm)]
  · have : r < w.heap.size := by
      cases hl : decide (r < w.heap.size) with
      | true => simpa using hl
      | false => rw [Array.getElem?_eq_none (by simpa using hl)] at h; cases h
    simp [this]

theorem relKV_length {w : World} {S : Nat → Prop} : ∀ {kvs : List (PV × PV)} {l : List MapEntry}, relKV w S kvs l → kvs.length = l.length
  | [], l, h => by simp only [relKV_nil] at h; subst h; rfl
  | kv :: kvs, l, h => by
    simp only [relKV_cons] at h
    obtain ⟨e, es', rfl, _, _, h3⟩ := h
    simp only [List.length_cons, relKV_length h3]

theorem list_one {α : Type} {l : List α} {f : α → Option TV} {x : TV} (h : allSome (l.map f) = some [x]) : ∃ a, l = [a] ∧ f a = some x := by
  cases l with
  | nil => simp [allSome] at h
  | cons a l =>
    simp only [List.map_cons] at h
    cases ha : f a with
    | none => rw [ha] at h; simp [allSome] at h
    | some y =>
      rw [ha] at h
      simp only [allSome] at h
      cases l with
      | nil => simp [allSome] at h; subst h; exact ⟨a, rfl, ha⟩
      | cons b l =>
        simp only [List.map_cons] at h
        split at h
        · rename_i r hr
          simp only [Option.some.injEq, List.cons.injEq] at h
          obtain ⟨rfl, rfl⟩ := h
          cases hb : f b <;> rw [hb] at hr <;> simp only [allSome] at hr
          · cases hr
          · split at hr <;> cases hr
        · cases h
theorem list_two {α : Type} {l : List α} {f : α → Option TV} {x y : TV} (h : allSome (l.map f) = some [x, y]) : ∃ a b, l = [a, b] ∧ f a = some x ∧ f b = some y := by
  cases l with
  | nil => simp [allSome] at h
  | cons a l =>
    simp only [List.map_cons] at h
    cases ha : f a with
    | none => rw [ha] at h; simp [allSome] at h
    | some z =>
      rw [ha] at h
      simp only [allSome] at h
      split at h
      · rename_i r hr
        simp only [Option.some.injEq, List.cons.injEq] at h
        obtain ⟨rfl, rfl⟩ := h
        obtain ⟨b, rfl, hb⟩ := list_one hr
        exact ⟨a, b, rfl, ha, hb⟩
      · cases h

theorem arr_one {α : Type} {a : Array α} {x : α} (h : a.toList = [x]) : a = #[x] := by apply Array.ext'; simpa using h
theorem arr_two {α : Type} {a : Array α} {x y : α} (h : a.toList = [x, y]) : a = #[x, y] := by apply Array.ext'; simpa using h
theorem arr_head {α : Type} {a : Array α} {x : α} {l : List α} (h : a.toList = x :: l) : a[0]? = some x := by rw [← Array.getElem?_toList, h]; rfl
theorem arr_snd {α : Type} {a : Array α} {x y : α} {l : List α} (h : a.toList = x :: y :: l) : a[1]? = some y := by rw [← Array.getElem?_toList, h]; rfl

theorem len_ok {c : Call} {x : TV} {t : TypeId} {ts : List TypeId} (hT : TOk P T) (ho : o.op = .call c) (hc : c.callee = .builtin .len) (hx : allSome (c.args.toList.map ev) = some [x]) (ht : c.argTypes.toList = t :: ts)
    (h : lenK T look t x ret4 = some (v, up, nw, rd)) : OpOk P look nx ev o v up nw := by
  obtain ⟨X, hX, hevX⟩ := list_one hx
  have hX' := arr_one hX
  have ht' := arr_head ht
  have hexec : ∀ (a : Act) (w : World) (r : Value), (∀ ty, (Builtin.len_ c.argTypes ty #[a.eval X]).run P w = .ok r w) → (execOp a.eval o).run P w = .ok (.value r) w := by
    intro a w r hr
    simp [execOp, ho, resolve, hc, hX', invoke, builtin, hr]
  unfold lenK at h
  split at h
  · rename_i sz by' z hi
    have hu := (hT t _ hi).desc
    simp only [descOk] at hu
    split at h
    · rename_i p
      obtain ⟨s, hs, h'⟩ := bind_inv h
      cases asS_inv hs
      obtain ⟨rfl, rfl, rfl, rfl⟩ := ret4_inv h'
      refine opOk_pure fun a w S π hev hob => ⟨_, hexec a w _ fun ty => ?_, by simp only [relTV, rel]; rfl⟩
      rw [ev_str hevX hev]
      simp [Builtin.len_, ht', run_underlying hu, goInt]
    · cases h
  · rename_i sz by' n e z hi
    have hu := (hT t _ hi).desc
    simp only [descOk] at hu
    obtain ⟨rfl, rfl, rfl, rfl⟩ := ret4_inv h
    refine opOk_pure fun a w S π hev hob => ⟨_, hexec a w _ fun ty => ?_, by simp only [relTV, rel]; rfl⟩
    simp [Builtin.len_, ht', run_underlying hu, goInt]
  · rename_i sz by' e z hi
    have hu := (hT t _ hi).desc
    simp only [descOk] at hu
    have hsl : ∀ (a : Act) (w : World) (ty : TypeId) A (n cap : Nat), a.eval X = .slice A n cap → (Builtin.len_ c.argTypes ty #[a.eval X]).run P w = .ok (.int .i64 n) w := by
      intro a w ty A n cap he
      rw [he]
      simp [Builtin.len_, ht', run_underlying hu, goInt]
    split at h
    · rename_i p
      obtain ⟨es, hs, h'⟩ := bind_inv h
      cases asFs_inv hs
      obtain ⟨rfl, rfl, rfl, rfl⟩ := ret4_inv h'
      refine opOk_pure fun a w S π hev hob => ⟨_, hexec a w (.int .i64 es.length) fun ty => ?_, by simp only [relTV, rel]⟩
      have hv := hev X _ hevX
      simp only [relTV, rel] at hv
      rcases hv with ⟨⟨A, he⟩, rfl⟩ | ⟨b, s, cap, sz', he, _⟩
      · exact hsl a w ty _ _ _ he
      · exact hsl a w ty _ _ _ he
    · rename_i id
      split at h
      · rename_i es sz' hl
        obtain ⟨rfl, rfl, rfl, rfl⟩ := ret4_inv h
        refine opOk_pure fun a w S π hev hob => ⟨_, hexec a w (.int .i64 es.length) fun ty => ?_, by simp only [relTV, rel]⟩
        have hv := hev X _ hevX
        simp only [relTV] at hv
        obtain ⟨pl, hp', hk⟩ := hob.ok id _ hl
        rcases hv with ⟨hp, he⟩ | ⟨b, s, c', z', l', ad, hp, he, _⟩
        · rw [hp] at hp'; cases hp'
          simp only [obOk] at hk; subst hk
          exact hsl a w ty _ _ _ he
        · rw [hp] at hp'; cases hp'
          simp only [obOk] at hk
          obtain ⟨rfl, _⟩ := hk
          exact hsl a w ty _ _ _ he
      · cases h
    · rename_i id off len cp
      obtain ⟨rfl, rfl, rfl, rfl⟩ := ret4_inv h
      refine opOk_pure fun a w S π hev hob => ⟨_, hexec a w (.int .i64 len) fun ty => ?_, by simp only [relTV, rel]⟩
      have hv := hev X _ hevX
      simp only [relTV] at hv
      rcases hv with ⟨_, he, _, rfl⟩ | ⟨b, s, c', z', l', ad, cv, hp, he, _⟩
      · exact hsl a w ty _ _ _ he
      · exact hsl a w ty _ _ _ he
    · obtain ⟨rfl, rfl, rfl, rfl⟩ := ret4_inv h
      refine opOk_pure fun a w S π hev hob => ⟨_, hexec a w (.int .i64 0) fun ty => ?_, by simp only [relTV, rel]⟩
      have hv := hev X _ hevX
      simp only [relTV] at hv
      exact hsl a w ty _ _ _ hv
    · cases h
  · rename_i sz by' kt et z hi
    have hu := (hT t _ hi).desc
    simp only [descOk] at hu
    split at h
    · rename_i id
      split at h
      · rename_i kvs hl
        obtain ⟨rfl, rfl, rfl, rfl⟩ := ret4_inv h
        refine opOk_pure fun a w S π hev hob => ⟨_, hexec a w (.int .i64 kvs.length) fun ty => ?_, by simp only [relTV, rel]⟩
        have hv := hev X _ hevX
        simp only [relTV] at hv
        obtain ⟨b, s, c', z', l', hp, he⟩ := hv
        obtain ⟨pl, hp', hk⟩ := hob.ok id _ hl
        rw [hp] at hp'; cases hp'
        simp only [obOk] at hk
        obtain ⟨es, clock, hg, _, hr⟩ := hk
        have hlen : kvs.length = es.size := by rw [← Array.length_toList]; exact relKV_length hr
        rw [he]
        simp [Builtin.len_, ht', run_underlying hu, goInt, run_getObj_at hg rfl, hlen]
      · cases h
    · rename_i p
      obtain ⟨kvs, hm, h'⟩ := bind_inv h
      obtain ⟨rfl, rfl, rfl, rfl⟩ := ret4_inv h'
      refine opOk_pure fun a w S π hev hob => ⟨_, hexec a w (.int .i64 kvs.length) fun ty => ?_, by simp only [relTV, rel]⟩
      have hv := hev X _ hevX
      simp only [relTV] at hv
      rcases asMp_inv hm hv with ⟨e, rfl⟩ | ⟨b, e, _, ms, clock, hg, _, hr⟩
      · rw [e]
        simp [Builtin.len_, ht', run_underlying hu, goInt]
      · have hlen : kvs.length = ms.size := by rw [← Array.length_toList]; exact relKV_length hr
        rw [e]
        simp [Builtin.len_, ht', run_underlying hu, goInt, run_getObj_at hg rfl, hlen]
    · cases h
  · cases h

theorem min_ok {c : Call} {p q : PV} {ik : IntKind} (ho : o.op = .call c) (hc : c.callee = .builtin .min) (hx : allSome (c.args.toList.map ev) = some [.val p, .val q])
    (h : ((p.asI ik).bind fun a => (q.asI ik).bind fun b => ret4 (.val (.int ik (if b < a then b else a))) [] [] []) = some (v, up, nw, rd)) : OpOk P look nx ev o v up nw := by
  obtain ⟨X, Y, hX, hevX, hevY⟩ := list_two hx
  have hX' := arr_two hX
  obtain ⟨a, ha, h'⟩ := bind_inv h
  obtain ⟨b, hb, h''⟩ := bind_inv h'
  cases asI_inv ha
  cases asI_inv hb
  obtain ⟨rfl, rfl, rfl, rfl⟩ := ret4_inv h''
  refine opOk_pure fun A w S π hev hob => ⟨_, ?_, by simp only [relTV, rel]; rfl⟩
  simp [execOp, ho, resolve, hc, hX', invoke, builtin, Builtin.min_, ev_int hevX hev, ev_int hevY hev, Builtin.min2]
theorem max_ok {c : Call} {p q : PV} {ik : IntKind} (ho : o.op = .call c) (hc : c.callee = .builtin .max) (hx : allSome (c.args.toList.map ev) = some [.val p, .val q])
    (h : ((p.asI ik).bind fun a => (q.asI ik).bind fun b => ret4 (.val (.int ik (if a < b then b else a))) [] [] []) = some (v, up, nw, rd)) : OpOk P look nx ev o v up nw := by
  obtain ⟨X, Y, hX, hevX, hevY⟩ := list_two hx
  have hX' := arr_two hX
  obtain ⟨a, ha, h'⟩ := bind_inv h
  obtain ⟨b, hb, h''⟩ := bind_inv h'
  cases asI_inv ha
  cases asI_inv hb
  obtain ⟨rfl, rfl, rfl, rfl⟩ := ret4_inv h''
  refine opOk_pure fun A w S π hev hob => ⟨_, ?_, by simp only [relTV, rel]; rfl⟩
  simp [execOp, ho, resolve, hc, hX', invoke, builtin, Builtin.max_, ev_int hevX hev, ev_int hevY hev, Builtin.max2]

theorem makeMap_ok {t : TypeId} (ho : o.op = .makeMap t none) (h : ret4 (.mp nx) [] [.map []] [] = some (v, up, nw, rd)) : OpOk P look nx ev o v up nw := by
  obtain ⟨rfl, rfl, rfl, rfl⟩ := ret4_inv h
  intro a w S π hev hob hf K Q hK
  obtain ⟨π', h1, h2, h3, h4, h5⟩ := obs_new (w' := w.alloc (.map #[] 0)) (ob := .map []) (c := .map #[] 0) hob hf rfl rfl rfl rfl 0 0 0 0 (by
    intro π' _ _ _
    simp only [obOk]
    exact ⟨#[], 0, by show (w.heap.push _)[w.heap.size]? = _; simp, ⟨by simp, by simp⟩, by simp only [relKV_nil]⟩)
  unfold Oper.wp
  have hr : (execOp a.eval o).run P w = .ok (.value (.map (some w.heap.size))) (w.alloc (.map #[] 0)) := by
    simp [execOp, ho, Instr.makeMap]
  rw [hr]
  refine hK _ _ S π' ⟨?_, h1, h2, h3, h5⟩
  simp only [relTV]
  exact ⟨_, _, _, _, _, h4, rfl⟩

theorem range_ok {t : TypeId} {x : Operand} {sz by' : Nat} {z : List TV} {s : ByteArray} (hT : TOk P T) (ho : o.op = .range t x) (hi : T t = some ⟨sz, by', .string, z⟩) (hx : ev x = some (.val (.str s)))
    (h : ret4 (.it nx) [] [.sit s 0] [] = some (v, up, nw, rd)) : OpOk P look nx ev o v up nw := by
  obtain ⟨rfl, rfl, rfl, rfl⟩ := ret4_inv h
  have hu := (hT t _ hi).desc
  simp only [descOk] at hu
  intro a w S π hev hob hf K Q hK
  obtain ⟨π', h1, h2, h3, h4, h5⟩ := obs_new (w' := w.alloc (.stringIter s 0)) (ob := .sit s 0) (c := .stringIter s 0) hob hf rfl rfl rfl rfl 0 0 0 0 (by
    intro π' _ _ _
    simp only [obOk]
    show (w.heap.push _)[w.heap.size]? = _; simp)
  unfold Oper.wp
  have hr : (execOp a.eval o).run P w = .ok (.value (.pointer (some ⟨w.heap.size, 0, none⟩))) (w.alloc (.stringIter s 0)) := by
    simp [execOp, ho, ev_str hx hev, Instr.range, run_underlying hu]
  rw [hr]
  refine hK _ _ S π' ⟨?_, h1, h2, h3, h5⟩
  simp only [relTV]
  exact ⟨_, _, _, _, _, h4, rfl⟩

theorem rangeM_ok {t : TypeId} {x : Operand} {sz by' : Nat} {kt et : TypeId} {z : List TV} {p : PV} {kvs : List (PV × PV)} (hT : TOk P T) (ho : o.op = .range t x) (hi : T t = some ⟨sz, by', .map kt et, z⟩) (hx : ev x = some (.val p)) (hm : p.asMp = some kvs)
    (h : ret4 (.it nx) [] [.mit kvs []] [] = some (v, up, nw, rd)) : OpOk P look nx ev o v up nw := by
  obtain ⟨rfl, rfl, rfl, rfl⟩ := ret4_inv h
  have hu := (hT t _ hi).desc
  simp only [descOk] at hu
  intro a w S π hev hob hf K Q hK
  have hv := hev x _ hx
  simp only [relTV] at hv
  have go : ∀ (m : Option Nat) (since last : Nat), mitOk w S kvs [] since #[] last m → (execOp a.eval o).run P w = .ok (.value (.pointer (some ⟨w.heap.size, 0, none⟩))) (w.alloc (.mapIter m since #[] last)) → o.wp P a w K Q := by
    intro m since last hmit hr
    obtain ⟨π', h1, h2, h3, h4, h5⟩ := obs_new (w' := w.alloc (.mapIter m since #[] last)) (ob := .mit kvs []) (c := .mapIter m since #[] last) hob hf rfl rfl rfl rfl 0 0 0 0 (by
      intro π' _ _ hk
      simp only [obOk]
      exact ⟨m, since, #[], last, by show (w.heap.push _)[w.heap.size]? = _; simp, mitOk_keep hk hmit⟩)
    unfold Oper.wp
    rw [hr]
    refine hK _ _ S π' ⟨?_, h1, h2, h3, h5⟩
    simp only [relTV]
    exact ⟨_, _, _, _, _, h4, rfl⟩
  rcases asMp_inv hm hv with ⟨e, rfl⟩ | ⟨b, e, hS, ms, clock, hg, hst, hr⟩
  · refine go none 0 0 ⟨rfl, rfl⟩ ?_
    simp [execOp, ho, e, Instr.range, run_underlying hu]
  · refine go (some b) clock clock ⟨hS, ms, clock, hg, hst, rfl, rfl, ?_, .inl rfl⟩ ?_
    · have : ms.toList.filter (fun e => !(#[] : Array Nat).contains e.born) = ms.toList := by simp
      rw [this]
      exact hr
    · simp [execOp, ho, e, Instr.range, run_underlying hu, run_getObj_at hg rfl]

theorem entry_ok {x : Operand} {id : Nat} {left : List (PV × PV)} {p q : PV} (ho : o.op = .entry x) (hx : ev x = some (.it id)) (hl : look id = some (.mit left [p, q]))
    (h : ret4 (.tuple [.val p, .val q]) [] [] [id] = some (v, up, nw, rd)) : OpOk P look nx ev o v up nw := by
  obtain ⟨rfl, rfl, rfl, rfl⟩ := ret4_inv h
  refine opOk_pure fun a w S π hev hob => ?_
  have hv := hev x _ hx
  simp only [relTV] at hv
  obtain ⟨b, s', c', z', l', hp, he⟩ := hv
  obtain ⟨pl, hp', hk⟩ := hob.ok id _ hl
  rw [hp] at hp'; cases hp'
  simp only [obOk] at hk
  obtain ⟨m, since, seen, last, hg, hm⟩ := hk
  cases m with
  | none => exact absurd hm.2 (by simp)
  | some r =>
    obtain ⟨hS, ms, clock, hgm, hst, rfl, rfl, hkv, hc⟩ := hm
    rcases hc with hc | ⟨e, hme, hb, hc⟩
    · cases hc
    · simp only [relL] at hc
      obtain ⟨_, _, h1, hk1, _, _, h2, hk2, _⟩ := hc
      cases h1
      cases h2
      have hf : ms.find? (fun x => x.born == e.born) = some e := by
        rw [← Array.find?_toList]
        obtain ⟨i, hi, hie⟩ := List.mem_iff_getElem.1 hme
        rw [List.find?_eq_some_iff_getElem]
        refine ⟨by simp, i, hi, hie, fun j hj => ?_⟩
        have := (List.pairwise_iff_getElem.1 hst.2) j i (by omega) hi hj
        rw [hie] at this
        simpa using this
      refine ⟨.tuple #[e.key, e.val], ?_, ?_⟩
      · rw [show (execOp a.eval o) = (do pure (Next.value (← Instr.entry (a.eval x))) : Sem Next) by simp [execOp, ho]]
        simp [Instr.entry, he, run_getObj_at hg rfl, run_getObj_at hgm rfl, hb, hf]
      · simp only [relTV, relTVs]
        exact ⟨_, rfl, _, _, rfl, hk1, _, _, rfl, hk2, rfl⟩

theorem next_ok {x : Operand} {u : TV} (ho : o.op = .next x true) (hx : ev x = some u) (h : nextK look u ret4 = some (v, up, nw, rd)) : OpOk P look nx ev o v up nw := by
  have hexec : ∀ (a : Act) (w w' : World) (r : Value), (Instr.next (a.eval x) true o.type).run P w = .ok r w' → (execOp a.eval o).run P w = .ok (.value r) w' := by
    intro a w w' r hr
    simp [execOp, ho, hr]
  unfold nextK at h
  split at h
  · rename_i id
    split at h
    · rename_i s pos hl
      split at h
      · rename_i hlt
        obtain ⟨rfl, rfl, rfl, rfl⟩ := ret4_inv h
        intro a w S π hev hob hf K Q hK
        have hv := hev x _ hx
        simp only [relTV] at hv
        obtain ⟨b, s', c', z', l', hp, he⟩ := hv
        obtain ⟨pl, hp', hk⟩ := hob.ok id _ hl
        rw [hp] at hp'; cases hp'
        simp only [obOk] at hk
        obtain ⟨w', hw1, hw2⟩ := run_setObj_at (P := P) (y := .stringIter s (pos + (Utf8.decode s pos).2)) hk rfl
        obtain ⟨h1, h2⟩ := obs_turn (nx := nx) (ob' := .sit s (pos + (Utf8.decode s pos).2)) hob hl rfl rfl hp hw2 (fun _ => by simp only [obOk]; exact hw2.here)
        unfold Oper.wp
        rw [hexec a w w' (.tuple #[.bool true, .int .i64 pos, .int .i32 (Utf8.decode s pos).1]) (by
          rw [he]
          simp [Instr.next, run_getObj_at hk rfl, hlt, hw1, goInt])]
        refine hK _ _ S π ⟨?_, h1, Ext.refl _, fun id h => .inl h, h2⟩
        simp only [relTV, relTVs]
        refine ⟨_, rfl, _, _, rfl, ?_, _, _, rfl, ?_, _, _, rfl, ?_, rfl⟩ <;> simp only [rel]
      · rename_i hlt
        obtain ⟨rfl, rfl, rfl, rfl⟩ := ret4_inv h
        refine opOk_pure fun a w S π hev hob => ⟨_, hexec a w w (.tuple #[.bool false]) ?_, ?_⟩
        · have hv := hev x _ hx
          simp only [relTV] at hv
          obtain ⟨b, s', c', z', l', hp, he⟩ := hv
          obtain ⟨pl, hp', hk⟩ := hob.ok id _ hl
          rw [hp] at hp'; cases hp'
          simp only [obOk] at hk
          rw [he]
          simp [Instr.next, run_getObj_at hk rfl, hlt]
        · simp only [relTV, relTVs]
          exact ⟨_, rfl, _, _, rfl, by simp only [rel], rfl⟩
    · cases h
  · cases h

end
end Go.Proofs.YtpaifgipdhgfkaaGreatDoorV
