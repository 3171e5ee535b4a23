/- The reading machine's operations are told rightly: stores. -/
import Derived.Test.YtgpjnppakffoiaaVOps1
namespace Go.Proofs.YtgpjnppakffoiaaV
open Go Go.RowKit

section
variable {P : Program} {T : TypeId → Option TI} {look : Nat → Option Ob} {nx : Nat} {ev : Operand → Option TV} {o : Oper} {v : TV} {up : List (Nat × Ob)} {nw : List Ob} {rd : List Nat}

theorem toList_of_size {C D : Array Value} (h : C.toList = D.toList) : C = D := Array.ext' h

theorem run_storeVar_one {t : TypeId} {i : TI} (h : TyOk P t i) (hd : i.desc.isAgg = false) {w : World} {b o' : Nat} {C : Array Value} {t' : TypeId} {fr : Nat × Nat} {u : Value} (hg : w.heap[b]? = some (.cells C t' fr)) (hf : unfrozen C fr) (hi : o' < C.size) (hu : u.oneCell' = true) :
    (storeVar t ⟨b, o', none⟩ u).run P w = .ok () (w.setCell ⟨b, o', none⟩ u) := by
  have h1 := h.one hd
  simp only [storeVar, Sem.run_bind, run_sizeOf h, Result.andThen_ok, oneCell_cells hu, List.size_toArray, List.length_cons, List.length_nil, h1]
  have e : ({ block := b, off := o' } : Addr).add 0 = ⟨b, o', none⟩ := Addr.add_lit b o' 0
  simp only [storeCells, ne_eq, not_true_eq_false, if_false, Sem.run_pure, Result.andThen_ok, e, Sem.run_bind, run_store_at hg hf hi hu]

theorem run_storeVar_agg {t : TypeId} {i : TI} (h : TyOk P t i) {w : World} {b o' : Nat} {C : Array Value} {t' : TypeId} {fr : Nat × Nat} {us : Array Value} (hg : w.heap[b]? = some (.cells C t' fr)) (hf : unfrozen C fr) (hi : o' + us.size ≤ C.size) (hn : us.size = i.size) (h1 : ∀ u ∈ us.toList, u.oneCell' = true) :
    ∃ w' C', (storeVar t ⟨b, o', none⟩ (.agg us)).run P w = .ok () w' ∧ Upd w b (.cells C' t' fr) w' ∧ C'.size = C.size ∧ C'.toList = C.toList.take o' ++ us.toList ++ C.toList.drop (o' + us.size) := by
  obtain ⟨w', C', hr, hu, hs, hc⟩ := run_storeCells_blk (P := P) (o := o') us.toList 0 C w hg hf (by simpa using hi) h1
  refine ⟨w', C', ?_, hu, hs, by simpa using hc⟩
  simp only [storeVar, Sem.run_bind, run_sizeOf h, Result.andThen_ok, cells_agg, hn]
  simpa using hr

theorem unfrozen_size {C C' : Array Value} {fr : Nat × Nat} (h : unfrozen C fr) (hs : C'.size = C.size) : unfrozen C' fr := by
  exact h.imp id fun h => by rw [hs]; exact h

theorem store_turn {t : TypeId} {x y : Operand} {id : Nat} {ob ob' : Ob} (ho : o.op = .store t x y) (hl : look id = some ob) (hlive : ob.live = true) (hlive' : ob'.live = true)
    (hrun : ∀ a w S π, evOk ev a w S π → ObsOk w S π look → ∃ b s c z l w' C, π id = some (.at b s c z l) ∧ (Instr.storeAt t (a.eval x) (a.eval y)).run P w = .ok () w' ∧ Upd w b C w' ∧
      (Keep w S w' S → obOk w' S π ob' (.at b s c z l))) : OpOk P look nx ev o .undef [(id, ob')] [] := by
  intro a w S π hev hob hf K Q hK
  obtain ⟨b, s, c, z, l, w', C, hp, hr, hu, hk⟩ := hrun a w S π hev hob
  have he : (execOp a.eval o).run P w = .ok .skip w' := by simp [execOp, ho, hr]
  obtain ⟨h1, h2⟩ := obs_turn (nx := nx) hob hl hlive hlive' hp hu hk
  unfold Oper.wp
  rw [he]
  exact hK undef w' S π ⟨by simp only [relTV], h1, Ext.refl _, fun _ h => .inl h, h2⟩

theorem rel_set_cells {w : World} {S : Nat → Prop} {cs : List PV} {us : List Value} {off n : Nat} {ds : List PV} {vs : List Value} (h : relL w S cs us) (hd : relL w S ds vs) :
    relL w S (cs.take off ++ ds ++ cs.drop (off + n)) (us.take off ++ vs ++ us.drop (off + n)) :=
  relL_append (relL_append (relL_take h off) hd) (relL_drop h (off + n))

theorem toPV_rel {w : World} {S : Nat → Prop} {π : Nat → Option Pl} {tv : TV} {q : PV} {u : Value} (h : toPV tv = some q) (hr : relTV w S π tv u) : rel w S q u := by
  unfold toPV at h
  split at h
  · cases h; simpa only [relTV] using hr
  · cases h
    simp only [relTV] at hr
    subst hr
    simp only [rel]
    exact .inl ⟨⟨_, rfl⟩, trivial⟩
  · rename_i cs
    split at h
    · rename_i ps hps
      cases h
      simp only [relTV] at hr
      obtain ⟨us, rfl, h1, h2⟩ := hr
      simp only [rel]
      refine ⟨us, rfl, h1, ?_⟩
      clear h1
      generalize us.toList = l at h2
      induction cs generalizing ps l with
      | nil =>
        simp only [List.map_nil, allSome, Option.some.injEq] at hps
        subst hps
        simpa only [relTVs, relL] using h2
      | cons c cs ih =>
        simp only [relTVs] at h2
        obtain ⟨u, us', rfl, g1, g2⟩ := h2
        cases c
        case val p =>
          simp only [List.map_cons, allSome] at hps
          split at hps
          · rename_i r hr'
            cases hps
            simp only [relL]
            exact ⟨u, us', rfl, by simpa only [relTV] using g1, ih r hr' us' g2⟩
          · cases hps
        case nil sz =>
          simp only [List.map_cons, allSome] at hps
          split at hps
          · rename_i r hr'
            cases hps
            simp only [relTV] at g1
            subst g1
            simp only [relL]
            exact ⟨_, us', rfl, by simp only [rel]; exact .inl ⟨⟨_, rfl⟩, trivial⟩, ih r hr' us' g2⟩
          · cases hps
        all_goals (simp only [List.map_cons, allSome] at hps; cases hps)
    · cases h
  · cases h

/-- One element of a row turns. -/
theorem relEs_set {w : World} {S : Nat → Prop} {b s sz m : Nat} {es : List (List PV)} {e' : List PV} (h : relEs w S b s sz es) (hl : e'.length = sz) (he : relCs w S b (s + m * sz) e') : relEs w S b s sz (es.set m e') :=
  relEs_of fun i e hi => by
    rw [List.getElem?_set] at hi
    split at hi
    · rename_i hmi
      subst hmi
      split at hi
      · cases hi; exact ⟨hl, he⟩
      · cases hi
    · exact relEs_get h hi

/-- What a block's cells read as, when some others of its cells have turned. -/
theorem relCs_other {w w' : World} {S : Nat → Prop} {b o' : Nat} {cs : List PV} (hk : Keep w S w' S) (hc : ∀ i, i < cs.length → w'.cell? ⟨b, o' + i, none⟩ = w.cell? ⟨b, o' + i, none⟩) (h : relCs w S b o' cs) : relCs w' S b o' cs :=
  relCs_of fun i p hp => by
    obtain ⟨u, h1, h2, h3⟩ := relCs_get h hp
    exact ⟨u, (hc i (by have := List.getElem?_eq_some_iff.1 hp; exact this.1)).trans h1, h2, rel_keep hk _ _ h3⟩

theorem cell_upd {w w' : World} {b : Nat} {C : Array Value} {t : TypeId} {fr : Nat × Nat} (h : Upd w b (.cells C t fr) w') (i : Nat) : w'.cell? ⟨b, i, none⟩ = C[i]? := cell_of_row w' b i C t fr h.here

theorem relEs_turn {w w' : World} {S : Nat → Prop} {b s sz : Nat} {C C' : Array Value} {t : TypeId} {fr fr' : Nat × Nat} {es : List (List PV)} {m : Nat} {e' : List PV} (hk : Keep w S w' S) (hg : w.heap[b]? = some (.cells C t fr))
    (hu : Upd w b (.cells C' t fr') w') (hsame : ∀ i, ¬ (s + m * sz ≤ i ∧ i < s + m * sz + sz) → C'[i]? = C[i]?) (h : relEs w S b s sz es) (hl : e'.length = sz) (he : relCs w' S b (s + m * sz) e') : relEs w' S b s sz (es.set m e') := by
  refine relEs_of fun i e hi => ?_
  rw [List.getElem?_set] at hi
  split at hi
  · rename_i hmi
    subst hmi
    split at hi
    · cases hi; exact ⟨hl, he⟩
    · cases hi
  · rename_i hne
    obtain ⟨h1, h2⟩ := relEs_get h hi
    refine ⟨h1, relCs_other hk (fun j hj => ?_) h2⟩
    rw [cell_upd hu, cell_of_row w b _ C t fr hg]
    refine hsame _ fun hh => hne ?_
    rw [h1] at hj
    have a1 : m * sz < (i + 1) * sz := by rw [Nat.add_mul]; omega
    have a2 : i * sz < (m + 1) * sz := by rw [Nat.add_mul]; omega
    have b1 := Nat.lt_of_mul_lt_mul_right a1
    have b2 := Nat.lt_of_mul_lt_mul_right a2
    omega

theorem store_ok {t : TypeId} {x y : Operand} {tv yv : TV} (hT : TOk P T) (ho : o.op = .store t x y) (hx : ev x = some tv) (hy : ∀ a w S π, evOk ev a w S π → relTV w S π yv (a.eval y)) (ht : (T t).isSome = true)
    (h : storeK T look t tv yv ret4 = some (v, up, nw, rd)) : OpOk P look nx ev o v up nw := by
  obtain ⟨i, hi⟩ := Option.isSome_iff_exists.1 ht
  have hty := hT t i hi
  have hag := isAggT_eq hi
  have hsz := tsize_eq hi
  have hexec : ∀ (a : Act) (w : World) (b o' : Nat), a.eval x = .pointer (some ⟨b, o', none⟩) → (Instr.storeAt t (a.eval x) (a.eval y)).run P w = (storeVar t ⟨b, o', none⟩ (a.eval y)).run P w := by
    intro a w b o' he
    simp [Instr.storeAt, he, Instr.sureAddr]
  unfold storeK at h
  split at h
  · rename_i id off
    split at h
    · rename_i cs hl
      split at h
      · rename_i hA
        rw [hag] at hA
        rw [hsz] at h
        split at h
        · rename_i hle
          split at h
          · rename_i q hwh
            split at h
            case isFalse => cases h
            rename_i hq
            simp only [ret4, Option.some.injEq, Prod.mk.injEq] at h
            obtain ⟨rfl, rfl, rfl, rfl⟩ := h
            have hw2 : yv = .val q ∧ off = 0 ∧ i.size = cs.length := by
              unfold whole at hwh
              split at hwh
              · split at hwh
                · rename_i hh; cases hwh; exact ⟨rfl, hh⟩
                · cases hwh
              · cases hwh
            obtain ⟨rfl, rfl, hcl⟩ := hw2
            refine store_turn ho hl rfl rfl fun a w S π hev hob => ?_
            have hv := hev x _ hx
            simp only [relTV] at hv
            obtain ⟨b, s, c, z, l, hp, he⟩ := hv
            obtain ⟨pl, hp', hk⟩ := hob.ok id _ hl
            rw [hp] at hp'; cases hp'
            simp only [obOk] at hk
            obtain ⟨rfl, C, t', fr, hg, hu, h1, hr⟩ := hk
            have hlen := relTVs_length hr
            have hyr := hy a w S π hev
            simp only [relTV] at hyr
            obtain ⟨ds, us, rfl, hyu, k1, k2, k3, k4⟩ := rel_agg hyr hq
            obtain ⟨w', C', hr', hu', hs', hc'⟩ := run_storeVar_agg hty (o' := 0 + 0) (us := us) hg hu (by simp at hlen; omega) (by omega) k1
            refine ⟨b, 0, c, z, l, w', _, hp, ?_, hu', ?_⟩
            · rw [hexec a w b _ he, hyu]; exact hr'
            · intro hkeep
              have hC : C' = us := by
                refine toList_of_size ?_
                rw [hc']
                simp only [Nat.add_zero, List.take_zero, List.nil_append]
                rw [List.drop_of_length_le (by omega)]
                simp
              simp only [obOk]
              subst hC
              refine ⟨trivial, C', t', fr, hu'.here, unfrozen_size hu hs', k1, by omega, hq, rel_keep hkeep _ _ ?_⟩
              simp only [rel]
              exact ⟨C', rfl, k1, k2⟩
          split at h
          · rename_i ds hds
            simp only [ret4, Option.some.injEq, Prod.mk.injEq] at h
            obtain ⟨rfl, rfl, rfl, rfl⟩ := h
            refine store_turn ho hl rfl rfl fun a w S π hev hob => ?_
            have hv := hev x _ hx
            simp only [relTV] at hv
            obtain ⟨b, s, c, z, l, hp, he⟩ := hv
            obtain ⟨pl, hp', hk⟩ := hob.ok id _ hl
            rw [hp] at hp'; cases hp'
            simp only [obOk] at hk
            obtain ⟨rfl, C, t', fr, hg, hu, h1, hr⟩ := hk
            obtain ⟨us, hy1, hy2, hy3, hy4⟩ := tcells_rel hds (hy a w S π hev)
            have hlen := relTVs_length hr
            obtain ⟨w', C', hr', hu', hs', hc'⟩ := run_storeVar_agg hty (o' := 0 + off) hg hu (by simp at hlen; omega) hy2 hy3
            refine ⟨b, 0, c, z, l, w', _, hp, ?_, hu', ?_⟩
            · rw [hexec a w b _ he, hy1]; exact hr'
            · intro hkeep
              simp only [obOk]
              refine ⟨trivial, C', t', fr, hu'.here, unfrozen_size hu hs', ?_, ?_⟩
              · intro u hu
                rw [hc'] at hu
                simp only [List.mem_append] at hu
                rcases hu with (hu | hu) | hu
                · exact h1 u (List.mem_of_mem_take hu)
                · exact hy3 u hu
                · exact h1 u (List.mem_of_mem_drop hu)
              · rw [hc']
                have := relTVs_keep hkeep (Ext.refl π) _ _ (relTVs_append (relTVs_append (relTVs_take hr off) hy4) (relTVs_drop hr (off + i.size)))
                simpa [hy2] using this
          · cases h
        · cases h
      · rename_i hA
        rw [hag] at hA
        split at h
        · rename_i hle
          simp only [ret4, Option.some.injEq, Prod.mk.injEq] at h
          obtain ⟨rfl, rfl, rfl, rfl⟩ := h
          refine store_turn ho hl rfl rfl fun a w S π hev hob => ?_
          have hv := hev x _ hx
          simp only [relTV] at hv
          obtain ⟨b, s, c, z, l, hp, he⟩ := hv
          obtain ⟨pl, hp', hk⟩ := hob.ok id _ hl
          rw [hp] at hp'; cases hp'
          simp only [obOk] at hk
          obtain ⟨rfl, C, t', fr, hg, hu, h1, hr⟩ := hk
          have hlen := relTVs_length hr
          have hyr := hy a w S π hev
          have hone := relTV_one hyr hle.2
          have hu' := setCell_upd w b (0 + off) C t' fr (a.eval y) hg
          refine ⟨b, 0, c, z, l, _, _, hp, ?_, hu', ?_⟩
          · rw [hexec a w b _ he]
            exact run_storeVar_one hty (by simpa using hA) hg hu (by simp at hlen; omega) hone
          · intro hkeep
            simp only [obOk]
            refine ⟨trivial, _, t', fr, hu'.here, unfrozen_size hu (by simp), ?_, ?_⟩
            · intro u hu
              simp only [Array.toList_setIfInBounds] at hu
              rcases List.mem_or_eq_of_mem_set hu with hu | rfl
              · exact h1 u hu
              · exact hone
            · have e0 : ((C.setIfInBounds (0 + off) (a.eval y)).toList) = C.toList.set off (a.eval y) := by simp
              rw [e0]
              exact relTVs_keep hkeep (Ext.refl π) _ _ (relTVs_set hr off hyr)
        · cases h
    · rename_i p n hl
      have key : ∀ a w S π, evOk ev a w S π → ObsOk w S π look → ∃ b c z l, π id = some (.at b 0 c z l) ∧ a.eval x = .pointer (some ⟨b, 0 + off, none⟩) ∧
          ∃ cs C t' fr, p = .agg cs ∧ cs.length = n ∧ w.heap[b]? = some (.cells C t' fr) ∧ unfrozen C fr ∧ C.size = n ∧ (∀ u ∈ C.toList, u.oneCell' = true) ∧ relL w S cs C.toList := by
        intro a w S π hev hob
        have hv := hev x _ hx
        simp only [relTV] at hv
        obtain ⟨b, s, c, z, l, hp, he⟩ := hv
        obtain ⟨pl, hp', hk⟩ := hob.ok id _ hl
        rw [hp] at hp'; cases hp'
        simp only [obOk] at hk
        obtain ⟨rfl, C, t', fr, hg, hu, h1, hn, hpa, hr⟩ := hk
        obtain ⟨cs, us, rfl, hus, g1, g2, g3, g4⟩ := rel_agg hr hpa
        cases hus
        exact ⟨b, c, z, l, hp, he, cs, C, t', fr, rfl, g3, hg, hu, hn, g1, g2⟩
      split at h
      · rename_i hA
        rw [hag] at hA
        rw [hsz] at h
        split at h
        · rename_i q
          split at h
          · rename_i hwhole
            split at h
            · rename_i hq
              simp only [ret4, Option.some.injEq, Prod.mk.injEq] at h
              obtain ⟨rfl, rfl, rfl, rfl⟩ := h
              refine store_turn ho hl rfl rfl fun a w S π hev hob => ?_
              obtain ⟨b, c, z, l, hp, he, cs, C, t', fr, rfl, g3, hg, hu, hn, g1, g2⟩ := key a w S π hev hob
              have hyr := hy a w S π hev
              simp only [relTV] at hyr
              obtain ⟨ds, us, rfl, hyu, k1, k2, k3, k4⟩ := rel_agg hyr hq
              obtain ⟨w', C', hr', hu', hs', hc'⟩ := run_storeVar_agg hty (o' := 0 + off) (us := us) hg hu (by omega) (by omega) k1
              refine ⟨b, 0, c, z, l, w', _, hp, ?_, hu', ?_⟩
              · rw [hexec a w b _ he, hyu]; exact hr'
              · intro hkeep
                have hC : C' = us := by
                  refine toList_of_size ?_
                  rw [hc', hwhole.1]
                  simp only [Nat.add_zero, List.take_zero, List.nil_append]
                  rw [List.drop_of_length_le (by simp; omega)]
                  simp
                simp only [obOk]
                subst hC
                refine ⟨trivial, C', t', fr, hu'.here, unfrozen_size hu hs', k1, k4, hq, rel_keep hkeep _ _ ?_⟩
                simp only [rel]
                exact ⟨C', rfl, k1, k2⟩
            · cases h
          · split at h
            · rename_i hle
              split at h
              · rename_i hq
                simp only [ret4, Option.some.injEq, Prod.mk.injEq] at h
                obtain ⟨rfl, rfl, rfl, rfl⟩ := h
                refine store_turn ho hl rfl rfl fun a w S π hev hob => ?_
                obtain ⟨b, c, z, l, hp, he, cs, C, t', fr, rfl, g3, hg, hu, hn, g1, g2⟩ := key a w S π hev hob
                have hyr := hy a w S π hev
                simp only [relTV] at hyr
                obtain ⟨ds, us, rfl, hyu, k1, k2, k3, k4⟩ := rel_agg hyr hq
                obtain ⟨w', C', hr', hu', hs', hc'⟩ := run_storeVar_agg hty (o' := 0 + off) (us := us) hg hu (by omega) (by omega) k1
                refine ⟨b, 0, c, z, l, w', _, hp, ?_, hu', ?_⟩
                · rw [hexec a w b _ he, hyu]; exact hr'
                · intro hkeep
                  simp only [obOk, PV.cells]
                  refine ⟨trivial, C', t', fr, hu'.here, unfrozen_size hu hs', ?_, by omega, ?_, rel_keep hkeep _ _ ?_⟩
                  · intro u hu
                    rw [hc'] at hu
                    simp only [List.mem_append] at hu
                    rcases hu with (hu | hu) | hu
                    · exact g1 u (List.mem_of_mem_take hu)
                    · exact k1 u hu
                    · exact g1 u (List.mem_of_mem_drop hu)
                  · simp [PV.isAgg]; omega
                  · simp only [rel]
                    refine ⟨C', rfl, ?_, ?_⟩
                    · intro u hu
                      rw [hc'] at hu
                      simp only [List.mem_append] at hu
                      rcases hu with (hu | hu) | hu
                      · exact g1 u (List.mem_of_mem_take hu)
                      · exact k1 u hu
                      · exact g1 u (List.mem_of_mem_drop hu)
                    · rw [hc']
                      have := rel_set_cells (off := off) (n := i.size) g2 k2
                      simpa [k4] using this
              · cases h
            · cases h
        · rename_i ds
          split at h
          · rename_i hwhole
            simp only [ret4, Option.some.injEq, Prod.mk.injEq] at h
            obtain ⟨rfl, rfl, rfl, rfl⟩ := h
            refine store_turn ho hl rfl rfl fun a w S π hev hob => ?_
            obtain ⟨b, c, z, l, hp, he, cs, C, t', fr, rfl, g3, hg, hu, hn, g1, g2⟩ := key a w S π hev hob
            have hyr := hy a w S π hev
            simp only [relTV] at hyr
            obtain ⟨us, hyu, k1, k2⟩ := hyr
            have k4 := relTVs_length k2
            simp at k4
            obtain ⟨w', C', hr', hu', hs', hc'⟩ := run_storeVar_agg hty (o' := 0 + off) (us := us) hg hu (by omega) (by omega) k1
            refine ⟨b, 0, c, z, l, w', _, hp, ?_, hu', ?_⟩
            · rw [hexec a w b _ he, hyu]; exact hr'
            · intro hkeep
              have hC : C' = us := by
                refine toList_of_size ?_
                rw [hc', hwhole.1]
                simp only [Nat.add_zero, List.take_zero, List.nil_append]
                rw [List.drop_of_length_le (by simp; omega)]
                simp
              simp only [obOk]
              subst hC
              exact ⟨trivial, C', t', fr, hu'.here, unfrozen_size hu hs', k1, relTVs_keep hkeep (Ext.refl π) _ _ k2⟩
          · cases h
        · cases h
      · rename_i hA
        rw [hag] at hA
        split at h
        · rename_i hle
          split at h
          · rename_i c'
            simp only [ret4, Option.some.injEq, Prod.mk.injEq] at h
            obtain ⟨rfl, rfl, rfl, rfl⟩ := h
            refine store_turn ho hl rfl rfl fun a w S π hev hob => ?_
            obtain ⟨b, c, z, l, hp, he, cs, C, t', fr, rfl, g3, hg, hu, hn, g1, g2⟩ := key a w S π hev hob
            have hyr := hy a w S π hev
            have hone := relTV_one hyr hle.2
            simp only [relTV] at hyr
            have hu' := setCell_upd w b (0 + off) C t' fr (a.eval y) hg
            refine ⟨b, 0, c, z, l, _, _, hp, ?_, hu', ?_⟩
            · rw [hexec a w b _ he]
              exact run_storeVar_one hty (by simpa using hA) hg hu (by omega) hone
            · intro hkeep
              simp only [obOk, PV.setc]
              have ho1 : ∀ u ∈ (C.setIfInBounds (0 + off) (a.eval y)).toList, u.oneCell' = true := by
                intro u hu
                simp only [Array.toList_setIfInBounds] at hu
                rcases List.mem_or_eq_of_mem_set hu with hu | rfl
                · exact g1 u hu
                · exact hone
              refine ⟨trivial, _, t', fr, hu'.here, unfrozen_size hu (by simp), ho1, by simpa using hn, by simp [PV.isAgg, g3], rel_keep hkeep _ _ ?_⟩
              simp only [rel]
              refine ⟨_, rfl, ho1, ?_⟩
              simp only [Array.toList_setIfInBounds, Nat.zero_add]
              exact relL_set g2 off hyr
          · split at h
            · rename_i hpa
              simp only [ret4, Option.some.injEq, Prod.mk.injEq] at h
              obtain ⟨rfl, rfl, rfl, rfl⟩ := h
              refine store_turn ho hl rfl rfl fun a w S π hev hob => ?_
              obtain ⟨b, c, z, l, hp, he, cs, C, t', fr, rfl, g3, hg, hu, hn, g1, g2⟩ := key a w S π hev hob
              have hyr := hy a w S π hev
              have hone := relTV_one hyr hle.2
              have hu' := setCell_upd w b (0 + off) C t' fr (a.eval y) hg
              refine ⟨b, 0, c, z, l, _, _, hp, ?_, hu', ?_⟩
              · rw [hexec a w b _ he]
                exact run_storeVar_one hty (by simpa using hA) hg hu (by omega) hone
              · intro hkeep
                simp only [obOk, PV.cells]
                refine ⟨trivial, _, t', fr, hu'.here, unfrozen_size hu (by simp), ?_, ?_⟩
                · intro u hu
                  simp only [Array.toList_setIfInBounds] at hu
                  rcases List.mem_or_eq_of_mem_set hu with hu | rfl
                  · exact g1 u hu
                  · exact hone
                · have e0 : ((C.setIfInBounds (0 + off) (a.eval y)).toList) = C.toList.set off (a.eval y) := by simp
                  rw [e0]
                  exact relTVs_keep hkeep (Ext.refl π) _ _ (relTVs_set (relTVs_vals g2) off hyr)
            · cases h
        · cases h
    · cases h
  · rename_i id m j
    split at h
    · rename_i es sz hl
      split at h
      · rename_i q hq
        have key : ∀ a w S π, evOk ev a w S π → ObsOk w S π look → m < es.length → ∃ b s c l, π id = some (.at b s c sz l) ∧ a.eval x = .pointer (some ⟨b, s + m * sz + j, none⟩) ∧
            l = es.length ∧ l ≤ c ∧ c ≤ maxLen ∧ ∃ C t' fr, w.heap[b]? = some (.cells C t' fr) ∧ unfrozen C fr ∧ (∀ u ∈ C.toList, u.oneCell' = true) ∧ s + c * sz ≤ C.size ∧ s + m * sz + sz ≤ C.size ∧ relEs w S b s sz es := by
          intro a w S π hev hob hm
          have hv := hev x _ hx
          simp only [relTV] at hv
          obtain ⟨b, s, c, z, l, hp, he⟩ := hv
          obtain ⟨pl, hp', hk⟩ := hob.ok id _ hl
          rw [hp] at hp'; cases hp'
          simp only [obOk] at hk
          obtain ⟨rfl, rfl, h2, h3, C, t', fr, hg, hu, h1, hsz', hr⟩ := hk
          have hsz' := hsz' (by omega)
          refine ⟨b, s, c, _, hp, he, rfl, h2, h3, C, t', fr, hg, hu, h1, hsz', ?_, hr⟩
          have : (m + 1) * z ≤ c * z := Nat.mul_le_mul_right _ (by omega)
          rw [Nat.add_mul] at this
          omega
        split at h
        · rename_i hA
          rw [hag] at hA
          rw [hsz] at h
          split at h
          · rename_i hj
            split at h
            · rename_i hqa
              cases hc : es[m]? with
              | none => rw [hc] at h; simp at h
              | some e =>
                rw [hc] at h
                simp only [Option.bind_some, ret4, Option.some.injEq, Prod.mk.injEq] at h
                obtain ⟨rfl, rfl, rfl, rfl⟩ := h
                have hm : m < es.length := (List.getElem?_eq_some_iff.1 hc).1
                refine store_turn ho hl rfl rfl fun a w S π hev hob => ?_
                obtain ⟨b, s, c, l, hp, he, rfl, h2, h3, C, t', fr, hg, hu, h1, hsz', hin, hr⟩ := key a w S π hev hob hm
                have hyr := toPV_rel hq (hy a w S π hev)
                obtain ⟨ds, us, rfl, hyu, k1, k2, k3, k4⟩ := rel_agg hyr hqa
                obtain ⟨w', C', hr', hu', hs', hc'⟩ := run_storeVar_agg hty (o' := s + m * sz + j) (us := us) hg hu (by omega) (by omega) k1
                refine ⟨b, s, c, sz, _, w', _, hp, ?_, hu', ?_⟩
                · rw [hexec a w b _ he, hyu]; exact hr'
                · intro hkeep
                  have hj0 : j = 0 := hj.1
                  subst hj0
                  simp only [Nat.add_zero] at hc'
                  have hget : ∀ q, C'[q]? = if q < s + m * sz then C[q]? else if q < s + m * sz + sz then us[q - (s + m * sz)]? else C[q]? := by
                    intro q
                    rw [← Array.getElem?_toList, hc', List.append_assoc, List.getElem?_append, List.getElem?_append]
                    simp only [List.length_take, Array.length_toList, Nat.min_eq_left (show s + m * sz ≤ C.size by omega)]
                    split
                    · rename_i hq1
                      rw [List.getElem?_take, if_pos hq1]; simp
                    · rename_i hq1
                      by_cases hq2 : q < s + m * sz + sz
                      · rw [if_pos (by omega), if_pos hq2]; simp
                      · rw [if_neg (by omega), if_neg hq2, List.getElem?_drop]
                        rw [show s + m * sz + us.size + (q - (s + m * sz) - us.size) = q by omega]
                        simp
                  simp only [obOk, List.length_set, PV.cells]
                  refine ⟨trivial, trivial, h2, h3, C', t', fr, hu'.here, unfrozen_size hu hs', ?_, by omega, ?_⟩
                  · intro u hu
                    rw [hc'] at hu
                    simp only [List.mem_append] at hu
                    rcases hu with (hu | hu) | hu
                    · exact h1 u (List.mem_of_mem_take hu)
                    · exact k1 u hu
                    · exact h1 u (List.mem_of_mem_drop hu)
                  · refine relEs_turn hkeep hg hu' ?_ hr k3 ?_
                    · intro q hq
                      rw [hget]
                      split
                      · rfl
                      · split
                        · omega
                        · rfl
                    · refine relCs_of fun q p hp => ?_
                      obtain ⟨u, g1, g2⟩ := relL_get k2 hp
                      have hq := (List.getElem?_eq_some_iff.1 hp).1
                      refine ⟨u, ?_, k1 u (List.mem_of_getElem? g1), rel_keep hkeep _ _ g2⟩
                      rw [cell_upd hu', hget, if_neg (by omega), if_pos (by omega)]
                      rw [show s + m * sz + q - (s + m * sz) = q by omega]
                      simpa using g1
            · cases h
          · cases h
        · rename_i hA
          rw [hag] at hA
          split at h
          · rename_i hqone
            cases hc : es[m]? with
            | none => rw [hc] at h; simp at h
            | some e =>
              rw [hc] at h
              simp only [Option.bind_some] at h
              cases hcj : e[j]? with
              | none => rw [hcj] at h; simp at h
              | some p0 =>
                rw [hcj] at h
                simp only [Option.bind_some, ret4, Option.some.injEq, Prod.mk.injEq] at h
                obtain ⟨rfl, rfl, rfl, rfl⟩ := h
                have hm : m < es.length := (List.getElem?_eq_some_iff.1 hc).1
                have hjl : j < e.length := (List.getElem?_eq_some_iff.1 hcj).1
                refine store_turn ho hl rfl rfl fun a w S π hev hob => ?_
                obtain ⟨b, s, c, l, hp, he, rfl, h2, h3, C, t', fr, hg, hu, h1, hsz', hin, hr⟩ := key a w S π hev hob hm
                have hyr := toPV_rel hq (hy a w S π hev)
                have hone := rel_one hyr hqone
                obtain ⟨e1, e2⟩ := relEs_get hr hc
                have hu' := setCell_upd w b (s + m * sz + j) C t' fr (a.eval y) hg
                refine ⟨b, s, c, sz, _, _, _, hp, ?_, hu', ?_⟩
                · rw [hexec a w b _ he]
                  exact run_storeVar_one hty (by simpa using hA) hg hu (by omega) hone
                · intro hkeep
                  simp only [obOk, List.length_set]
                  refine ⟨trivial, trivial, h2, h3, _, t', fr, hu'.here, unfrozen_size hu (by simp), ?_, fun _ => by simpa using hsz', ?_⟩
                  · intro u hu
                    simp only [Array.toList_setIfInBounds] at hu
                    rcases List.mem_or_eq_of_mem_set hu with hu | rfl
                    · exact h1 u hu
                    · exact hone
                  · refine relEs_turn hkeep hg hu' ?_ hr (by simpa using e1) ?_
                    · intro q hq
                      rw [Array.getElem?_setIfInBounds]
                      rw [if_neg (by omega)]
                    · refine relCs_of fun q p hp => ?_
                      rw [List.getElem?_set] at hp
                      split at hp
                      · rename_i hjq
                        subst hjq
                        cases hp
                        refine ⟨a.eval y, ?_, hone, rel_keep hkeep _ _ hyr⟩
                        rw [cell_upd hu', Array.getElem?_setIfInBounds]
                        rw [if_pos rfl, if_pos (by omega)]
                      · rename_i hjq
                        obtain ⟨u, g1, g2, g3⟩ := relCs_get e2 hp
                        refine ⟨u, ?_, g2, rel_keep hkeep _ _ g3⟩
                        rw [cell_upd hu', Array.getElem?_setIfInBounds, if_neg (by omega)]
                        rw [cell_of_row w b _ C t' fr hg] at g1
                        exact g1
          · cases h
      · cases h
    · cases h
  · cases h

end
end Go.Proofs.YtgpjnppakffoiaaV
