/- The reading machine: what is handed over, calls, all operations. -/
import Derived.Test.YtpaifgipdhgfkaaGreatDoorVC
set_option linter.unusedVariables false
set_option linter.unusedSimpArgs false

/- The reading machine: memory that is handed over. -/
namespace Go.Proofs.YtpaifgipdhgfkaaGreatDoorV
open Go Go.RowKit

/-- A row that nobody else has. -/
def ownRow (w : World) (S : Nat → Prop) (es : List (List PV)) (sz : Nat) (v : Value) (fp : List Nat) : Prop :=
  (v = .slice none 0 0 ∧ es = [] ∧ fp = []) ∨ ∃ b s c a C t fr, v = .slice (some a) es.length c ∧ (c = 0 ∨ a = ⟨b, s, none⟩) ∧ fp = [b] ∧ es.length ≤ c ∧ c ≤ maxLen ∧
    w.heap[b]? = some (.cells C t fr) ∧ unfrozen C fr ∧ oneCells C ∧ (c ≠ 0 → s + c * sz ≤ C.size) ∧ relEs w S b s sz es

mutual
/-- A tree is what a value leads to; what of it nobody else has lies in the blocks fp. -/
def ownS (w : World) (S : Nat → Prop) : Shp → PV → Value → List Nat → Prop
  | .d, p, v, fp => fp = [] ∧ rel w S p v
  | .s, p, v, fp => ∃ es sz, p = .os es sz ∧ ownRow w S es sz v fp
  | .o shs, p, v, fp => ∃ cs b C t fr fp', p = .obj cs ∧ v = .pointer (some ⟨b, 0, none⟩) ∧ fp = b :: fp' ∧ w.heap[b]? = some (.cells C t fr) ∧ unfrozen C fr ∧ oneCells C ∧ ownL w S shs cs C.toList fp'
  | .a shs, p, v, fp => ∃ cs us, p = .agg cs ∧ v = .agg us ∧ oneCells us ∧ ownL w S shs cs us.toList fp
  | .t shs, p, v, fp => ∃ cs us, p = .tuple cs ∧ v = .tuple us ∧ ownL w S shs cs us.toList fp
def ownL (w : World) (S : Nat → Prop) : List Shp → List PV → List Value → List Nat → Prop
  | [], ps, us, fp => ps = [] ∧ us = [] ∧ fp = []
  | sh :: shs, ps, us, fp => ∃ p ps' u us' f1 f2, ps = p :: ps' ∧ us = u :: us' ∧ fp = f1 ++ f2 ∧ ownS w S sh p u f1 ∧ ownL w S shs ps' us' f2
end

/-- The blocks of some of the call's own. -/
def blks (π : Nat → Option Pl) (ids : List Nat) : List Nat := ids.filterMap fun i => (π i).bind Pl.blk

theorem blks_append (π : Nat → Option Pl) (a b : List Nat) : blks π (a ++ b) = blks π a ++ blks π b := by simp [blks]
theorem mem_blks {π : Nat → Option Pl} {ids : List Nat} {b : Nat} : b ∈ blks π ids ↔ ∃ i ∈ ids, ∃ pl, π i = some pl ∧ pl.blk = some b := by
  simp only [blks, List.mem_filterMap]
  constructor
  · rintro ⟨i, hi, h⟩
    cases hp : π i with
    | none => rw [hp] at h; cases h
    | some pl => rw [hp] at h; exact ⟨i, hi, pl, hp, h⟩
  · rintro ⟨i, hi, pl, hp, h⟩
    exact ⟨i, hi, by rw [hp]; exact h⟩

section
variable {look : Nat → Option Ob} {w : World} {S S' : Nat → Prop} {π : Nat → Option Pl}

theorem keep_sub (hs : ∀ b, S b → S' b) : Keep w S w S' := ⟨fun _ _ => rfl, hs⟩

theorem relCs_list {b : Nat} {C : Array Value} {t : TypeId} {fr : Nat × Nat} (hg : w.heap[b]? = some (.cells C t fr)) (ho : oneCells C) {ps : List PV} (h : relL w S ps C.toList) : relCs w S b 0 ps :=
  relCs_of fun i p hp => by
    obtain ⟨u, h1, h2⟩ := relL_get h hp
    refine ⟨u, ?_, ho u (List.mem_of_getElem? h1), h2⟩
    rw [cell_of_row w b _ C t fr hg, Nat.zero_add, ← Array.getElem?_toList, h1]

theorem relEs_ones {w : World} {S : Nat → Prop} {b : Nat} : ∀ {ps : List PV} {o : Nat}, relCs w S b o ps → relEs w S b o 1 (ps.map fun p => [p])
  | [], _, _ => by simp only [List.map_nil, relEs]
  | p :: ps, o, h => by
    simp only [relCs] at h
    simp only [List.map_cons, relEs, relCs]
    exact ⟨rfl, ⟨h.1, trivial⟩, relEs_ones h.2⟩
mutual
/-- A value of the call's own as a tree, where what it leads to lies in S'. -/
theorem reify_ok (hob : ObsOk w S π look) (hs : ∀ b, S b → S' b) : ∀ (n : Nat) (v : TV) (u : Value) (p : PV) (ids : List Nat), reify look n v = some (p, ids) → relTV w S π v u → (∀ b ∈ blks π ids, S' b) →
    rel w S' p u ∧ (∀ i ∈ ids, ∃ x, look i = some x ∧ x.live = true) ∧ (v.one = true → p.one = true)
  | 0, v, u, p, ids, h, _, _ => by simp [reify] at h
  | n + 1, v, u, p, ids, h, hr, hb => by
    have hk : Keep w S w S' := keep_sub hs
    unfold reify at h
    split at h
    · cases h
      simp only [relTV] at hr
      exact ⟨rel_keep hk _ _ hr, by simp, fun h => by simpa [TV.one] using h⟩
    · cases h
      simp only [relTV] at hr
      exact ⟨by simp only [rel]; exact .inl ⟨⟨_, hr⟩, trivial⟩, by simp, fun _ => rfl⟩
    · cases h
      simp only [relTV] at hr
      exact ⟨rel_keep hk _ _ hr.1, by simp, fun _ => rfl⟩
    · rename_i id
      split at h
      · rename_i es sz hl
        cases h
        simp only [relTV] at hr
        refine ⟨?_, by simp [hl, Ob.live], fun _ => rfl⟩
        obtain ⟨pl, hp, hk2⟩ := hob.ok id _ hl
        simp only [rel]
        rcases hr with ⟨hp', hv⟩ | ⟨b, s, c, z, l, a, hp', hv, ha⟩
        · rw [hp'] at hp; cases hp
          simp only [obOk] at hk2
          exact .inl ⟨⟨_, hv⟩, hk2⟩
        · rw [hp'] at hp; cases hp
          simp only [obOk] at hk2
          obtain ⟨rfl, rfl, hlc, hcm, C, t, fr, hg, _, _, _, hre⟩ := hk2
          rcases ha with h0 | ha
          · subst h0
            have : es = [] := List.eq_nil_of_length_eq_zero (by omega)
            subst this
            exact .inl ⟨⟨_, hv⟩, rfl⟩
          · subst ha
            refine .inr ⟨b, s, c, _, hv, hlc, hcm, hb b ?_, relEs_keep hk _ _ _ _ rfl hre⟩
            exact mem_blks.2 ⟨id, by simp, _, hp', rfl⟩
      · rename_i es hl
        cases h
        simp only [relTV] at hr
        refine ⟨?_, by simp, fun _ => rfl⟩
        obtain ⟨pl, hp, hk2⟩ := hob.ok id _ hl
        simp only [rel]
        rcases hr with ⟨hp', hv⟩ | ⟨b, s, c, z, l, a, hp', hv, ha⟩
        · rw [hp'] at hp; cases hp
          simp only [obOk] at hk2
          exact .inl ⟨⟨_, hv⟩, hk2⟩
        · rw [hp'] at hp; cases hp
          simp only [obOk] at hk2
          obtain ⟨rfl, hlc, hcm, hS, hre⟩ := hk2
          rcases ha with h0 | ha
          · subst h0
            have : es = [] := List.eq_nil_of_length_eq_zero (by omega)
            subst this
            exact .inl ⟨⟨_, hv⟩, rfl⟩
          · subst ha
            exact .inr ⟨b, s, c, _, hv, hlc, hcm, hs b hS, relEs_keep hk _ _ _ _ rfl hre⟩
      · cases h
    · rename_i id off len cp
      split at h
      · rename_i es sz hl
        cases h
        simp only [relTV] at hr
        refine ⟨?_, by simp [hl, Ob.live], fun _ => rfl⟩
        obtain ⟨pl, hp, hk2⟩ := hob.ok id _ hl
        simp only [rel]
        rcases hr with ⟨hp', hv, rfl, rfl⟩ | ⟨b, s, c, z, l, a, cv, hp', hv, k1, ha, k2, k3, k4⟩
        · exact .inl ⟨⟨_, hv⟩, by simp⟩
        · rw [hp'] at hp; cases hp
          simp only [obOk] at hk2
          obtain ⟨rfl, rfl, hlc, hcm, C, t, fr, hg, _, _, _, hre⟩ := hk2
          have hlen : ((es.drop off).take len).length = len := by simp; omega
          rcases ha with h0 | ha
          · have : len = 0 := by omega
            subst this
            subst h0
            exact .inl ⟨⟨_, hv⟩, by simp⟩
          · subst ha
            refine .inr ⟨b, _, cv, _, by rw [hlen]; exact hv, by omega, by omega, hb b ?_, relEs_keep hk _ _ _ _ rfl (relEs_take (relEs_drop hre off) len)⟩
            exact mem_blks.2 ⟨id, by simp, _, hp', rfl⟩
      · rename_i es hl
        cases h
        simp only [relTV] at hr
        refine ⟨?_, by simp, fun _ => rfl⟩
        obtain ⟨pl, hp, hk2⟩ := hob.ok id _ hl
        simp only [rel]
        rcases hr with ⟨hp', hv, rfl, rfl⟩ | ⟨b, s, c, z, l, a, cv, hp', hv, k1, ha, k2, k3, k4⟩
        · exact .inl ⟨⟨_, hv⟩, by simp⟩
        · rw [hp'] at hp; cases hp
          simp only [obOk] at hk2
          obtain ⟨rfl, hlc, hcm, hS, hre⟩ := hk2
          have hlen : ((es.drop off).take len).length = len := by simp; omega
          rcases ha with h0 | ha
          · have : len = 0 := by omega
            subst this
            subst h0
            exact .inl ⟨⟨_, hv⟩, by simp⟩
          · subst ha
            exact .inr ⟨b, _, cv, _, by rw [hlen]; exact hv, by omega, by omega, hs b hS, relEs_keep hk _ _ _ _ rfl (relEs_take (relEs_drop hre off) len)⟩
      · rename_i cs hl
        split at h
        · rename_i hc
          obtain ⟨hcp, rfl, rfl, hmx⟩ := hc
          split at h
          · rename_i ps is hps
            cases h
            simp only [relTV] at hr
            obtain ⟨pl, hp, hk2⟩ := hob.ok id _ hl
            rcases hr with ⟨hp', _⟩ | ⟨b, s, c, z, l, a, cv, hp', hv, k1, ha, k2, k3, k4⟩
            · rw [hp'] at hp; cases hp
              simp only [obOk] at hk2
            · rw [hp'] at hp; cases hp
              simp only [obOk] at hk2
              obtain ⟨rfl, C, t, fr, hg, _, ho, hre⟩ := hk2
              obtain ⟨g1, g2⟩ := reifyL_ok hob hs n cs C.toList ps is hps hre fun b hb2 => hb b (by
                obtain ⟨i, hi, q⟩ := mem_blks.1 hb2
                exact mem_blks.2 ⟨i, List.mem_cons_of_mem _ hi, q⟩)
              have hlen : ps.length = cs.length := (relL_length g1).trans (relTVs_length hre).symm
              refine ⟨?_, ?_, fun _ => rfl⟩
              · simp only [rel]
                have hcv := k3 hcp
                subst hcv
                rcases ha with h0 | ha
                · have : ps = [] := List.eq_nil_of_length_eq_zero (by omega)
                  subst this
                  exact .inl ⟨⟨_, by rw [hv, h0]⟩, rfl⟩
                · subst ha
                  refine .inr ⟨b, 0, cs.length, 1, by rw [List.length_map, hlen, hv, Nat.zero_mul], by rw [List.length_map, hlen]; exact Nat.le_refl _, by simp only [maxLen]; omega, hb b (mem_blks.2 ⟨id, by simp, _, hp', rfl⟩), relEs_ones (relCs_list hg ho g1)⟩
              · intro i hi
                rcases List.mem_cons.1 hi with rfl | hi
                · exact ⟨_, hl, rfl⟩
                · exact g2 i hi
          · cases h
        · cases h
      · rename_i cs hl
        split at h
        · rename_i hc
          obtain ⟨hcp, rfl, rfl, hmx⟩ := hc
          cases h
          simp only [relTV] at hr
          obtain ⟨pl, hp, hk2⟩ := hob.ok id _ hl
          refine ⟨?_, by simp, fun _ => rfl⟩
          rcases hr with ⟨hp', _⟩ | ⟨b, s, c, z, l, a, cv, hp', hv, k1, ha, k2, k3, k4⟩
          · rw [hp'] at hp; cases hp
            simp only [obOk] at hk2
          · rw [hp'] at hp; cases hp
            simp only [obOk] at hk2
            obtain ⟨rfl, hS, hre⟩ := hk2
            simp only [rel]
            have hcv := k3 hcp
            subst hcv
            rcases ha with h0 | ha
            · have : cs = [] := List.eq_nil_of_length_eq_zero (by omega)
              subst this
              exact .inl ⟨⟨_, by rw [hv, h0]⟩, rfl⟩
            · subst ha
              exact .inr ⟨b, 0, cs.length, 1, by rw [List.length_map, hv, Nat.zero_mul], by rw [List.length_map]; exact Nat.le_refl _, by simp only [maxLen]; omega, hs b hS, relEs_ones (relCs_keep hk _ _ _ rfl hre)⟩
        · cases h
      · cases h
    · rename_i id off
      split at h
      · rename_i q m hl
        cases h
        simp only [relTV] at hr
        refine ⟨?_, by simp [hl, Ob.live], fun _ => rfl⟩
        obtain ⟨b, s, c, z, l, hp', hv⟩ := hr
        obtain ⟨pl, hp, hk2⟩ := hob.ok id _ hl
        rw [hp'] at hp; cases hp
        simp only [obOk] at hk2
        obtain ⟨rfl, C, t, fr, hg, _, ho, hsz, hq, hre⟩ := hk2
        obtain ⟨cs, us, rfl, hu, h1, h2, _⟩ := rel_agg hre hq
        cases hu
        simp only [rel, PV.cells]
        exact ⟨b, 0, hv, hb b (mem_blks.2 ⟨id, by simp, _, hp', rfl⟩), relCs_keep hk _ _ _ rfl (relCs_list hg ho h2)⟩
      · rename_i cs hl
        cases h
        simp only [relTV] at hr
        refine ⟨?_, by simp, fun _ => rfl⟩
        obtain ⟨b, s, c, z, l, hp', hv⟩ := hr
        obtain ⟨pl, hp, hk2⟩ := hob.ok id _ hl
        rw [hp'] at hp; cases hp
        simp only [obOk] at hk2
        obtain ⟨rfl, hS, hre⟩ := hk2
        simp only [rel]
        exact ⟨b, 0, hv, hs b hS, relCs_keep hk _ _ _ rfl hre⟩
      · rename_i cs hl
        split at h
        · rename_i ps is hps
          cases h
          simp only [relTV] at hr
          obtain ⟨b, s, c, z, l, hp', hv⟩ := hr
          obtain ⟨pl, hp, hk2⟩ := hob.ok id _ hl
          rw [hp'] at hp; cases hp
          simp only [obOk] at hk2
          obtain ⟨rfl, C, t, fr, hg, _, ho, hre⟩ := hk2
          obtain ⟨g1, g2⟩ := reifyL_ok hob hs n cs C.toList ps is hps hre fun b hb2 => hb b (by
            obtain ⟨i, hi, q⟩ := mem_blks.1 hb2
            exact mem_blks.2 ⟨i, List.mem_cons_of_mem _ hi, q⟩)
          refine ⟨?_, ?_, fun _ => rfl⟩
          · simp only [rel]
            exact ⟨b, 0, hv, hb b (mem_blks.2 ⟨id, by simp, _, hp', rfl⟩), relCs_list hg ho g1⟩
          · intro i hi
            rcases List.mem_cons.1 hi with rfl | hi
            · exact ⟨_, hl, rfl⟩
            · exact g2 i hi
        · cases h
      · cases h
    · rename_i id
      split at h
      · rename_i kvs hl
        cases h
        simp only [relTV] at hr
        refine ⟨?_, by simp [hl, Ob.live], fun _ => rfl⟩
        obtain ⟨b, s, c, z, l, hp', hv⟩ := hr
        obtain ⟨pl, hp, hk2⟩ := hob.ok id _ hl
        rw [hp'] at hp; cases hp
        simp only [obOk] at hk2
        obtain ⟨ms, clock, hg, hst, hre⟩ := hk2
        simp only [rel]
        exact ⟨b, hv, hb b (mem_blks.2 ⟨id, by simp, _, hp', rfl⟩), ms, clock, hg, hst, relKV_keep hk _ _ hre⟩
      · rename_i kvs hl
        cases h
        simp only [relTV] at hr
        refine ⟨?_, by simp, fun _ => rfl⟩
        obtain ⟨b, s, c, z, l, hp', hv⟩ := hr
        obtain ⟨pl, hp, hk2⟩ := hob.ok id _ hl
        rw [hp'] at hp; cases hp
        simp only [obOk] at hk2
        obtain ⟨hS, ms, clock, hg, hst, hre⟩ := hk2
        simp only [rel]
        exact ⟨b, hv, hs b hS, ms, clock, hg, hst, relKV_keep hk _ _ hre⟩
      · cases h
    · rename_i cs
      split at h
      · rename_i ps is hps
        cases h
        simp only [relTV] at hr
        obtain ⟨us, hv, h1, hre⟩ := hr
        obtain ⟨g1, g2⟩ := reifyL_ok hob hs n cs us.toList ps ids hps hre hb
        exact ⟨by simp only [rel]; exact ⟨us, hv, h1, g1⟩, g2, fun h => by cases h⟩
      · cases h
    · rename_i cs
      split at h
      · rename_i ps is hps
        cases h
        simp only [relTV] at hr
        obtain ⟨us, hv, hre⟩ := hr
        obtain ⟨g1, g2⟩ := reifyL_ok hob hs n cs us.toList ps ids hps hre hb
        exact ⟨by simp only [rel]; exact ⟨us, hv, g1⟩, g2, fun h => by cases h⟩
      · cases h
    · rename_i f caps
      split at h
      · rename_i ps is hps
        cases h
        simp only [relTV] at hr
        obtain ⟨us, hv, hre⟩ := hr
        obtain ⟨g1, g2⟩ := reifyL_ok hob hs n caps us.toList ps ids hps hre hb
        exact ⟨by simp only [rel]; exact ⟨us, hv, g1⟩, g2, fun _ => rfl⟩
      · cases h
    · cases h
theorem reifyL_ok (hob : ObsOk w S π look) (hs : ∀ b, S b → S' b) : ∀ (n : Nat) (vs : List TV) (us : List Value) (ps : List PV) (ids : List Nat), reifyL look n vs = some (ps, ids) → relTVs w S π vs us → (∀ b ∈ blks π ids, S' b) →
    relL w S' ps us ∧ (∀ i ∈ ids, ∃ x, look i = some x ∧ x.live = true)
  | n, [], us, ps, ids, h, hr, _ => by
    have h' : ([], []) = (ps, ids) := by cases n <;> simpa [reifyL] using h
    cases h'
    simp only [relTVs] at hr
    subst hr
    exact ⟨by simp only [relL], by simp⟩
  | 0, v :: vs, us, ps, ids, h, _, _ => by simp [reifyL] at h
  | n + 1, v :: vs, us, ps, ids, h, hr, hb => by
    simp only [reifyL] at h
    split at h
    · rename_i p i ps' is h1 h2
      cases h
      simp only [relTVs] at hr
      obtain ⟨u, us', rfl, hr1, hr2⟩ := hr
      rw [blks_append] at hb
      obtain ⟨g1, g2, _⟩ := reify_ok hob hs n v u p i h1 hr1 fun b hb2 => hb b (List.mem_append_left _ hb2)
      obtain ⟨g3, g4⟩ := reifyL_ok hob hs n vs us' ps' is h2 hr2 fun b hb2 => hb b (List.mem_append_right _ hb2)
      refine ⟨by simp only [relL]; exact ⟨u, us', rfl, g1, g3⟩, ?_⟩
      intro j hj
      rcases List.mem_append.1 hj with hj | hj
      · exact g2 j hj
      · exact g4 j hj
    · cases h
end

end
end Go.Proofs.YtpaifgipdhgfkaaGreatDoorV

/- The reading machine: what is handed over is as its shape says. -/
namespace Go.Proofs.YtpaifgipdhgfkaaGreatDoorV
open Go Go.RowKit

section
variable {look : Nat → Option Ob} {w : World} {S S' : Nat → Prop} {π : Nat → Option Pl}

theorem ownL_allD : ∀ {shs : List Shp} {ps : List PV} {us : List Value}, shs.all Shp.isD = true → relL w S ps us → shs.length = ps.length → ownL w S shs ps us []
  | [], ps, us, _, h, hl => by
    have : ps = [] := List.eq_nil_of_length_eq_zero hl.symm
    subst this
    simp only [relL] at h
    simp only [ownL]
    exact ⟨trivial, h, trivial⟩
  | sh :: shs, [], us, _, h, hl => by simp at hl
  | sh :: shs, p :: ps, us, ha, h, hl => by
    simp only [List.all_cons, Bool.and_eq_true] at ha
    simp only [relL] at h
    obtain ⟨u, us', rfl, h1, h2⟩ := h
    simp only [ownL]
    refine ⟨p, ps, u, us', [], [], rfl, rfl, rfl, ?_, ownL_allD ha.2 h2 (by simpa using hl)⟩
    cases sh <;> first | (simp only [Shp.isD, Bool.false_eq_true, false_and] at ha; done) | skip
    simp only [ownS]
    exact ⟨trivial, h1⟩

mutual
theorem exp_ok (hob : ObsOk w S π look) (hs : ∀ b, S b → S' b) : ∀ (sh : Shp) (v : TV) (u : Value) (p : PV) (l o : List Nat), expS look sh v = some (p, l, o) → relTV w S π v u → (∀ b ∈ blks π l, S' b) →
    ownS w S' sh p u (blks π o) ∧ ∀ i ∈ l ++ o, ∃ x, look i = some x ∧ x.live = true
  | .d, v, u, p, l, o, h, hr, hb => by
    simp only [expS] at h
    split at h
    · rename_i q ids hq
      cases h
      obtain ⟨g1, g2, _⟩ := reify_ok hob hs 100 v u p l hq hr hb
      exact ⟨by simp only [ownS, blks, List.filterMap_nil]; exact ⟨trivial, g1⟩, by simpa using g2⟩
    · cases h
  | .s, v, u, p, l, o, h, hr, hb => by
    have hk : Keep w S w S' := keep_sub hs
    simp only [expS] at h
    split at h
    · cases h
      simp only [relTV] at hr
      refine ⟨?_, by simp⟩
      simp only [ownS]
      exact ⟨_, _, rfl, .inl ⟨hr, rfl, by simp [blks]⟩⟩
    · rename_i id
      split at h
      · rename_i es sz hl
        cases h
        simp only [relTV] at hr
        refine ⟨?_, by simp [hl, Ob.live]⟩
        obtain ⟨pl, hp, hk2⟩ := hob.ok id _ hl
        simp only [ownS]
        refine ⟨_, _, rfl, ?_⟩
        rcases hr with ⟨hp', hv⟩ | ⟨b, s, c, z, l, a, hp', hv, ha⟩
        · rw [hp'] at hp; cases hp
          simp only [obOk] at hk2
          exact .inl ⟨hv, hk2, by simp [blks, hp', Pl.blk]⟩
        · rw [hp'] at hp; cases hp
          simp only [obOk] at hk2
          obtain ⟨rfl, rfl, hlc, hcm, C, t, fr, hg, hu, ho, hsz, hre⟩ := hk2
          exact .inr ⟨b, s, c, a, C, t, fr, hv, ha, by simp [blks, hp', Pl.blk], hlc, hcm, hg, hu, ho, hsz, relEs_keep hk _ _ _ _ rfl hre⟩
      · cases h
    · rename_i id off len
      split at h
      · rename_i es sz hl
        cases h
        refine ⟨?_, by simp [hl, Ob.live]⟩
        simp only [ownS]
        refine ⟨_, _, rfl, ?_⟩
        obtain ⟨A, cap, rfl, _, hv⟩ := view_sl hob hl hr
        simp only [relTV] at hr
        rcases hv.at' with ⟨rfl, hc⟩ | ⟨b, s, C, t, fr, hc, hA, ⟨x, pi, hx1, hx2, hx3, hx4⟩, hg, hu, ho, hcs, hre⟩
        · have hl0 : len = 0 := by have := hv.le; omega
          subst hl0 hc
          have hbn : blks π [id] = [] ∨ ∃ b s c z l a cv, π id = some (.at b s c z l) ∧ Value.slice none 0 0 = .slice (some a) 0 cv := by
            rcases hr with ⟨hp', _⟩ | ⟨b, s, c, z, l, a, cv, hp', hv', _⟩
            · exact .inl (by simp [blks, hp', Pl.blk])
            · exact .inr ⟨b, s, c, z, l, a, cv, hp', hv'⟩
          rcases hbn with hbn | ⟨b, s, c, z, l, a, cv, hp', hv'⟩
          · exact .inl ⟨rfl, by simp, hbn⟩
          · cases hv'
        · obtain ⟨a, rfl⟩ := Option.isSome_iff_exists.1 hA
          refine .inr ⟨b, s, cap, a, C, t, fr, by rw [hv.hlen], hc.imp (fun h => h) fun h => by simpa using h, by simp [blks, hx3, hx4], by rw [hv.hlen]; exact hv.le, hv.max, hg, hu, ho, hcs, relEs_keep hk _ _ _ _ rfl hre⟩
      · cases h
    · cases h
  | .o shs, v, u, p, l, o, h, hr, hb => by
    have hk : Keep w S w S' := keep_sub hs
    simp only [expS] at h
    split at h
    · rename_i id
      split at h
      · rename_i q n hl
        split at h
        · rename_i hd
          cases h
          simp only [Bool.and_eq_true, beq_iff_eq] at hd
          simp only [relTV] at hr
          refine ⟨?_, by simp [hl, Ob.live]⟩
          obtain ⟨b, s, c, z, l, hp', hv⟩ := hr
          obtain ⟨pl, hp, hk2⟩ := hob.ok id _ hl
          rw [hp'] at hp; cases hp
          simp only [obOk] at hk2
          obtain ⟨rfl, C, t, fr, hg, hu, ho, hsz, hq, hre⟩ := hk2
          obtain ⟨cs, us, rfl, hcu, h1, h2, h3, _⟩ := rel_agg hre hq
          cases hcu
          simp only [ownS, PV.cells]
          exact ⟨cs, b, C, t, fr, [], rfl, hv, by simp [blks, hp', Pl.blk], hg, hu, ho, ownL_allD hd.1 (relL_keep hk _ _ h2) (by omega)⟩
        · cases h
      · rename_i cs hl
        split at h
        · rename_i ps l' o' hps
          cases h
          simp only [relTV] at hr
          obtain ⟨b, s, c, z, l, hp', hv⟩ := hr
          obtain ⟨pl, hp, hk2⟩ := hob.ok id _ hl
          rw [hp'] at hp; cases hp
          simp only [obOk] at hk2
          obtain ⟨rfl, C, t, fr, hg, hu, ho, hre⟩ := hk2
          obtain ⟨g1, g2⟩ := expL_ok hob hs shs cs C.toList ps _ o' hps hre hb
          refine ⟨?_, ?_⟩
          · simp only [ownS]
            exact ⟨ps, b, C, t, fr, blks π o', rfl, hv, by simp [blks, hp', Pl.blk], hg, hu, ho, g1⟩
          · intro i hi
            simp only [List.mem_append, List.mem_cons] at hi
            rcases hi with hi | rfl | hi
            · exact g2 i (List.mem_append_left _ hi)
            · exact ⟨_, hl, rfl⟩
            · exact g2 i (List.mem_append_right _ hi)
        · cases h
      · cases h
    · cases h
  | .a shs, v, u, p, l, o, h, hr, hb => by
    have hk : Keep w S w S' := keep_sub hs
    simp only [expS] at h
    split at h
    · rename_i cs
      split at h
      · rename_i ps l' o' hps
        cases h
        simp only [relTV] at hr
        obtain ⟨us, hv, h1, hre⟩ := hr
        obtain ⟨g1, g2⟩ := expL_ok hob hs shs cs us.toList ps _ _ hps hre hb
        exact ⟨by simp only [ownS]; exact ⟨ps, us, rfl, hv, h1, g1⟩, g2⟩
      · cases h
    · rename_i q
      split at h
      · rename_i hd
        cases h
        simp only [Bool.and_eq_true] at hd
        simp only [relTV] at hr
        obtain ⟨cs, us, rfl, rfl, h1, h2, h3, _⟩ := rel_agg hr hd.2
        refine ⟨?_, by simp⟩
        simp only [ownS]
        exact ⟨cs, us, rfl, rfl, h1, by simpa [blks] using ownL_allD hd.1 (relL_keep hk _ _ h2) h3.symm⟩
      · cases h
    · cases h
  | .t shs, v, u, p, l, o, h, hr, hb => by
    simp only [expS] at h
    split at h
    · rename_i cs
      split at h
      · rename_i ps l' o' hps
        cases h
        simp only [relTV] at hr
        obtain ⟨us, hv, hre⟩ := hr
        obtain ⟨g1, g2⟩ := expL_ok hob hs shs cs us.toList ps _ _ hps hre hb
        exact ⟨by simp only [ownS]; exact ⟨ps, us, rfl, hv, g1⟩, g2⟩
      · cases h
    · cases h
theorem expL_ok (hob : ObsOk w S π look) (hs : ∀ b, S b → S' b) : ∀ (shs : List Shp) (vs : List TV) (us : List Value) (ps : List PV) (l o : List Nat), expL look shs vs = some (ps, l, o) → relTVs w S π vs us → (∀ b ∈ blks π l, S' b) →
    ownL w S' shs ps us (blks π o) ∧ ∀ i ∈ l ++ o, ∃ x, look i = some x ∧ x.live = true
  | [], [], us, ps, l, o, h, hr, hb => by
    simp only [expL, Option.some.injEq, Prod.mk.injEq] at h
    obtain ⟨rfl, rfl, rfl⟩ := h
    simp only [relTVs] at hr
    exact ⟨by simp only [ownL]; exact ⟨trivial, hr, by simp [blks]⟩, by simp⟩
  | [], _ :: _, us, ps, l, o, h, hr, hb => by simp [expL] at h
  | _ :: _, [], us, ps, l, o, h, hr, hb => by simp [expL] at h
  | sh :: shs, v :: vs, us, ps, l, o, h, hr, hb => by
    simp only [expL] at h
    split at h
    · rename_i p l1 o1 ps' l2 o2 h1 h2
      cases h
      simp only [relTVs] at hr
      obtain ⟨u, us', rfl, hr1, hr2⟩ := hr
      rw [blks_append] at hb
      obtain ⟨g1, g2⟩ := exp_ok hob hs sh v u p l1 o1 h1 hr1 fun b hb2 => hb b (List.mem_append_left _ hb2)
      obtain ⟨g3, g4⟩ := expL_ok hob hs shs vs us' ps' l2 o2 h2 hr2 fun b hb2 => hb b (List.mem_append_right _ hb2)
      refine ⟨by simp only [ownL]; exact ⟨p, ps', u, us', _, _, rfl, rfl, blks_append .., g1, g3⟩, ?_⟩
      intro i hi
      simp only [List.mem_append] at hi g2 g4
      rcases hi with (hi | hi) | hi | hi
      · exact g2 i (.inl hi)
      · exact g4 i (.inl hi)
      · exact g2 i (.inr hi)
      · exact g4 i (.inr hi)
    · cases h
end

end
end Go.Proofs.YtpaifgipdhgfkaaGreatDoorV

/- The reading machine: what is given is memory of the call's own. -/
namespace Go.Proofs.YtpaifgipdhgfkaaGreatDoorV
open Go Go.RowKit

theorem upd_none {look : Nat → Option Ob} {nx : Nat} {nw : List Ob} {id : Nat} (h : id < nx) : upd look [] nx nw id = look id := by
  simp only [upd, upLast]; rw [if_neg (by omega)]
theorem upd_new {look : Nat → Option Ob} {nx : Nat} {nw : List Ob} {j : Nat} (h : j < nw.length) : upd look [] nx nw (nx + j) = nw[j]? := by
  simp only [upd, upLast]; rw [if_pos (by omega), Nat.add_sub_cancel_left]
theorem upd_append (look : Nat → Option Ob) (nx : Nat) (a b : List Ob) : upd (upd look [] nx a) [] (nx + a.length) b = upd look [] nx (a ++ b) := by
  funext id
  simp only [upd, upLast, List.length_append]
  by_cases h : nx + a.length ≤ id ∧ id < nx + a.length + b.length
  · rw [if_pos h, if_pos (by omega), List.getElem?_append_right (by omega)]
    congr 1; omega
  · rw [if_neg h]
    by_cases h2 : nx ≤ id ∧ id < nx + a.length
    · rw [if_pos h2, if_pos (by omega), List.getElem?_append_left (by omega)]
    · rw [if_neg h2, if_neg (by omega)]

section
variable {w : World} {S : Nat → Prop}

/-- Memory that nobody has becomes the call's own. -/
theorem obs_adopt {look : Nat → Option Ob} {π : Nat → Option Pl} {nx : Nat} {ob : Ob} {pl : Pl} (h : ObsOk w S π look) (hf : Free look π nx 1) (hb : ∀ b, pl.blk = some b → ¬ S b ∧ b < w.heap.size ∧ ¬ owned look π b)
    (hob : ∀ π', Ext π π' → obOk w S π' ob pl) :
    ∃ π', ObsOk w S π' (upd look [] nx [ob]) ∧ Ext π π' ∧ (∀ id, π' id ≠ none → π id ≠ none ∨ (nx ≤ id ∧ id < nx + 1)) ∧ π' nx = some pl ∧ ∀ b, owned (upd look [] nx [ob]) π' b → owned look π b ∨ pl.blk = some b := by
  let π' := fun id => if id = nx then some pl else π id
  have hfn : look nx = none ∧ π nx = none := by simpa using hf 0 (by omega)
  have hext : Ext π π' := by
    intro id q hp
    simp only [π']
    rw [if_neg]
    · exact hp
    · intro e; subst e; rw [hfn.2] at hp; cases hp
  have hnx : π' nx = some pl := by simp [π']
  have hpi : ∀ id, id ≠ nx → π' id = π id := fun id hid => by simp [π', hid]
  have hlook : ∀ id x, upd look [] nx [ob] id = some x → (id = nx ∧ x = ob) ∨ (id ≠ nx ∧ look id = some x) := by
    intro id x hx
    simp only [upd, upLast, List.length_singleton] at hx
    split at hx
    · have : id = nx := by omega
      subst this
      simp only [Nat.sub_self, List.getElem?_cons_zero, Option.some.injEq] at hx
      exact .inl ⟨rfl, hx.symm⟩
    · exact .inr ⟨by omega, hx⟩
  have hown : ∀ b, owned (upd look [] nx [ob]) π' b → owned look π b ∨ pl.blk = some b := by
    rintro b ⟨id, x, pj, h1, h2, h3, h4⟩
    rcases hlook id x h1 with ⟨rfl, rfl⟩ | ⟨hne, hl⟩
    · rw [hnx] at h3; cases h3; exact .inr h4
    · rw [hpi id hne] at h3; exact .inl ⟨id, x, pj, hl, h2, h3, h4⟩
  refine ⟨π', ?_, hext, ?_, hnx, hown⟩
  · refine obs_gen h (keep_sub fun _ h => h) hext h.st (Nat.le_refl _) (fun id => id ≠ nx) ?_ ?_
    · intro id hne
      constructor
      · simp only [upd, upLast, List.length_singleton]; rw [if_neg (by omega)]
      · intro x pj b hx hl hp hb1
        exact ⟨rfl, (owned_lt h hx hl hp hb1).2⟩
    · intro id x hx hno
      rcases hlook id x hx with ⟨rfl, rfl⟩ | ⟨hne, _⟩
      · refine ⟨pl, hnx, hob π' hext, fun b hl hb1 => ⟨(hb b hb1).2.1, (hb b hb1).1, ?_⟩⟩
        intro j y pj h1 h2 h3 h4
        rcases hlook j y h1 with ⟨rfl, rfl⟩ | ⟨hne, hlj⟩
        · rfl
        · rw [hpi j hne] at h3
          exact absurd ⟨j, y, pj, hlj, h2, h3, h4⟩ (hb b hb1).2.2
      · exact absurd hne hno
  · intro id hid
    by_cases e : id = nx
    · exact .inr (by omega)
    · rw [hpi id e] at hid; exact .inl hid

/-- What an import comes to. -/
def Imp (sh : Shp) (p : PV) (nx : Nat) (tv : TV) (obs : List Ob) : Prop :=
  ∀ (w : World) (S : Nat → Prop) (look : Nat → Option Ob) (π : Nat → Option Pl) (u : Value) (fp : List Nat), ownS w S sh p u fp → fp.Nodup → ObsOk w S π look → (∀ b ∈ fp, ¬ S b ∧ b < w.heap.size ∧ ¬ owned look π b) → Free look π nx obs.length →
    ∃ π', ObsOk w S π' (upd look [] nx obs) ∧ Ext π π' ∧ (∀ id, π' id ≠ none → π id ≠ none ∨ (nx ≤ id ∧ id < nx + obs.length)) ∧ relTV w S π' tv u ∧ (∀ b, owned (upd look [] nx obs) π' b → owned look π b ∨ b ∈ fp) ∧ ∀ id, tv = .ow id → blks π' [id] = fp
def ImpL (shs : List Shp) (ps : List PV) (nx : Nat) (tvs : List TV) (obs : List Ob) : Prop :=
  ∀ (w : World) (S : Nat → Prop) (look : Nat → Option Ob) (π : Nat → Option Pl) (us : List Value) (fp : List Nat), ownL w S shs ps us fp → fp.Nodup → ObsOk w S π look → (∀ b ∈ fp, ¬ S b ∧ b < w.heap.size ∧ ¬ owned look π b) → Free look π nx obs.length →
    ∃ π', ObsOk w S π' (upd look [] nx obs) ∧ Ext π π' ∧ (∀ id, π' id ≠ none → π id ≠ none ∨ (nx ≤ id ∧ id < nx + obs.length)) ∧ relTVs w S π' tvs us ∧ ∀ b, owned (upd look [] nx obs) π' b → owned look π b ∨ b ∈ fp

theorem free_step {look : Nat → Option Ob} {π π' : Nat → Option Pl} {nx n : Nat} {obs : List Ob} (hf : Free look π nx (obs.length + n)) (honly : ∀ id, π' id ≠ none → π id ≠ none ∨ (nx ≤ id ∧ id < nx + obs.length)) : Free (upd look [] nx obs) π' (nx + obs.length) n := by
  intro j hj
  have := hf (obs.length + j) (by omega)
  rw [← Nat.add_assoc] at this
  refine ⟨?_, ?_⟩
  · simp only [upd, upLast]
    rw [if_neg (by omega)]
    exact this.1
  · cases h : π' (nx + obs.length + j) with
    | none => rfl
    | some q =>
      rcases honly (nx + obs.length + j) (by rw [h]; simp) with h1 | h1
      · exact absurd this.2 h1
      · omega

mutual
theorem imp_ok {R : Type} : ∀ (sh : Shp) (p : PV) (nx : Nat) (k : TV → List Ob → Option R) (r : R), impK sh p nx k = some r → ∃ tv obs, k tv obs = some r ∧ Imp sh p nx tv obs
  | .d, p, nx, k, r, h => by
    simp only [impK] at h
    refine ⟨_, _, h, ?_⟩
    intro w S look π u fp ho hn hob hfp hf
    simp only [ownS] at ho
    obtain ⟨rfl, hr⟩ := ho
    exact ⟨π, by rw [upd_nil]; exact hob, Ext.refl _, fun id h => .inl h, by simp only [relTV]; exact hr, fun b hb => by rw [upd_nil] at hb; exact .inl hb, fun id h => by cases h⟩
  | .s, p, nx, k, r, h => by
    simp only [impK] at h
    obtain ⟨x, hx, h'⟩ := bind_inv h
    refine ⟨_, _, h', ?_⟩
    intro w S look π u fp ho hn hob hfp hf
    simp only [ownS] at ho
    obtain ⟨es, sz, rfl, ho⟩ := ho
    simp only [PV.asOs, Option.some.injEq] at hx
    subst hx
    rcases ho with ⟨rfl, rfl, rfl⟩ | ⟨b, s, c, a, C, t, fr, hv, ha, rfl, hlc, hcm, hg, hu, h1, hsz, hre⟩
    · obtain ⟨π', g1, g2, g3, g4, g5⟩ := obs_adopt (ob := .row [] sz) (pl := .nil) hob hf (fun b hb => by cases hb) (fun _ _ => by simp [obOk])
      refine ⟨π', g1, g2, g3, ?_, fun b hb => (g5 b hb).imp (fun h => h) fun h => (by cases h), fun id h => by cases h; simp [blks, g4, Pl.blk]⟩
      simp only [relTV]
      exact .inl ⟨g4, trivial⟩
    · obtain ⟨π', g1, g2, g3, g4, g5⟩ := obs_adopt (ob := .row es sz) (pl := .at b s c sz es.length) hob hf (fun b' hb => by
          simp only [Pl.blk, Option.some.injEq] at hb; subst hb; exact hfp b (by simp)) (fun _ _ => by
          simp only [obOk]
          exact ⟨trivial, trivial, hlc, hcm, C, t, fr, hg, hu, h1, hsz, hre⟩)
      refine ⟨π', g1, g2, g3, ?_, fun b' hb => (g5 b' hb).imp (fun h => h) fun h => (by simp only [Pl.blk, Option.some.injEq] at h; simp [h]), fun id h => by cases h; simp [blks, g4, Pl.blk]⟩
      simp only [relTV]
      exact .inr ⟨b, s, c, _, _, a, g4, hv, ha⟩
  | .o shs, p, nx, k, r, h => by
    simp only [impK] at h
    obtain ⟨cs, hx, h'⟩ := bind_inv h
    obtain ⟨tvs, obs, hk, him⟩ := impL_ok shs cs nx _ r h'
    refine ⟨_, _, hk, ?_⟩
    intro w S look π u fp ho hn hob hfp hf
    simp only [ownS] at ho
    obtain ⟨cs', b, C, t, fr, fp', rfl, rfl, rfl, hg, hu, h1, hre⟩ := ho
    simp only [PV.asObj, Option.some.injEq] at hx
    subst hx
    simp only [List.nodup_cons] at hn
    simp only [List.length_append, List.length_singleton] at hf
    obtain ⟨π', g1, g2, g3, g4, g5⟩ := him w S look π C.toList fp' hre hn.2 hob (fun b hb => hfp b (List.mem_cons_of_mem _ hb)) (fun j hj => hf j (by omega))
    obtain ⟨π'', k1, k2, k3, k4, k5⟩ := obs_adopt (nx := nx + obs.length) (ob := .box tvs) (pl := .at b 0 0 0 0) g1 (free_step hf g3) (fun b' hb => by
        simp only [Pl.blk, Option.some.injEq] at hb
        subst hb
        obtain ⟨q1, q2, q3⟩ := hfp b (List.mem_cons_self ..)
        exact ⟨q1, q2, fun ho => (g5 b ho).elim q3 hn.1⟩) (fun π'' he => by
        simp only [obOk]
        exact ⟨trivial, C, t, fr, hg, hu, h1, relTVs_keep (keep_sub fun _ h => h) he _ _ g4⟩)
    refine ⟨π'', by rw [← upd_append]; exact k1, g2.trans k2, ?_, ?_, ?_, fun id h => by cases h⟩
    · intro id hid
      simp only [List.length_append, List.length_singleton]
      rcases k3 id hid with h1 | h1
      · rcases g3 id h1 with h2 | h2
        · exact .inl h2
        · exact .inr (by omega)
      · exact .inr (by omega)
    · simp only [relTV]
      exact ⟨b, 0, _, _, _, k4, rfl⟩
    · intro b' hb'
      rw [← upd_append] at hb'
      rcases k5 b' hb' with h1 | h1
      · rcases g5 b' h1 with h2 | h2
        · exact .inl h2
        · exact .inr (List.mem_cons_of_mem _ h2)
      · simp only [Pl.blk, Option.some.injEq] at h1
        subst h1
        exact .inr (List.mem_cons_self ..)
  | .a shs, p, nx, k, r, h => by
    simp only [impK] at h
    obtain ⟨cs, hx, h'⟩ := bind_inv h
    obtain ⟨tvs, obs, hk, him⟩ := impL_ok shs cs nx _ r h'
    refine ⟨_, _, hk, ?_⟩
    intro w S look π u fp ho hn hob hfp hf
    simp only [ownS] at ho
    obtain ⟨cs', us, rfl, rfl, h1, hre⟩ := ho
    simp only [PV.asAgg, Option.some.injEq] at hx
    subst hx
    obtain ⟨π', g1, g2, g3, g4, g5⟩ := him w S look π us.toList fp hre hn hob hfp hf
    exact ⟨π', g1, g2, g3, by simp only [relTV]; exact ⟨us, rfl, h1, g4⟩, g5, fun id h => by cases h⟩
  | .t shs, p, nx, k, r, h => by
    simp only [impK] at h
    obtain ⟨cs, hx, h'⟩ := bind_inv h
    obtain ⟨tvs, obs, hk, him⟩ := impL_ok shs cs nx _ r h'
    refine ⟨_, _, hk, ?_⟩
    intro w S look π u fp ho hn hob hfp hf
    simp only [ownS] at ho
    obtain ⟨cs', us, rfl, rfl, hre⟩ := ho
    simp only [PV.asTup, Option.some.injEq] at hx
    subst hx
    obtain ⟨π', g1, g2, g3, g4, g5⟩ := him w S look π us.toList fp hre hn hob hfp hf
    exact ⟨π', g1, g2, g3, by simp only [relTV]; exact ⟨us, rfl, g4⟩, g5, fun id h => by cases h⟩
theorem impL_ok {R : Type} : ∀ (shs : List Shp) (ps : List PV) (nx : Nat) (k : List TV → List Ob → Option R) (r : R), impLK shs ps nx k = some r → ∃ tvs obs, k tvs obs = some r ∧ ImpL shs ps nx tvs obs
  | [], ps, nx, k, r, h => by
    simp only [impLK] at h
    split at h
    · refine ⟨_, _, h, ?_⟩
      intro w S look π us fp ho hn hob hfp hf
      simp only [ownL] at ho
      obtain ⟨rfl, rfl, rfl⟩ := ho
      exact ⟨π, by rw [upd_nil]; exact hob, Ext.refl _, fun id h => .inl h, by simp only [relTVs], fun b hb => by rw [upd_nil] at hb; exact .inl hb⟩
    · cases h
  | sh :: shs, ps, nx, k, r, h => by
    simp only [impLK] at h
    obtain ⟨p, hp, h'⟩ := bind_inv h
    obtain ⟨tv, obs, hk, him⟩ := imp_ok sh p nx _ r h'
    obtain ⟨tvs, obs', hk', him'⟩ := impL_ok shs ps.tail _ _ r hk
    refine ⟨_, _, hk', ?_⟩
    intro w S look π us fp ho hn hob hfp hf
    simp only [ownL] at ho
    obtain ⟨p', ps', u, us', f1, f2, rfl, rfl, rfl, h1, h2⟩ := ho
    simp only [List.head?_cons, Option.some.injEq] at hp
    subst hp
    simp only [List.nodup_append] at hn
    simp only [List.length_append] at hf
    obtain ⟨π', g1, g2, g3, g4, g5, _⟩ := him w S look π u f1 h1 hn.1 hob (fun b hb => hfp b (List.mem_append_left _ hb)) (fun j hj => hf j (by omega))
    obtain ⟨π'', k1, k2, k3, k4, k5⟩ := him' w S _ π' us' f2 h2 hn.2.1 g1 (fun b hb => by
      obtain ⟨q1, q2, q3⟩ := hfp b (List.mem_append_right _ hb)
      exact ⟨q1, q2, fun ho => (g5 b ho).elim q3 fun h => hn.2.2 b h b hb rfl⟩) (free_step hf g3)
    refine ⟨π'', by rw [← upd_append]; exact k1, g2.trans k2, ?_, ?_, ?_⟩
    · intro id hid
      simp only [List.length_append]
      rcases k3 id hid with h1 | h1
      · rcases g3 id h1 with h2 | h2
        · exact .inl h2
        · exact .inr (by omega)
      · exact .inr (by omega)
    · simp only [relTVs]
      exact ⟨u, us', rfl, relTV_keep (keep_sub fun _ h => h) k2 _ _ g4, k4⟩
    · intro b hb
      rw [← upd_append] at hb
      rcases k5 b hb with h1 | h1
      · rcases g5 b h1 with h2 | h2
        · exact .inl h2
        · exact .inr (List.mem_append_left _ h2)
      · exact .inr (List.mem_append_right _ h1)
end

end
end Go.Proofs.YtpaifgipdhgfkaaGreatDoorV

/- The reading machine: calls are told rightly, if what is said of functions holds. -/
namespace Go.Proofs.YtpaifgipdhgfkaaGreatDoorV
open Go Go.RowKit

/-- Arguments as trees; of each that is given, its blocks. -/
def argsOk (w : World) (S : Nat → Prop) : List (Option (Shp × Bool)) → List PV → List Value → List (List Nat) → Prop
  | [], ps, us, fps => ps = [] ∧ us = [] ∧ fps = []
  | none :: ms, ps, us, fps => ∃ p ps' u us', ps = p :: ps' ∧ us = u :: us' ∧ rel w S p u ∧ argsOk w S ms ps' us' fps
  | some m :: ms, ps, us, fps => ∃ p ps' u us' f fps', ps = p :: ps' ∧ us = u :: us' ∧ fps = f :: fps' ∧ ownS w S m.1 p u f ∧ argsOk w S ms ps' us' fps'

/-- What is given back. -/
def outsV (w : World) (S : Nat → Prop) : List (Option (Shp × Bool)) → List Value → List (List Nat) → List PV → List (List Nat) → Prop
  | [], us, fps, outs, gps => us = [] ∧ fps = [] ∧ outs = [] ∧ gps = []
  | none :: ms, us, fps, outs, gps => ∃ u us', us = u :: us' ∧ outsV w S ms us' fps outs gps
  | some (_, false) :: ms, us, fps, outs, gps => ∃ u us' f fps', us = u :: us' ∧ fps = f :: fps' ∧ outsV w S ms us' fps' outs gps
  | some (sh, true) :: ms, us, fps, outs, gps => ∃ u us' f fps' p outs' g gps', us = u :: us' ∧ fps = f :: fps' ∧ outs = p :: outs' ∧ gps = g :: gps' ∧ ownS w S sh p u g ∧ (sh = .s → g = f) ∧ outsV w S ms us' fps' outs' gps'

/-- A function is applied: what comes of it. -/
def Applies (P : Program) (f : FuncId) (us : Array Value) (w : World) (R : Value → World → Prop) : Prop :=
  match (callFunc f us).run P w with
  | .ok (.enter g as) w' => Calls P g as w' fun e w'' => ∃ v, e = .returned v ∧ R v w''
  | .ok (.value v) w' => R v w'
  | _ => False

/-- What is behind a call. -/
structure Behind (w : World) (S : Nat → Prop) (fps : List (List Nat)) (c : Ctr) (us : List Value) (r : PV) (outs : List PV) (v : Value) (w' : World) (S' : Nat → Prop) (g : List Nat) (gps : List (List Nat)) : Prop where
  os : w'.os = w.os
  tape : w'.tape = w.tape
  output : w'.output = w.output
  size : w.heap.size ≤ w'.heap.size
  same : ∀ b, b < w.heap.size → b ∉ fps.flatten → w'.heap[b]? = w.heap[b]?
  sub : ∀ b, S b → S' b
  stab : ∀ b, S' b → S b ∨ b ∈ fps.flatten ∨ w.heap.size ≤ b
  st : ∀ b, S' b → b < w'.heap.size
  nodup : (g ++ gps.flatten).Nodup
  own : ∀ b ∈ g ++ gps.flatten, ¬ S' b ∧ b < w'.heap.size ∧ (b ∈ fps.flatten ∨ w.heap.size ≤ b)
  res : ∀ S'', (S'' = S' ∨ c.scal = true) → ownS w' S'' c.res r v g ∧ outsV w' S'' c.modes us fps outs gps

/-- Package variables are as they are said to be. -/
def GOk (G : Nat → Option (List PV)) (w : World) (S : Nat → Prop) : Prop := ∀ g cs, G g = some cs → S g ∧ relCs w S g 0 cs ∧ ∃ C t fr, w.heap[g]? = some (.cells C t fr) ∧ C.size = cs.length
theorem GOk.keep {G : Nat → Option (List PV)} {w w' : World} {S S' : Nat → Prop} (h : GOk G w S) (hk : Keep w S w' S') : GOk G w' S' := fun g cs hg => by
  obtain ⟨h1, h2, C, t, fr, h3, h4⟩ := h g cs hg
  exact ⟨hk.sub _ h1, relCs_keep hk _ _ _ (hk.same _ h1) h2, C, t, fr, (hk.same _ h1).trans h3, h4⟩

/-- What is said of a function holds. -/
def Holds (P : Program) (G : Nat → Option (List PV)) (f : FuncId) (c : Ctr) : Prop :=
  ∀ (w : World) (S : Nat → Prop) (ps : List PV) (us : List Value) (fps : List (List Nat)) (r : PV) (outs : List PV),
    argsOk w S c.modes ps us fps → fps.flatten.Nodup → (∀ b ∈ fps.flatten, ¬ S b ∧ b < w.heap.size) → (∀ b, S b → b < w.heap.size) → GOk G w S → c.F ps = some (r, outs) →
    Applies P f us.toArray w fun v w' => ∃ S' g gps, Behind w S fps c us r outs v w' S' g gps

theorem Applies.mono {P : Program} {f : FuncId} {us : Array Value} {w : World} {R R' : Value → World → Prop} (h : Applies P f us w R) (hr : ∀ v w', R v w' → R' v w') : Applies P f us w R' := by
  unfold Applies at *
  split at h
  · exact h.mono fun e w' ⟨v, h1, h2⟩ => ⟨v, h1, hr v w' h2⟩
  · exact hr _ _ h
  · exact h.elim

section
variable {P : Program} {T : TypeId → Option TI} {look : Nat → Option Ob} {nx : Nat} {ev : Operand → Option TV} {o : Oper} {v : TV} {up : List (Nat × Ob)} {nw : List Ob} {rd : List Nat}

theorem gather_ok {w : World} {S S' : Nat → Prop} {π : Nat → Option Pl} (hob : ObsOk w S π look) (hs : ∀ b, S b → S' b) : ∀ (ms : List (Option (Shp × Bool))) (vs : List TV) (us : List Value) (a : Args), gather look ms vs = some a → relTVs w S π vs us → (∀ b ∈ blks π a.lent, S' b) →
    argsOk w S' ms a.ps us (a.lins.map fun x => blks π x.2.2.2) ∧ (∀ i ∈ a.lent ++ a.lins.flatMap (·.2.2.2), ∃ x, look i = some x ∧ x.live = true)
  | [], [], us, a, h, hr, hb => by
    simp only [gather, Option.some.injEq] at h
    subst h
    simp only [relTVs] at hr
    exact ⟨by simp only [argsOk]; exact ⟨trivial, hr, rfl⟩, by simp⟩
  | [], _ :: _, us, a, h, hr, hb => by simp [gather] at h
  | none :: ms, [], us, a, h, hr, hb => by simp [gather] at h
  | some _ :: ms, [], us, a, h, hr, hb => by simp [gather] at h
  | none :: ms, v :: vs, us, a, h, hr, hb => by
    simp only [gather] at h
    split at h
    · rename_i p ids a' h1 h2
      cases h
      simp only [relTVs] at hr
      obtain ⟨u, us', rfl, hr1, hr2⟩ := hr
      simp only [blks_append] at hb
      obtain ⟨g1, g2, _⟩ := reify_ok hob hs 100 v u p ids h1 hr1 fun b hb2 => hb b (List.mem_append_left _ hb2)
      obtain ⟨g3, g4⟩ := gather_ok hob hs ms vs us' a' h2 hr2 fun b hb2 => hb b (List.mem_append_right _ hb2)
      refine ⟨by simp only [argsOk]; exact ⟨p, _, u, us', rfl, rfl, g1, g3⟩, ?_⟩
      intro i hi
      simp only [List.mem_append] at hi g4
      rcases hi with (hi | hi) | hi
      · exact g2 i hi
      · exact g4 i (.inl hi)
      · exact g4 i (.inr hi)
    · cases h
  | some (sh, back) :: ms, v :: vs, us, a, h, hr, hb => by
    simp only [gather] at h
    split at h
    · rename_i p l ids a' h1 h2
      cases h
      simp only [relTVs] at hr
      obtain ⟨u, us', rfl, hr1, hr2⟩ := hr
      simp only [blks_append] at hb
      obtain ⟨g1, g2⟩ := exp_ok hob hs sh v u p l ids h1 hr1 fun b hb2 => hb b (List.mem_append_left _ hb2)
      obtain ⟨g3, g4⟩ := gather_ok hob hs ms vs us' a' h2 hr2 fun b hb2 => hb b (List.mem_append_right _ hb2)
      refine ⟨by simp only [argsOk, List.map_cons]; exact ⟨p, _, u, us', _, _, rfl, rfl, rfl, g1, g3⟩, ?_⟩
      intro i hi
      simp only [List.mem_append, List.flatMap_cons] at hi g2 g4
      rcases hi with (hi | hi) | hi | hi
      · exact g2 i (.inl hi)
      · exact g4 i (.inl hi)
      · exact g2 i (.inr hi)
      · exact g4 i (.inr hi)
    · cases h

/-- How what is given back stands to what was given. -/
def outsOk (look : Nat → Option Ob) (w : World) (S : Nat → Prop) (π : Nat → Option Pl) : List (TV × Shp × Bool × List Nat) → List PV → List (List Nat) → Prop
  | [], outs, gps => outs = [] ∧ gps = []
  | (_, _, false, _) :: ls, outs, gps => outsOk look w S π ls outs gps
  | (v, sh, true, ids) :: ls, outs, gps => ∃ p outs' g gps', outs = p :: outs' ∧ gps = g :: gps' ∧
      (∃ w0 S0 u p0 l0, relTV w0 S0 π v u ∧ expS look sh v = some (p0, l0, ids) ∧ ownS w S sh p u g ∧ (sh = .s → g = blks π ids)) ∧ outsOk look w S π ls outs' gps'

theorem outs_of {w w' : World} {S S' : Nat → Prop} {π : Nat → Option Pl} : ∀ (ms : List (Option (Shp × Bool))) (vs : List TV) (us : List Value) (a : Args) (outs : List PV) (gps : List (List Nat)), gather look ms vs = some a → relTVs w S π vs us →
    outsV w' S' ms us (a.lins.map fun x => blks π x.2.2.2) outs gps → outsOk look w' S' π a.lins outs gps
  | [], [], us, a, outs, gps, h, hr, ho => by
    simp only [gather, Option.some.injEq] at h
    subst h
    simp only [outsV] at ho
    simp only [outsOk]
    exact ho.2.2
  | [], _ :: _, us, a, outs, gps, h, hr, ho => by simp [gather] at h
  | none :: ms, [], us, a, outs, gps, h, hr, ho => by simp [gather] at h
  | some _ :: ms, [], us, a, outs, gps, h, hr, ho => by simp [gather] at h
  | none :: ms, v :: vs, us, a, outs, gps, h, hr, ho => by
    simp only [gather] at h
    split at h
    · rename_i p ids a' h1 h2
      cases h
      simp only [relTVs] at hr
      obtain ⟨u, us', rfl, hr1, hr2⟩ := hr
      simp only [outsV] at ho
      obtain ⟨u', us'', he, ho⟩ := ho
      cases he
      exact outs_of ms vs us' a' outs gps h2 hr2 ho
    · cases h
  | some (sh, false) :: ms, v :: vs, us, a, outs, gps, h, hr, ho => by
    simp only [gather] at h
    split at h
    · rename_i p l ids a' h1 h2
      cases h
      simp only [relTVs] at hr
      obtain ⟨u, us', rfl, hr1, hr2⟩ := hr
      simp only [outsV, List.map_cons] at ho
      obtain ⟨u', us'', f, fps', he, he2, ho⟩ := ho
      cases he
      cases he2
      simp only [outsOk]
      exact outs_of ms vs us' a' outs gps h2 hr2 ho
    · cases h
  | some (sh, true) :: ms, v :: vs, us, a, outs, gps, h, hr, ho => by
    simp only [gather] at h
    split at h
    · rename_i p l ids a' h1 h2
      cases h
      simp only [relTVs] at hr
      obtain ⟨u, us', rfl, hr1, hr2⟩ := hr
      simp only [outsV, List.map_cons] at ho
      obtain ⟨u', us'', f, fps', p', outs', g, gps', he, he2, he3, he4, ho1, ho2, ho⟩ := ho
      cases he
      cases he2
      simp only [outsOk]
      exact ⟨p', outs', g, gps', he3, he4, ⟨w, S, u, p, l, hr1, h1, ho1, ho2⟩, outs_of ms vs us' a' outs' gps' h2 hr2 ho⟩
    · cases h

/-- A dead one comes back. -/
theorem obs_back {w : World} {S : Nat → Prop} {π : Nat → Option Pl} {id : Nat} {ob : Ob} {pl : Pl} (h : ObsOk w S π look) (hl : look id = some .dead) (hp : π id = some pl) (hb : ∀ b, pl.blk = some b → ¬ S b ∧ b < w.heap.size ∧ ¬ owned look π b) (hob : obOk w S π ob pl) :
    ObsOk w S π (upd look [(id, ob)] nx []) ∧ ∀ b, owned (upd look [(id, ob)] nx []) π b → owned look π b ∨ pl.blk = some b := by
  have hlook : ∀ i x, upd look [(id, ob)] nx [] i = some x → (i = id ∧ x = ob) ∨ (i ≠ id ∧ look i = some x) := by
    intro i x ho
    simp only [upd, upLast, List.length_nil, Nat.add_zero] at ho
    by_cases e : id = i
    · rw [if_pos e] at ho; exact .inl ⟨e.symm, by simpa using ho.symm⟩
    · rw [if_neg e] at ho
      simp only at ho
      rw [if_neg (by omega)] at ho
      exact .inr ⟨fun h => e h.symm, ho⟩
  have hown : ∀ b, owned (upd look [(id, ob)] nx []) π b → owned look π b ∨ pl.blk = some b := by
    rintro b ⟨i, x, pj, h1, h2, h3, h4⟩
    rcases hlook i x h1 with ⟨rfl, rfl⟩ | ⟨hne, hli⟩
    · rw [hp] at h3; cases h3; exact .inr h4
    · exact .inl ⟨i, x, pj, hli, h2, h3, h4⟩
  refine ⟨?_, hown⟩
  refine obs_gen h (keep_sub fun _ h => h) (Ext.refl _) h.st (Nat.le_refl _) (fun i => i ≠ id) ?_ ?_
  · intro i hne
    constructor
    · simp only [upd, upLast, List.length_nil, Nat.add_zero]
      rw [if_neg (fun e => hne e.symm)]
      simp only
      rw [if_neg (by omega)]
    · intro x pj b hx hlv hpj hb1
      exact ⟨rfl, (owned_lt h hx hlv hpj hb1).2⟩
  · intro i x hx hno
    rcases hlook i x hx with ⟨rfl, rfl⟩ | ⟨hne, _⟩
    · refine ⟨pl, hp, hob, fun b hlv hb1 => ⟨(hb b hb1).2.1, (hb b hb1).1, ?_⟩⟩
      intro j y pj h1 h2 h3 h4
      rcases hlook j y h1 with ⟨rfl, rfl⟩ | ⟨hne, hlj⟩
      · rfl
      · exact absurd ⟨j, y, pj, hlj, h2, h3, h4⟩ (hb b hb1).2.2
    · exact absurd hne hno

end
end Go.Proofs.YtpaifgipdhgfkaaGreatDoorV

/- The reading machine: what is given back is as the callee has left it. -/
namespace Go.Proofs.YtpaifgipdhgfkaaGreatDoorV
open Go Go.RowKit

theorem upLast_append (a b : List (Nat × Ob)) (id : Nat) : upLast (a ++ b) id = match upLast b id with | some x => some x | none => upLast a id := by
  induction a with
  | nil => simp only [List.nil_append, upLast]; cases upLast b id <;> rfl
  | cons x a ih =>
    obtain ⟨i, y⟩ := x
    simp only [List.cons_append, upLast, ih]
    cases upLast b id <;> rfl

theorem upd_seq (look : Nat → Option Ob) (a b : List (Nat × Ob)) (nx : Nat) (x y : List Ob) (h : ∀ j, j < y.length → upLast a (nx + x.length + j) = none) : upd (upd look a nx x) b (nx + x.length) y = upd look (a ++ b) nx (x ++ y) := by
  funext id
  simp only [upd, upLast_append, List.length_append]
  cases hb : upLast b id with
  | some z => rfl
  | none =>
    simp only
    by_cases h1 : nx + x.length ≤ id ∧ id < nx + x.length + y.length
    · have := h (id - (nx + x.length)) (by omega)
      rw [show nx + x.length + (id - (nx + x.length)) = id by omega] at this
      rw [if_pos h1, this]
      simp only
      rw [if_pos (by omega), List.getElem?_append_right (by omega)]
      congr 1; omega
    · rw [if_neg h1]
      cases ha : upLast a id with
      | some z => rfl
      | none =>
        simp only
        by_cases h2 : nx ≤ id ∧ id < nx + x.length
        · rw [if_pos h2, if_pos (by omega), List.getElem?_append_left (by omega)]
        · rw [if_neg h2, if_neg (by omega)]

theorem upd_skip {look : Nat → Option Ob} {π : Nat → Option Pl} {ids : List Nat} {a b : List (Nat × Ob)} {nx : Nat} {nw : List Ob} (hd : ∀ i ∈ ids, look i = some .dead) (ha : ∀ i ∈ ids, upLast a i = none) (hf : Free look π nx nw.length) :
    upd look (a ++ (deadAll ids ++ b)) nx nw = upd look (a ++ b) nx nw := by
  funext id
  simp only [upd, upLast_append]
  cases hb : upLast b id with
  | some z => rfl
  | none =>
    simp only
    cases hdd : upLast (deadAll ids) id with
    | none => rfl
    | some z =>
      obtain ⟨rfl, hm⟩ := upLast_dead hdd
      simp only [ha id hm]
      rw [if_neg, hd id hm]
      intro h
      have := (hf (id - nx) (by omega)).1
      rw [show nx + (id - nx) = id by omega, hd id hm] at this
      cases this

/-- What comes of what is given back. -/
def Outs (look : Nat → Option Ob) (lins : List (TV × Shp × Bool × List Nat)) (outs : List PV) (nx : Nat) (up : List (Nat × Ob)) (nw : List Ob) : Prop :=
  (∀ id, (upLast up id).isSome = true ↔ id ∈ lins.flatMap (·.2.2.2)) ∧
  ∀ (w : World) (S : Nat → Prop) (π : Nat → Option Pl) (lookB : Nat → Option Ob) (gps : List (List Nat)), (∀ i ∈ lins.flatMap (·.2.2.2), lookB i = some .dead) → (lins.flatMap (·.2.2.2)).Nodup → outsOk look w S π lins outs gps → gps.flatten.Nodup → ObsOk w S π lookB →
    (∀ i ∈ lins.flatMap (·.2.2.2), ∀ es sz, look i = some (.row es sz) → ∀ b s c z l, π i = some (.at b s c z l) → z = sz) → (∀ i ∈ lins.flatMap (·.2.2.2), (∃ x, look i = some x ∧ x.live = true) ∧ π i ≠ none) →
    (∀ b ∈ gps.flatten, ¬ S b ∧ b < w.heap.size ∧ ¬ owned lookB π b) → Free lookB π nx nw.length →
    ∃ π', ObsOk w S π' (upd lookB up nx nw) ∧ Ext π π' ∧ (∀ id, π' id ≠ none → π id ≠ none ∨ (nx ≤ id ∧ id < nx + nw.length)) ∧ ∀ b, owned (upd lookB up nx nw) π' b → owned lookB π b ∨ b ∈ gps.flatten

theorem blks_congr {π π1 : Nat → Option Pl} : ∀ {ids : List Nat}, (∀ i ∈ ids, π1 i = π i) → blks π1 ids = blks π ids
  | [], _ => rfl
  | i :: ids, h => by
    have := blks_congr (ids := ids) fun j hj => h j (List.mem_cons_of_mem _ hj)
    simp only [blks, List.filterMap_cons, h i (List.mem_cons_self ..)] at this ⊢
    rw [this]

section
variable {look : Nat → Option Ob}

theorem exp_ref {shs : List Shp} {id : Nat} {p : PV} {l ids : List Nat} (h : expS look (.o shs) (.ref id 0) = some (p, l, ids)) : ∃ o, ids = id :: o := by
  simp only [expS] at h
  split at h
  · split at h
    · cases h; exact ⟨_, rfl⟩
    · cases h
  · split at h
    · cases h; exact ⟨_, rfl⟩
    · cases h
  · cases h
theorem exp_ow {id : Nat} {p : PV} {l ids : List Nat} (h : expS look .s (.ow id) = some (p, l, ids)) : ids = [id] := by
  simp only [expS] at h
  split at h
  · cases h; rfl
  · cases h

theorem outs_ok {R : Type} : ∀ (lins : List (TV × Shp × Bool × List Nat)) (outs : List PV) (nx : Nat) (k : List (Nat × Ob) → List Ob → Option R) (r : R), outsK look lins outs nx k = some r →
    (∀ x ∈ lins, ∃ p l, expS look x.2.1 x.1 = some (p, l, x.2.2.2)) → ∃ up nw, k up nw = some r ∧ Outs look lins outs nx up nw
  | [], outs, nx, k, r, h, _ => by
    simp only [outsK] at h
    refine ⟨_, _, h, by simp [upLast], ?_⟩
    intro w S π lookB gps hd hn ho hgn hob hz hlv hfp hf
    simp only [outsOk] at ho
    exact ⟨π, by rw [upd_nil]; exact hob, Ext.refl _, fun id h => .inl h, fun b hb => by rw [upd_nil] at hb; exact .inl hb⟩
  | (v, sh, false, ids) :: ls, outs, nx, k, r, h, he => by
    simp only [outsK] at h
    obtain ⟨up, nw, hk, hkey, hout⟩ := outs_ok ls outs nx _ r h fun x hx => he x (List.mem_cons_of_mem _ hx)
    refine ⟨_, _, hk, ?_, ?_⟩
    · intro id
      rw [upLast_append]
      simp only [List.flatMap_cons, List.mem_append]
      cases hu : upLast up id with
      | some z =>
        have := (hkey id).1 (by rw [hu]; rfl)
        simp [this]
      | none =>
        have hno : id ∉ ls.flatMap (·.2.2.2) := fun hm => by have := (hkey id).2 hm; rw [hu] at this; cases this
        simp only
        constructor
        · intro h
          obtain ⟨z, hz⟩ := Option.isSome_iff_exists.1 h
          exact .inl (upLast_dead hz).2
        · rintro (h | h)
          · rw [upLast_dead_mem h]; rfl
          · exact absurd h hno
    · intro w S π lookB gps hd hn ho hgn hob hz hlv hfp hf
      simp only [List.flatMap_cons] at hd hn hlv
      rw [List.nodup_append] at hn
      simp only [outsOk] at ho
      obtain ⟨π', g1, g2, g3, g4⟩ := hout w S π lookB gps (fun i hi => hd i (List.mem_append_right _ hi)) hn.2.1 ho hgn hob (fun i hi => hz i (by simp only [List.flatMap_cons]; exact List.mem_append_right _ hi)) (fun i hi => hlv i (List.mem_append_right _ hi)) hfp hf
      have heq : upd lookB (deadAll ids ++ up) nx nw = upd lookB up nx nw := by
        have := upd_skip (a := []) (b := up) (nw := nw) (fun i hi => hd i (List.mem_append_left _ hi)) (fun i hi => rfl) hf
        simpa using this
      rw [heq]
      exact ⟨π', g1, g2, g3, g4⟩
  | (v, sh, true, ids) :: ls, outs, nx, k, r, h, he => by
    simp only [outsK] at h
    obtain ⟨p, hp, h1⟩ := bind_inv h
    clear h
    split at h1
    · rename_i id shs
      obtain ⟨cs, hcs, h2⟩ := bind_inv h1
      obtain ⟨tvs, obs, h3, him⟩ := impL_ok shs cs nx _ r h2
      obtain ⟨up, nw, hk, hkey, hout⟩ := outs_ok ls outs.tail _ _ r h3 fun x hx => he x (List.mem_cons_of_mem _ hx)
      obtain ⟨p0, l0, hexp⟩ := he _ (List.mem_cons_self ..)
      obtain ⟨tl, rfl⟩ := exp_ref hexp
      refine ⟨_, _, hk, ?_, ?_⟩
      · intro i
        simp only [List.tail_cons, upLast, upLast_append, List.flatMap_cons, List.mem_append, List.mem_cons]
        cases hu : upLast up i with
        | some z =>
          have := (hkey i).1 (by rw [hu]; rfl)
          simp [this]
        | none =>
          have hno : i ∉ ls.flatMap (·.2.2.2) := fun hm => by have := (hkey i).2 hm; rw [hu] at this; cases this
          simp only
          cases hdd : upLast (deadAll tl) i with
          | some z => simp [(upLast_dead hdd).2]
          | none =>
            have hnt : i ∉ tl := fun hm => by rw [upLast_dead_mem hm] at hdd; cases hdd
            simp only [hno, hnt, or_false]
            by_cases e : id = i
            · subst e; simp
            · rw [if_neg e]
              simp only [Option.isSome_none, Bool.false_eq_true, false_iff]
              exact fun h => e h.symm
      · intro w S π lookB gps hd hn ho hgn hob hz hlv hfp hf
        simp only [List.flatMap_cons] at hd hn hlv
        rw [List.nodup_append] at hn
        simp only [List.nodup_cons] at hn
        simp only [outsOk] at ho
        obtain ⟨p', outs', g, gps', rfl, rfl, ⟨w0, S0, u, p1, l1, hr, _, hown, _⟩, ho⟩ := ho
        simp only [List.head?_cons, Option.some.injEq] at hp
        subst hp
        simp only [List.tail_cons] at ho hout
        simp only [List.flatten_cons, List.nodup_append] at hgn
        simp only [List.flatten_cons] at hfp
        simp only [List.length_append] at hf
        simp only [relTV] at hr
        obtain ⟨b0, s, c, z, l, hpi, hu⟩ := hr
        simp only [ownS] at hown
        obtain ⟨cs', b, C, t, fr, fp', rfl, rfl, rfl, hg, huf, h1, hre⟩ := hown
        simp only [PV.asObj, Option.some.injEq] at hcs
        subst hcs
        simp only [Value.pointer.injEq, Option.some.injEq, Addr.mk.injEq, and_true] at hu
        obtain ⟨rfl, hs0⟩ := hu
        have hs : s = 0 := by omega
        subst hs
        simp only [List.nodup_cons] at hgn
        -- the parts
        obtain ⟨π1, g1, g2, g3, g4, g5⟩ := him w S lookB π C.toList fp' hre hgn.1.2 hob (fun b hb => hfp b (List.mem_append_left _ (List.mem_cons_of_mem _ hb))) (fun j hj => hf j (by omega))
        have hnew : ∀ i, lookB i = some .dead → ¬ (nx ≤ i ∧ i < nx + (obs.length + nw.length)) := by
          intro i hi h
          have := (hf (i - nx) (by omega)).1
          rw [show nx + (i - nx) = i by omega, hi] at this
          cases this
        have hid : lookB id = some .dead := hd id (by simp)
        have hid' : ∀ i, lookB i = some .dead → upd lookB [] nx obs i = some .dead := by
          intro i hi
          have := hnew i hi
          simp only [upd, upLast]
          rw [if_neg (by omega)]
          exact hi
        -- it itself
        obtain ⟨k1, k2⟩ := obs_back (nx := nx + obs.length) (ob := .box tvs) (pl := .at b 0 c z l) g1 (hid' id hid) (g2 _ _ hpi) (fun b' hb => by
            simp only [Pl.blk, Option.some.injEq] at hb
            subst hb
            obtain ⟨q1, q2, q3⟩ := hfp b (by simp)
            exact ⟨q1, q2, fun ho => (g5 b ho).elim q3 hgn.1.1⟩) (by
            simp only [obOk]
            exact ⟨trivial, C, t, fr, hg, huf, h1, g4⟩)
        have e1 : upd (upd lookB [] nx obs) [(id, .box tvs)] (nx + obs.length) [] = upd lookB [(id, .box tvs)] nx obs := by
          have := upd_seq lookB [] [(id, .box tvs)] nx obs [] (by simp)
          simpa using this
        rw [e1] at k1 k2
        have hdead : ∀ i ∈ ls.flatMap (·.2.2.2), upd lookB [(id, .box tvs)] nx obs i = some .dead := by
          intro i hi
          have hne : id ≠ i := fun e => hn.2.2 id (List.mem_cons_self ..) i hi e
          have hi' := hd i (List.mem_append_right _ hi)
          have := hnew i hi'
          simp only [upd, upLast]
          rw [if_neg hne]
          simp only
          rw [if_neg (by omega)]
          exact hi'
        have hfree : Free (upd lookB [(id, .box tvs)] nx obs) π1 (nx + obs.length) nw.length := by
          intro j hj
          have hfr := free_step (n := nw.length) hf g3 j hj
          refine ⟨?_, hfr.2⟩
          have h1 := hfr.1
          simp only [upd, upLast] at h1 ⊢
          have hne : id ≠ nx + obs.length + j := fun e => hnew id hid (by omega)
          rw [if_neg hne]
          exact h1
        have hπ1 : ∀ i, π i ≠ none → π1 i = π i := by
          intro i hi
          cases hq : π i with
          | none => exact absurd hq hi
          | some q => exact g2 _ _ hq
        have aux : ∀ (ls : List (TV × Shp × Bool × List Nat)) (outs : List PV) (gps : List (List Nat)), (∀ i ∈ ls.flatMap (·.2.2.2), π i ≠ none) → outsOk look w S π ls outs gps → outsOk look w S π1 ls outs gps := by
          intro ls
          induction ls with
          | nil => intro outs gps _ h; simpa only [outsOk] using h
          | cons x ls ih =>
            obtain ⟨v, sh, back, ids⟩ := x
            intro outs gps hpi h
            simp only [List.flatMap_cons, List.mem_append] at hpi
            cases back with
            | false => simp only [outsOk] at h ⊢; exact ih outs gps (fun i hi => hpi i (.inr hi)) h
            | true =>
              simp only [outsOk] at h ⊢
              obtain ⟨p, outs', g, gps', h1, h2, ⟨w0, S0, u, p0, l0, h3, h4, h5, h6⟩, h7⟩ := h
              refine ⟨p, outs', g, gps', h1, h2, ⟨w0, S0, u, p0, l0, relTV_keep (keep_sub fun _ h => h) g2 _ _ h3, h4, h5, fun e => ?_⟩, ih outs' gps' (fun i hi => hpi i (.inr hi)) h7⟩
              rw [h6 e]
              exact (blks_congr fun i hi => hπ1 i (hpi i (.inl hi))).symm
        have hC := aux ls outs' gps' (fun i hi => (hlv i (List.mem_append_right _ hi)).2) ho
        have hZ : ∀ i ∈ ls.flatMap (·.2.2.2), ∀ es sz, look i = some (.row es sz) → ∀ b s c z l, π1 i = some (.at b s c z l) → z = sz := by
          intro i hi es sz hl b s c z l hp
          obtain ⟨_, h2⟩ := hlv i (List.mem_append_right _ hi)
          rw [hπ1 i h2] at hp
          exact hz i (by simp only [List.flatMap_cons]; exact List.mem_append_right _ hi) es sz hl b s c z l hp
        have hL : ∀ i ∈ ls.flatMap (·.2.2.2), (∃ x, look i = some x ∧ x.live = true) ∧ π1 i ≠ none := by
          intro i hi
          obtain ⟨h1, h2⟩ := hlv i (List.mem_append_right _ hi)
          exact ⟨h1, by rw [hπ1 i h2]; exact h2⟩
        have hB : ∀ b' ∈ gps'.flatten, ¬ S b' ∧ b' < w.heap.size ∧ ¬ owned (upd lookB [(id, .box tvs)] nx obs) π1 b' := by
          intro b' hb
          obtain ⟨w1, w2, w3⟩ := hfp b' (List.mem_append_right _ hb)
          refine ⟨w1, w2, fun ho => ?_⟩
          rcases k2 b' ho with h2 | h2
          · rcases g5 b' h2 with h3 | h3
            · exact w3 h3
            · exact hgn.2.2 b' (List.mem_cons_of_mem _ h3) b' hb rfl
          · simp only [Pl.blk, Option.some.injEq] at h2
            subst h2
            exact hgn.2.2 b (List.mem_cons_self ..) b hb rfl
        obtain ⟨π2, q1, q2, q3, q4⟩ := hout w S π1 (upd lookB [(id, .box tvs)] nx obs) gps' hdead hn.2.1 hC hgn.2.1 k1 hZ hL hB hfree
        · have e2 : upd (upd lookB [(id, .box tvs)] nx obs) up (nx + obs.length) nw = upd lookB ((id, .box tvs) :: (deadAll tl ++ up)) nx (obs ++ nw) := by
            rw [upd_seq lookB [(id, .box tvs)] up nx obs nw (fun j hj => by
              simp only [upLast]
              exact if_neg fun e => hnew id hid (by omega))]
            have := upd_skip (look := lookB) (π := π) (ids := tl) (a := [(id, .box tvs)]) (b := up) (nx := nx) (nw := obs ++ nw) (fun i hi => hd i (List.mem_append_left _ (List.mem_cons_of_mem _ hi))) (fun i hi => by
              simp only [upLast]
              exact if_neg fun e : id = i => hn.1.1 (by rw [e]; exact hi)) (by simpa using hf)
            rw [List.singleton_append] at this
            rw [this]
          rw [List.tail_cons, ← e2]
          refine ⟨π2, q1, g2.trans q2, ?_, ?_⟩
          · intro i hi
            simp only [List.length_append]
            rcases q3 i hi with h1 | h1
            · rcases g3 i h1 with h2 | h2
              · exact .inl h2
              · exact .inr (by omega)
            · exact .inr (by omega)
          · intro b' hb'
            simp only [List.flatten_cons]
            rcases q4 b' hb' with h1 | h1
            · rcases k2 b' h1 with h2 | h2
              · rcases g5 b' h2 with h3 | h3
                · exact .inl h3
                · exact .inr (List.mem_append_left _ (List.mem_cons_of_mem _ h3))
              · simp only [Pl.blk, Option.some.injEq] at h2
                subst h2
                exact .inr (by simp)
            · exact .inr (List.mem_append_right _ h1)
    · rename_i id
      split at h1
      · rename_i es sz hl
        obtain ⟨x, hx, h2⟩ := bind_inv h1
        split at h2
        · rename_i hxs
          obtain ⟨up, nw, hk, hkey, hout⟩ := outs_ok ls outs.tail _ _ r h2 fun x hx => he x (List.mem_cons_of_mem _ hx)
          obtain ⟨p0, l0, hexp⟩ := he _ (List.mem_cons_self ..)
          have hids := exp_ow hexp
          simp only at hids
          subst hids
          refine ⟨_, _, hk, ?_, ?_⟩
          · intro i
            simp only [upLast, List.flatMap_cons, List.mem_append, List.mem_singleton]
            cases hu : upLast up i with
            | some z =>
              have := (hkey i).1 (by rw [hu]; rfl)
              simp [this]
            | none =>
              have hno : i ∉ ls.flatMap (·.2.2.2) := fun hm => by have := (hkey i).2 hm; rw [hu] at this; cases this
              simp only [hno, or_false]
              by_cases e : id = i
              · subst e; simp
              · rw [if_neg e]
                simp only [Option.isSome_none, Bool.false_eq_true, false_iff]
                exact fun h => e h.symm
          · intro w S π lookB gps hd hn ho hgn hob hz hlv hfp hf
            simp only [List.flatMap_cons] at hd hn hlv
            rw [List.nodup_append] at hn
            simp only [outsOk] at ho
            obtain ⟨p', outs', g, gps', rfl, rfl, ⟨w0, S0, u, p1, l1, hr, _, hown, hgs⟩, ho⟩ := ho
            simp only [List.head?_cons, Option.some.injEq] at hp
            subst hp
            simp only [List.tail_cons] at ho hout
            simp only [List.flatten_cons, List.nodup_append] at hgn
            simp only [List.flatten_cons] at hfp
            have hgs := hgs trivial
            simp only [ownS] at hown
            obtain ⟨es', sz', rfl, hrow⟩ := hown
            simp only [PV.asOs, Option.some.injEq] at hx
            subst hx
            simp only at hxs
            subst hxs
            have hid : lookB id = some .dead := hd id (by simp)
            have hnew : ∀ i, lookB i = some .dead → ¬ (nx ≤ i ∧ i < nx + nw.length) := by
              intro i hi h
              have := (hf (i - nx) (by omega)).1
              rw [show nx + (i - nx) = i by omega, hi] at this
              cases this
            have hplace : ∃ pl, π id = some pl ∧ obOk w S π (.row es' sz') pl ∧ ∀ b, pl.blk = some b → b ∈ g := by
              simp only [relTV] at hr
              rcases hr with ⟨hpi, hu⟩ | ⟨b, s, c, z, l, a, hpi, hu, ha⟩
              · refine ⟨_, hpi, ?_, fun b hb => by cases hb⟩
                simp only [obOk]
                rcases hrow with ⟨_, h1, _⟩ | ⟨b', s', c', a', C, t, fr, h1, _⟩
                · exact h1
                · rw [hu] at h1; cases h1
              · have hzz := hz id (by simp) es sz' hl b s c z l hpi
                subst hzz
                simp only [blks, List.filterMap_cons, hpi, Option.bind_some, Pl.blk, List.filterMap_nil] at hgs
                refine ⟨_, hpi, ?_, fun b' hb => by simp only [Pl.blk, Option.some.injEq] at hb; subst hb; simp [hgs]⟩
                rcases hrow with ⟨h1, _⟩ | ⟨b', s', c', a', C, t, fr, h1, ha', hg, hlc, hcm, hh, huf, h2, hsz, hre⟩
                · rw [hu] at h1; cases h1
                · rw [hu] at h1
                  simp only [Value.slice.injEq, Option.some.injEq] at h1
                  obtain ⟨rfl, rfl, rfl⟩ := h1
                  rw [hg] at hgs
                  simp only [List.cons.injEq, and_true] at hgs
                  subst hgs
                  have hss : c ≠ 0 → s' = s := by
                    intro h0
                    have e1 := ha.resolve_left h0
                    have e2 := ha'.resolve_left h0
                    rw [e1] at e2
                    simp only [Addr.mk.injEq, and_true, true_and] at e2
                    exact e2.symm
                  simp only [obOk]
                  refine ⟨trivial, trivial, hlc, hcm, C, t, fr, hh, huf, h2, fun h0 => by rw [← hss h0]; exact hsz h0, ?_⟩
                  by_cases h0 : c = 0
                  · have : es' = [] := List.eq_nil_of_length_eq_zero (by omega)
                    subst this
                    simp only [relEs]
                  · rw [← hss h0]; exact hre
            obtain ⟨pl, hpi, hobk, hblk⟩ := hplace
            obtain ⟨k1, k2⟩ := obs_back (nx := nx) (ob := .row es' sz') (pl := pl) hob hid hpi (fun b' hb => hfp b' (List.mem_append_left _ (hblk b' hb))) hobk
            have hdead : ∀ i ∈ ls.flatMap (·.2.2.2), upd lookB [(id, .row es' sz')] nx [] i = some .dead := by
              intro i hi
              have hne : id ≠ i := fun e => hn.2.2 id (by simp) i hi e
              have hi' := hd i (List.mem_append_right _ hi)
              simp only [upd, upLast]
              rw [if_neg hne]
              simp only [List.length_nil]
              rw [if_neg (by omega)]
              exact hi'
            have hfree : Free (upd lookB [(id, .row es' sz')] nx []) π nx nw.length := by
              intro j hj
              refine ⟨?_, (hf j hj).2⟩
              simp only [upd, upLast]
              have hne : id ≠ nx + j := fun e => hnew id hid (by omega)
              rw [if_neg hne]
              simp only [List.length_nil]
              rw [if_neg (by omega)]
              exact (hf j hj).1
            obtain ⟨π2, q1, q2, q3, q4⟩ := hout w S π (upd lookB [(id, .row es' sz')] nx []) gps' hdead hn.2.1 ho hgn.2.1 k1 (fun i hi => hz i (by simp only [List.flatMap_cons]; exact List.mem_append_right _ hi)) (fun i hi => hlv i (List.mem_append_right _ hi)) (fun b' hb => by
              obtain ⟨w1, w2, w3⟩ := hfp b' (List.mem_append_right _ hb)
              refine ⟨w1, w2, fun ho => ?_⟩
              rcases k2 b' ho with h2 | h2
              · exact w3 h2
              · exact hgn.2.2 b' (hblk b' h2) b' hb rfl) hfree
            have e2 : upd (upd lookB [(id, .row es' sz')] nx []) up nx nw = upd lookB ((id, .row es' sz') :: up) nx nw := by
              have := upd_seq lookB [(id, .row es' sz')] up nx [] nw (fun j hj => by
                simp only [upLast]
                exact if_neg fun e => hnew id hid (by simp only [List.length_nil] at e; omega))
              simpa using this
            rw [← e2]
            refine ⟨π2, q1, q2, q3, fun b' hb' => ?_⟩
            simp only [List.flatten_cons]
            rcases q4 b' hb' with h1 | h1
            · rcases k2 b' h1 with h2 | h2
              · exact .inl h2
              · exact .inr (List.mem_append_left _ (hblk b' h2))
            · exact .inr (List.mem_append_right _ h1)
        · cases h2
      · cases h1
    · cases h1

end
end Go.Proofs.YtpaifgipdhgfkaaGreatDoorV

/- The reading machine: a call is told rightly. -/
namespace Go.Proofs.YtpaifgipdhgfkaaGreatDoorV
open Go Go.RowKit

theorem noDup_ok : ∀ {l : List Nat}, noDup l = true → l.Nodup
  | [], _ => by simp
  | i :: l, h => by
    simp only [noDup, Bool.and_eq_true, Bool.not_eq_true'] at h
    rw [List.nodup_cons]
    refine ⟨fun hm => ?_, noDup_ok h.2⟩
    have := h.1
    simp only [List.contains_eq_mem, hm, decide_true, Bool.true_eq_false] at this

theorem upLast_fro {look : Nat → Option Ob} {ids l : List Nat} {id : Nat} : upLast (l.map fun i => (i, froOb look ids i)) id = if id ∈ l then some (froOb look ids id) else none := by
  induction l with
  | nil => simp [upLast]
  | cons i l ih =>
    simp only [List.map_cons, upLast, ih, List.mem_cons]
    by_cases h : id ∈ l
    · simp [h]
    · simp only [h, if_false, or_false]
      by_cases e : i = id
      · subst e; simp
      · rw [if_neg e, if_neg (fun h => e h.symm)]

theorem mem_blks_flat {π : Nat → Option Pl} {lins : List (TV × Shp × Bool × List Nat)} : (lins.map fun x => blks π x.2.2.2).flatten = blks π (lins.flatMap (·.2.2.2)) := by
  induction lins with
  | nil => rfl
  | cons x l ih => simp only [List.map_cons, List.flatten_cons, List.flatMap_cons, blks_append, ih]

section
variable {P : Program} {T : TypeId → Option TI} {look : Nat → Option Ob} {nx : Nat} {ev : Operand → Option TV} {o : Oper} {v : TV} {up : List (Nat × Ob)} {nw : List Ob} {rd : List Nat}

/-- Blocks of unlike ones are unlike. -/
theorem blks_nodup {w : World} {S : Nat → Prop} {π : Nat → Option Pl} (h : ObsOk w S π look) : ∀ {ids : List Nat}, ids.Nodup → (∀ i ∈ ids, ∃ x, look i = some x ∧ x.live = true) → (blks π ids).Nodup
  | [], _, _ => by simp [blks]
  | i :: ids, hn, hl => by
    simp only [List.nodup_cons] at hn
    have ih := blks_nodup h hn.2 fun j hj => hl j (List.mem_cons_of_mem _ hj)
    simp only [blks, List.filterMap_cons] at ih ⊢
    split
    · exact ih
    · rename_i b hb
      rw [List.nodup_cons]
      refine ⟨fun hm => ?_, ih⟩
      obtain ⟨j, hj, pj, hpj, hbj⟩ := mem_blks.1 hm
      obtain ⟨x, hx, hxl⟩ := hl i (List.mem_cons_self ..)
      obtain ⟨y, hy, hyl⟩ := hl j (List.mem_cons_of_mem _ hj)
      cases hpi : π i with
      | none => rw [hpi] at hb; cases hb
      | some pi =>
        rw [hpi] at hb
        have := h.apart i j x y pi pj b hx hy hxl hyl hpi hpj hb hbj
        subst this
        exact hn.1 hj

theorem blks_lt {w : World} {S : Nat → Prop} {π : Nat → Option Pl} (h : ObsOk w S π look) {ids : List Nat} (hl : ∀ i ∈ ids, ∃ x, look i = some x ∧ x.live = true) : ∀ b ∈ blks π ids, owned look π b := by
  intro b hb
  obtain ⟨i, hi, pl, hp, hpb⟩ := mem_blks.1 hb
  obtain ⟨x, hx, hxl⟩ := hl i hi
  exact ⟨i, x, pl, hx, hxl, hp, hpb⟩

theorem froOb_ok {w w' : World} {S S' : Nat → Prop} {π : Nat → Option Pl} {ids : List Nat} {id : Nat} {pl : Pl} (h : ObsOk w S π look) (hid : id ∈ ids) (hp : π id = some pl) (hS : ∀ b, S b → S' b) (hSi : ∀ b ∈ blks π ids, S' b) (hsame : ∀ b, S b ∨ b ∈ blks π ids → w'.heap[b]? = w.heap[b]?) :
    obOk w' S' π (froOb look ids id) pl := by
  have hk : Keep w S w' S' := ⟨fun b hb => hsame b (.inl hb), hS⟩
  have hk2 : Keep w (fun b => S b ∨ b ∈ blks π ids) w' S' := ⟨fun b hb => hsame b hb, fun b hb => hb.elim (hS b) (hSi b)⟩
  unfold froOb
  split
  · rename_i es sz hl
    obtain ⟨pl', hp', ho⟩ := h.ok id _ hl
    rw [hp] at hp'; cases hp'
    cases pl with
    | nil => simpa only [obOk] using ho
    | «at» b s c z l =>
      simp only [obOk] at ho ⊢
      obtain ⟨rfl, rfl, h1, h2, C, t, fr, hg, _, _, _, hr⟩ := ho
      have hb : b ∈ blks π ids := mem_blks.2 ⟨id, hid, _, hp, rfl⟩
      exact ⟨rfl, h1, h2, hSi b hb, relEs_keep hk _ _ _ _ (hsame b (.inr hb)) hr⟩
  · rename_i kvs hl
    obtain ⟨pl', hp', ho⟩ := h.ok id _ hl
    rw [hp] at hp'; cases hp'
    cases pl with
    | nil => simp only [obOk] at ho
    | «at» b s c z l =>
      simp only [obOk] at ho ⊢
      obtain ⟨ms, clock, hg, hst, hr⟩ := ho
      have hb : b ∈ blks π ids := mem_blks.2 ⟨id, hid, _, hp, rfl⟩
      exact ⟨hSi b hb, ms, clock, (hsame b (.inr hb)).trans hg, hst, relKV_keep hk _ _ hr⟩
  · rename_i p n hl
    obtain ⟨pl', hp', ho⟩ := h.ok id _ hl
    rw [hp] at hp'; cases hp'
    cases pl with
    | nil => simp only [obOk] at ho
    | «at» b s c z l =>
      simp only [obOk] at ho ⊢
      obtain ⟨rfl, C, t, fr, hg, _, h1, hsz, hq, hr⟩ := ho
      have hb : b ∈ blks π ids := mem_blks.2 ⟨id, hid, _, hp, rfl⟩
      obtain ⟨cs, us, rfl, hu, h2, h3, _⟩ := rel_agg hr hq
      cases hu
      exact ⟨rfl, hSi b hb, relCs_keep hk _ _ _ (hsame b (.inr hb)) (relCs_list hg h1 h3)⟩
  · rename_i cs hl
    split
    · rename_i ps is hps
      split
      · rename_i hall
        obtain ⟨pl', hp', ho⟩ := h.ok id _ hl
        rw [hp] at hp'; cases hp'
        cases pl with
        | nil => simp only [obOk] at ho
        | «at» b s c z l =>
          simp only [obOk] at ho ⊢
          obtain ⟨rfl, C, t, fr, hg, _, h1, hr⟩ := ho
          have hb : b ∈ blks π ids := mem_blks.2 ⟨id, hid, _, hp, rfl⟩
          obtain ⟨g1, _⟩ := reifyL_ok (S' := fun b => S b ∨ b ∈ blks π ids) h (fun b hb => .inl hb) 99 cs C.toList ps is hps hr (fun b' hb' => by
            obtain ⟨j, hj, pj, hpj, hbj⟩ := mem_blks.1 hb'
            simp only [List.all_eq_true] at hall
            have := hall j hj
            simp only [List.contains_eq_mem, decide_eq_true_eq] at this
            exact .inr (mem_blks.2 ⟨j, this, pj, hpj, hbj⟩))
          exact ⟨rfl, hSi b hb, relCs_keep hk2 _ _ _ (hsame b (.inr hb)) (relCs_list hg h1 g1)⟩
      · simp only [obOk]
    · simp only [obOk]
  · simp only [obOk]

theorem froOb_dead {ids : List Nat} {id : Nat} : (froOb look ids id).live = false := by
  unfold froOb
  split <;> try rfl
  split <;> try rfl
  split <;> rfl

theorem gather_exp : ∀ {ms : List (Option (Shp × Bool))} {vs : List TV} {a : Args}, gather look ms vs = some a → ∀ x ∈ a.lins, ∃ p l, expS look x.2.1 x.1 = some (p, l, x.2.2.2)
  | [], [], a, h, x, hx => by simp only [gather, Option.some.injEq] at h; subst h; cases hx
  | [], _ :: _, a, h, x, hx => by simp [gather] at h
  | none :: ms, [], a, h, x, hx => by simp [gather] at h
  | some _ :: ms, [], a, h, x, hx => by simp [gather] at h
  | none :: ms, v :: vs, a, h, x, hx => by
    simp only [gather] at h
    split at h
    · rename_i p ids a' h1 h2
      cases h
      exact gather_exp h2 x hx
    · cases h
  | some (sh, back) :: ms, v :: vs, a, h, x, hx => by
    simp only [gather] at h
    split at h
    · rename_i p l ids a' h1 h2
      cases h
      rcases List.mem_cons.1 hx with rfl | hx
      · exact ⟨p, l, h1⟩
      · exact gather_exp h2 x hx
    · cases h

theorem apply_ok {Γ : FuncId → Option Cal} {G : Nat → Option (List PV)} {g : FuncId} {c : Ctr} {args : List TV} {ty : TypeId} (hΓ : Γ g = some (.ctr c)) (hG : Holds P G g c) (h : callK Γ look nx g args (resK T ty ret4) = some (v, up, nw, rd))
    {w : World} {S : Nat → Prop} {π : Nat → Option Pl} {us : List Value} (hgo : GOk G w S) (hr : relTVs w S π args us) (hob : ObsOk w S π look) (hf : Free look π nx nw.length) :
    Applies P g us.toArray w fun u w' => ∃ S' π', After w S π look nx v up nw u w' S' π' := by
  unfold callK at h
  rw [hΓ] at h
  simp only at h
  split at h
  · cases h
  rename_i a ha
  split at h
  case isFalse => cases h
  rename_i hnd
  simp only [Bool.and_eq_true] at hnd
  obtain ⟨y, hy, h'⟩ := bind_inv h
  clear h
  have hx : c.F a.ps = some (c.E y) := by simp only [Ctr.F, hy, Option.bind_some]
  generalize c.E y = x at hx h'
  obtain ⟨r, outs⟩ := x
  obtain ⟨upO, nwO, h2, hkey, hout⟩ := outs_ok a.lins outs nx _ _ h' (gather_exp ha)
  obtain ⟨tv, obs, h3, him⟩ := imp_ok c.res r _ _ _ h2
  -- what it comes to
  have hres : tv = v ∧ upO ++ (if c.scal then [] else froAll look a.lent) = up ∧ nwO ++ obs = nw := by
    unfold resK at h3
    split at h3
    · obtain ⟨h4, _⟩ := coeK_spec h3
      obtain ⟨e1, e2, e3, _⟩ := ret4_inv h4
      exact ⟨e1, e2, e3⟩
    · obtain ⟨e1, e2, e3, _⟩ := ret4_inv h3
      exact ⟨e1, e2, e3⟩
  obtain ⟨rfl, rfl, rfl⟩ := hres
  clear h2 h3 h'
  have hL := noDup_ok hnd.1
  have hdisj : ∀ i ∈ a.lent, i ∉ a.lins.flatMap (·.2.2.2) := by
    intro i hi hm
    have := hnd.2
    simp only [List.all_eq_true] at this
    have := this i hi
    simp only [List.contains_eq_mem, hm, decide_true, Bool.not_true, Bool.false_eq_true] at this
  -- the call
  have hlive := (gather_ok (S' := fun b => S b ∨ b ∈ blks π a.lent) hob (fun b hb => .inl hb) c.modes args us a ha hr fun b hb => .inr hb).2
  have hargs := (gather_ok (S' := fun b => S b ∨ b ∈ blks π a.lent) hob (fun b hb => .inl hb) c.modes args us a ha hr fun b hb => .inr hb).1
  have hliveL : ∀ i ∈ a.lins.flatMap (·.2.2.2), ∃ x, look i = some x ∧ x.live = true := fun i hi => hlive i (List.mem_append_right _ hi)
  have hliveT : ∀ i ∈ a.lent, ∃ x, look i = some x ∧ x.live = true := fun i hi => hlive i (List.mem_append_left _ hi)
  have hbL := blks_lt hob hliveL
  have hbT := blks_lt hob hliveT
  have hbd : ∀ b, b ∈ blks π a.lent → b ∉ blks π (a.lins.flatMap (·.2.2.2)) := by
    intro b h1 h2
    obtain ⟨i, hi, pi, hpi, hbi⟩ := mem_blks.1 h1
    obtain ⟨j, hj, pj, hpj, hbj⟩ := mem_blks.1 h2
    obtain ⟨x, hx, hxl⟩ := hliveT i hi
    obtain ⟨y, hy, hyl⟩ := hliveL j hj
    have := hob.apart i j x y pi pj b hx hy hxl hyl hpi hpj hbi hbj
    subst this
    exact hdisj i hi hj
  have hcall := hG w (fun b => S b ∨ b ∈ blks π a.lent) a.ps us _ r outs hargs (by rw [mem_blks_flat]; exact blks_nodup hob hL hliveL)
    (by
      rw [mem_blks_flat]
      intro b hb
      have ho := hob.out b (hbL b hb)
      exact ⟨fun h => h.elim ho.1 fun h => hbd b h hb, ho.2⟩)
    (fun b hb => hb.elim (hob.st b) fun h => (hob.out b (hbT b h)).2)
    (hgo.keep (keep_sub fun b hb => .inl hb)) hx
  refine hcall.mono fun u w' hB => ?_
  obtain ⟨S', gg, gps, hB⟩ := hB
  have hsame := hB.same
  have hstab := hB.stab
  have hownB := hB.own
  rw [mem_blks_flat] at hsame hstab hownB
  -- what is to be read from now on
  let S2 : Nat → Prop := if c.scal then S else S'
  have hS2 : S2 = S' ∨ c.scal = true := by
    simp only [S2]
    cases c.scal
    · exact .inl rfl
    · exact .inr rfl
  have hsub2 : ∀ b, S b → S2 b := by
    intro b hb
    simp only [S2]
    cases c.scal
    · exact hB.sub b (.inl hb)
    · exact hb
  have h2sub : ∀ b, S2 b → S' b := by
    intro b hb
    simp only [S2] at hb
    cases hc : c.scal
    · rw [hc] at hb; exact hb
    · rw [hc] at hb; exact hB.sub b (.inl hb)
  obtain ⟨hres, houts⟩ := hB.res S2 hS2
  let fro := if c.scal then [] else froAll look a.lent
  have hfro : ∀ id, upLast fro id = if c.scal = false ∧ id ∈ a.lent then some (froOb look a.lent id) else none := by
    intro id
    simp only [fro]
    cases c.scal
    · simp only [Bool.false_eq_true, if_false, froAll, upLast_fro, true_and]
    · simp [upLast]
  have hin : ∀ i, (∃ x, look i = some x ∧ x.live = true) → ¬ (nx ≤ i ∧ i < nx + (nwO ++ obs).length) := by
    rintro i ⟨x, hx, _⟩ h
    have := (hf (i - nx) (by omega)).1
    rw [show nx + (i - nx) = i by omega, hx] at this
    cases this
  let lookB := upd look (deadAll (a.lins.flatMap (·.2.2.2)) ++ fro) nx []
  have hlookB : ∀ id, lookB id = if id ∈ a.lins.flatMap (·.2.2.2) then some .dead else if c.scal = false ∧ id ∈ a.lent then some (froOb look a.lent id) else look id := by
    intro id
    simp only [lookB, upd, upLast_append, hfro, List.length_nil, Nat.add_zero]
    by_cases h1 : id ∈ a.lins.flatMap (·.2.2.2)
    · have : ¬ (c.scal = false ∧ id ∈ a.lent) := fun h => hdisj id h.2 h1
      rw [if_neg this, if_pos h1, upLast_dead_mem h1]
    · rw [if_neg h1]
      by_cases h2 : c.scal = false ∧ id ∈ a.lent
      · rw [if_pos h2, if_pos h2]
      · rw [if_neg h2]
        cases hd : upLast (deadAll (a.lins.flatMap (·.2.2.2))) id with
        | some z => exact absurd (upLast_dead hd).2 h1
        | none => simp only; rw [if_neg (by omega), if_neg h2]
  have hobB : ObsOk w' S2 π lookB := by
    refine obs_gen hob ⟨fun b hb => hsame b (hob.st b hb) fun hm => (hob.out b (hbL b hm)).1 hb, hsub2⟩ (Ext.refl _) (fun b hb => hB.st b (h2sub b hb)) hB.size
      (fun id => id ∉ a.lins.flatMap (·.2.2.2) ∧ ¬ (c.scal = false ∧ id ∈ a.lent)) ?_ ?_
    · rintro id ⟨h1, h2⟩
      refine ⟨by rw [hlookB, if_neg h1, if_neg h2], fun x pl b hx hl hp hb => ?_⟩
      have ho : owned look π b := ⟨id, x, pl, hx, hl, hp, hb⟩
      have hnL : b ∉ blks π (a.lins.flatMap (·.2.2.2)) := by
        intro hm
        obtain ⟨j, hj, pj, hpj, hbj⟩ := mem_blks.1 hm
        obtain ⟨y, hy, hyl⟩ := hliveL j hj
        have := hob.apart id j x y pl pj b hx hy hl hyl hp hpj hb hbj
        subst this
        exact h1 hj
      refine ⟨hsame b (hob.out b ho).2 hnL, fun hs => ?_⟩
      simp only [S2] at hs
      cases hc : c.scal
      · rw [hc] at hs
        rcases hstab b hs with h3 | h3 | h3
        · rcases h3 with h3 | h3
          · exact (hob.out b ho).1 h3
          · obtain ⟨j, hj, pj, hpj, hbj⟩ := mem_blks.1 h3
            obtain ⟨y, hy, hyl⟩ := hliveT j hj
            have := hob.apart id j x y pl pj b hx hy hl hyl hp hpj hb hbj
            subst this
            exact h2 ⟨hc, hj⟩
        · exact hnL h3
        · have := (hob.out b ho).2; omega
      · rw [hc] at hs
        exact (hob.out b ho).1 hs
    · intro id x hx hno
      rw [hlookB] at hx
      by_cases h1 : id ∈ a.lins.flatMap (·.2.2.2)
      · rw [if_pos h1] at hx
        cases hx
        obtain ⟨y, hy, _⟩ := hliveL id h1
        obtain ⟨pl, hp, _⟩ := hob.ok id y hy
        exact ⟨pl, hp, by simp only [obOk], fun b hl => by cases hl⟩
      · rw [if_neg h1] at hx
        by_cases h2 : c.scal = false ∧ id ∈ a.lent
        · rw [if_pos h2] at hx
          cases hx
          obtain ⟨y, hy, _⟩ := hliveT id h2.2
          obtain ⟨pl, hp, _⟩ := hob.ok id y hy
          have hS2' : S2 = S' := by simp only [S2, h2.1]; rfl
          refine ⟨pl, hp, ?_, fun b hl => by rw [froOb_dead] at hl; cases hl⟩
          refine froOb_ok hob h2.2 hp hsub2 (fun b hb => by rw [hS2']; exact hB.sub b (.inr hb)) (fun b hb => ?_)
          rcases hb with hb | hb
          · exact hsame b (hob.st b hb) fun hm => (hob.out b (hbL b hm)).1 hb
          · exact hsame b (hob.out b (hbT b hb)).2 (hbd b hb)
        · exact absurd ⟨h1, h2⟩ hno
  have hownLB : ∀ b, owned lookB π b → owned look π b ∧ b ∉ blks π (a.lins.flatMap (·.2.2.2)) := by
    rintro b ⟨id, x, pl, h1, h2, h3, h4⟩
    rw [hlookB] at h1
    by_cases h5 : id ∈ a.lins.flatMap (·.2.2.2)
    · rw [if_pos h5] at h1; cases h1; cases h2
    · rw [if_neg h5] at h1
      by_cases h6 : c.scal = false ∧ id ∈ a.lent
      · rw [if_pos h6] at h1; cases h1; rw [froOb_dead] at h2; cases h2
      · rw [if_neg h6] at h1
        refine ⟨⟨id, x, pl, h1, h2, h3, h4⟩, fun hm => ?_⟩
        obtain ⟨j, hj, pj, hpj, hbj⟩ := mem_blks.1 hm
        obtain ⟨y, hy, hyl⟩ := hliveL j hj
        have := hob.apart id j x y pl pj b h1 hy h2 hyl h3 hpj h4 hbj
        subst this
        exact h5 hj
  have hfresh : ∀ b ∈ gg ++ gps.flatten, ¬ S2 b ∧ b < w'.heap.size ∧ ¬ owned lookB π b := by
    intro b hb
    obtain ⟨h1, h2, h3⟩ := hownB b hb
    refine ⟨fun h => h1 (h2sub b h), h2, fun ho => ?_⟩
    obtain ⟨h4, h5⟩ := hownLB b ho
    rcases h3 with h3 | h3
    · exact h5 h3
    · have := (hob.out b h4).2; omega
  have hnd2 := hB.nodup
  rw [List.nodup_append] at hnd2
  have hfreeB : Free lookB π nx (nwO ++ obs).length := by
    intro j hj
    refine ⟨?_, (hf j hj).2⟩
    have hne : ¬ ∃ x, look (nx + j) = some x ∧ x.live = true := fun h => hin _ h (by omega)
    rw [hlookB, if_neg (fun h => hne (hliveL _ h)), if_neg (fun h => hne (hliveT _ h.2))]
    exact (hf j hj).1
  simp only [List.length_append] at hfreeB
  obtain ⟨π1, q1, q2, q3, q4⟩ := hout w' S2 π lookB gps (fun i hi => by rw [hlookB, if_pos hi]) hL (outs_of c.modes args us a outs gps ha hr houts) hnd2.2.1 hobB
    (fun i hi es sz hl b s c z l hp => by
      obtain ⟨pl, hp', hk⟩ := hob.ok i _ hl
      rw [hp] at hp'; cases hp'
      simp only [obOk] at hk
      exact hk.2.1)
    (fun i hi => ⟨hliveL i hi, by
      obtain ⟨y, hy, _⟩ := hliveL i hi
      obtain ⟨pl, hp, _⟩ := hob.ok i y hy
      rw [hp]; simp⟩)
    (fun b hb => hfresh b (List.mem_append_right _ hb)) (fun j hj => hfreeB j (by omega))
  have hfree1 : Free (upd lookB upO nx nwO) π1 (nx + nwO.length) obs.length := by
    intro j hj
    have h0 := hfreeB (nwO.length + j) (by omega)
    rw [← Nat.add_assoc] at h0
    refine ⟨?_, ?_⟩
    · simp only [upd]
      cases hu : upLast upO (nx + nwO.length + j) with
      | some z =>
        have := (hkey _).1 (by rw [hu]; rfl)
        exact absurd (hliveL _ this) fun h => hin _ h (by simp only [List.length_append]; omega)
      | none => simp only; rw [if_neg (by omega)]; exact h0.1
    · cases hq : π1 (nx + nwO.length + j) with
      | none => rfl
      | some q =>
        rcases q3 (nx + nwO.length + j) (by rw [hq]; simp) with h1 | h1
        · exact absurd h0.2 h1
        · omega
  obtain ⟨π2, k1, k2, k3, k4, k5, _⟩ := him w' S2 (upd lookB upO nx nwO) π1 u gg hres hnd2.1 q1 (fun b hb => by
    obtain ⟨h1, h2, h3⟩ := hfresh b (List.mem_append_left _ hb)
    exact ⟨h1, h2, fun ho => (q4 b ho).elim h3 fun h => hnd2.2.2 b hb b h rfl⟩) hfree1
  -- it is what it is said to be
  have heq : upd (upd lookB upO nx nwO) [] (nx + nwO.length) obs = upd look (upO ++ fro) nx (nwO ++ obs) := by
    rw [upd_seq lookB upO [] nx nwO obs (fun j hj => by
      cases hu : upLast upO (nx + nwO.length + j) with
      | none => rfl
      | some z =>
        have := (hkey _).1 (by rw [hu]; rfl)
        exact absurd (hliveL _ this) fun h => hin _ h (by simp only [List.length_append]; omega))]
    rw [List.append_nil]
    funext id
    simp only [upd, upLast_append, hfro]
    cases hu : upLast upO id with
    | some z =>
      have hm := (hkey _).1 (by rw [hu]; rfl)
      have h3 : ¬ (c.scal = false ∧ id ∈ a.lent) := fun h => hdisj id h.2 hm
      rw [if_neg h3]
    | none =>
      have hm : id ∉ a.lins.flatMap (·.2.2.2) := fun hm => by have := (hkey id).2 hm; rw [hu] at this; cases this
      simp only
      by_cases h2 : c.scal = false ∧ id ∈ a.lent
      · rw [if_pos h2]
        have : ¬ (nx ≤ id ∧ id < nx + (nwO ++ obs).length) := hin id (hliveT id h2.2)
        rw [if_neg this, hlookB, if_neg hm, if_pos h2]
      · rw [if_neg h2]
        split
        · rfl
        · rw [hlookB, if_neg hm, if_neg h2]
  rw [heq] at k1 k5
  refine ⟨S2, π2, k4, k1, q2.trans k2, ?_, ?_⟩
  · intro id hid
    simp only [List.length_append]
    rcases k3 id hid with h1 | h1
    · rcases q3 id h1 with h2 | h2
      · exact .inl h2
      · exact .inr (by omega)
    · exact .inr (by omega)
  · have hback : ∀ b ∈ gg ++ gps.flatten, owned look π b ∨ w.heap.size ≤ b := by
      intro b hb
      rcases (hownB b hb).2.2 with h | h
      · exact .inl (hbL b h)
      · exact .inr h
    refine ⟨hB.os, hB.tape, hB.output, hB.size, fun b hlt hno => hsame b hlt fun hm => hno (hbL b hm), hsub2, fun b hb => ?_, fun b hb => ?_⟩
    · rcases hstab b (h2sub b hb) with h | h | h
      · rcases h with h | h
        · exact .inl h
        · exact .inr (.inl (hbT b h))
      · exact .inr (.inl (hbL b h))
      · exact .inr (.inr h)
    · rcases k5 b hb with h | h
      · rcases q4 b h with h | h
        · exact .inl (hownLB b h).1
        · exact hback b (List.mem_append_right _ h)
      · exact hback b (List.mem_append_left _ h)

end
end Go.Proofs.YtpaifgipdhgfkaaGreatDoorV

/- The reading machine: what follows an operation follows what it comes to. -/
namespace Go.Proofs.YtpaifgipdhgfkaaGreatDoorV
open Go Go.RowKit

def unc {R : Type} (k : K R) (r : Res) : Option R := k r.1 r.2.1 r.2.2.1 r.2.2.2

theorem ret4_bind {R : Type} (k : K R) (v : TV) (up : List (Nat × Ob)) (nw : List Ob) (rd : List Nat) : (ret4 v up nw rd).bind (unc k) = k v up nw rd := rfl

section
variable {R : Type} {T : TypeId → Option TI} {look : Nat → Option Ob} {nx : Nat}

theorem coeK_nat (t : TypeId) (c : PV) (f : PV → Option Res) (k : K R) : (coeK T t c f).bind (unc k) = coeK T t c fun p => (f p).bind (unc k) := by
  unfold coeK
  (repeat' split) <;> first | rfl | (simp only [Option.bind_assoc]; done) | (simp only [Option.bind_none]; done)

theorem intK_nat (op : BinOp) (ik : IntKind) (a b : Int) (f : PV → Option Res) (k : K R) : (intK op ik a b f).bind (unc k) = intK op ik a b fun p => (f p).bind (unc k) := by
  cases op <;> simp only [intK] <;> first | rfl | (split <;> rfl)
theorem shiftK_nat (op : BinOp) (ik : IntKind) (a b : Int) (f : PV → Option Res) (k : K R) : (shiftK op ik a b f).bind (unc k) = shiftK op ik a b fun p => (f p).bind (unc k) := by
  unfold shiftK; split
  · rfl
  · cases op <;> rfl
theorem strK_nat (op : BinOp) (a b : ByteArray) (f : PV → Option Res) (k : K R) : (strK op a b f).bind (unc k) = strK op a b fun p => (f p).bind (unc k) := by
  cases op <;> simp only [strK] <;> first | rfl | (split <;> rfl)

theorem binK_nat (op : BinOp) (xt yt : TypeId) (yc : Bool) (x y : TV) (f : PV → Option Res) (k : K R) : (binK T op xt yt yc x y f).bind (unc k) = binK T op xt yt yc x y fun p => (f p).bind (unc k) := by
  unfold binK
  (repeat' split) <;> first | rfl | (simp only [Option.bind_assoc, intK_nat, shiftK_nat, strK_nat]; done) | (simp only [Option.bind_none]; done)
theorem unK_nat (op : UnOp) (xt : TypeId) (x : TV) (f : PV → Option Res) (k : K R) : (unK T op xt x f).bind (unc k) = unK T op xt x fun p => (f p).bind (unc k) := by
  unfold unK
  (repeat' split) <;> first | rfl | (simp only [Option.bind_assoc]; done) | (simp only [Option.bind_none]; done)

theorem bind_ite {α β : Type} {c : Prop} [Decidable c] (a b : Option α) (f : α → Option β) : (if c then a else b).bind f = if c then a.bind f else b.bind f := by split <;> rfl
theorem bind_cond {α β : Type} {c : Bool} (a b : Option α) (f : α → Option β) : (cond c a b).bind f = cond c (a.bind f) (b.bind f) := by cases c <;> rfl

theorem loadK_nat (t : TypeId) (x : TV) (k : K R) : loadK T look t x k = (loadK T look t x ret4).bind (unc k) := by
  unfold loadK
  (repeat' split) <;> first | rfl | (simp only [Option.bind_assoc, coeK_nat, ret4_bind]; done) | (simp only [Option.bind_none]; done)
theorem storeK_nat (t : TypeId) (x y : TV) (k : K R) : storeK T look t x y k = (storeK T look t x y ret4).bind (unc k) := by
  unfold storeK
  (repeat' split) <;> first | rfl | (simp only [Option.bind_assoc, coeK_nat, ret4_bind]; done) | (simp only [Option.bind_none]; done)
theorem indexAddrK_nat (t : TypeId) (x i : TV) (k : K R) : indexAddrK T look t x i k = (indexAddrK T look t x i ret4).bind (unc k) := by
  unfold indexAddrK
  (repeat' split) <;> first | rfl | (simp only [Option.bind_assoc, bind_ite, coeK_nat, ret4_bind, Option.bind_none]; done)
theorem indexK_nat (t : TypeId) (x i : TV) (k : K R) : indexK T t x i k = (indexK T t x i ret4).bind (unc k) := by
  unfold indexK
  (repeat' split) <;> first | rfl | (simp only [Option.bind_assoc, bind_ite, coeK_nat, ret4_bind, Option.bind_none]; done)
theorem boundK_nat (o : Option TV) (d : Int) (f : Int → Option Res) (k : K R) : (boundK o d f).bind (unc k) = boundK o d fun n => (f n).bind (unc k) := by
  unfold boundK
  (repeat' split) <;> first | rfl | (simp only [Option.bind_assoc]; done) | (simp only [Option.bind_none]; done)
theorem sliceK_nat (t : TypeId) (x : TV) (lo hi mx : Option TV) (k : K R) : sliceK T look t x lo hi mx k = (sliceK T look t x lo hi mx ret4).bind (unc k) := by
  unfold sliceK
  (repeat' split) <;> first | rfl | (simp only [Option.bind_assoc, bind_ite, boundK_nat, ret4_bind, Option.bind_none]; done)
theorem elemsK_nat (n : Nat) (x : TV) (f : List (List PV) → List Nat → Option Res) (k : K R) : (elemsK look n x f).bind (unc k) = elemsK look n x fun es rd => (f es rd).bind (unc k) := by
  unfold elemsK
  (repeat' split) <;> first | rfl | (simp only [Option.bind_assoc, bind_ite, Option.bind_none]; done)
theorem growK_nat (i : TI) (x : TV) (ms : List (List PV)) (rd : List Nat) (k : K R) : growK look nx i x ms rd k = (growK look nx i x ms rd ret4).bind (unc k) := by
  unfold growK
  (repeat' split) <;> first | rfl | (simp only [bind_cond, ret4_bind]; done)
theorem appendK_nat (t u : TypeId) (x y : TV) (k : K R) : appendK T look nx t u x y k = (appendK T look nx t u x y ret4).bind (unc k) := by
  unfold appendK
  (repeat' split) <;> first | rfl | (simp only [Option.bind_assoc, bind_ite, elemsK_nat, ← growK_nat, Option.bind_none]; done)
theorem lenK_nat (t : TypeId) (x : TV) (k : K R) : lenK T look t x k = (lenK T look t x ret4).bind (unc k) := by
  unfold lenK
  (repeat' split) <;> first | rfl | (simp only [Option.bind_assoc, ret4_bind]; done)
theorem clearK_nat (t : TypeId) (x : TV) (k : K R) : clearK T look t x k = (clearK T look t x ret4).bind (unc k) := by
  unfold clearK
  (repeat' split) <;> first | rfl | (simp only [bind_ite, ret4_bind, Option.bind_none]; done)
theorem lookupK_nat (t : TypeId) (m i : TV) (ok : Bool) (k : K R) : lookupK T look t m i ok k = (lookupK T look t m i ok ret4).bind (unc k) := by
  cases ok <;> unfold lookupK <;> (repeat' split) <;> first | rfl | (simp only [Option.bind_assoc, ret4_bind]; done)
theorem mapUpdateK_nat (t : TypeId) (m i x : TV) (k : K R) : mapUpdateK T look t m i x k = (mapUpdateK T look t m i x ret4).bind (unc k) := by
  unfold mapUpdateK
  (repeat' split) <;> first | rfl | (simp only [Option.bind_assoc, ret4_bind]; done)
theorem convertK_nat (src dst : TypeId) (x : TV) (k : K R) : convertK T look nx src dst x k = (convertK T look nx src dst x ret4).bind (unc k) := by
  unfold convertK
  (repeat' split) <;> first | rfl | (simp only [Option.bind_assoc, bind_ite, bind_cond, elemsK_nat, ret4_bind, Option.bind_none]; done)
theorem fieldAddrK_nat (t : TypeId) (x : TV) (f : Nat) (k : K R) : fieldAddrK T t x f k = (fieldAddrK T t x f ret4).bind (unc k) := by
  unfold fieldAddrK
  (repeat' split) <;> rfl
theorem fieldK_nat (t : TypeId) (x : TV) (f : Nat) (k : K R) : fieldK T t x f k = (fieldK T t x f ret4).bind (unc k) := by
  unfold fieldK
  (repeat' split) <;> first | rfl | (simp only [Option.bind_assoc, coeK_nat, ret4_bind, Option.bind_none]; done) | skip
theorem buildK_nat (t : TypeId) (parts : List (Nat × Option TV)) (k : K R) : buildK T t parts k = (buildK T t parts ret4).bind (unc k) := by
  unfold buildK
  (repeat' split) <;> rfl
theorem buildSliceK_nat (t : TypeId) (n : Nat) (parts : List (Nat × Option TV)) (k : K R) : buildSliceK T nx t n parts k = (buildSliceK T nx t n parts ret4).bind (unc k) := by
  unfold buildSliceK
  (repeat' split) <;> first | rfl | (simp only [litK_eq, Option.bind_assoc, ret4_bind]; done)
theorem makeSliceK_nat (t : TypeId) (l c : TV) (k : K R) : makeSliceK T nx t l c k = (makeSliceK T nx t l c ret4).bind (unc k) := by
  unfold makeSliceK
  (repeat' split) <;> first | rfl | (simp only [Option.bind_assoc, bind_ite, ret4_bind, Option.bind_none]; done)
theorem nextK_nat (x : TV) (k : K R) : nextK look x k = (nextK look x ret4).bind (unc k) := by
  unfold nextK
  (repeat' split) <;> rfl

mutual
theorem impK_nat : ∀ (sh : Shp) (p : PV) (nx : Nat) (f : TV → List Ob → Option Res) (k : K R), (impK sh p nx f).bind (unc k) = impK sh p nx fun tv obs => (f tv obs).bind (unc k)
  | .d, p, nx, f, k => rfl
  | .s, p, nx, f, k => by simp only [impK, Option.bind_assoc]
  | .o shs, p, nx, f, k => by simp only [impK, Option.bind_assoc, impLK_nat]
  | .a shs, p, nx, f, k => by simp only [impK, Option.bind_assoc, impLK_nat]
  | .t shs, p, nx, f, k => by simp only [impK, Option.bind_assoc, impLK_nat]
theorem impLK_nat : ∀ (shs : List Shp) (ps : List PV) (nx : Nat) (f : List TV → List Ob → Option Res) (k : K R), (impLK shs ps nx f).bind (unc k) = impLK shs ps nx fun tvs obs => (f tvs obs).bind (unc k)
  | [], ps, nx, f, k => by simp only [impLK, bind_ite, Option.bind_none]
  | sh :: shs, ps, nx, f, k => by simp only [impLK, Option.bind_assoc, impK_nat, impLK_nat]
end

theorem outsK_nat : ∀ (lins : List (TV × Shp × Bool × List Nat)) (outs : List PV) (nx : Nat) (f : List (Nat × Ob) → List Ob → Option Res) (k : K R), (outsK look lins outs nx f).bind (unc k) = outsK look lins outs nx fun up nw => (f up nw).bind (unc k)
  | [], outs, nx, f, k => rfl
  | (v, sh, false, ids) :: ls, outs, nx, f, k => by simp only [outsK, outsK_nat]
  | (v, sh, true, ids) :: ls, outs, nx, f, k => by
    simp only [outsK, Option.bind_assoc]
    congr 1
    funext p
    split
    · simp only [Option.bind_assoc, impLK_nat, outsK_nat]
    · split
      · simp only [Option.bind_assoc, bind_ite, outsK_nat, Option.bind_none]
      · rfl
    · rfl

theorem resK_nat (ty : TypeId) (k : K R) : (fun tv up nw rd => (resK T ty ret4 tv up nw rd).bind (unc k)) = resK T ty k := by
  funext tv up nw rd
  unfold resK
  split
  · simp only [coeK_nat, ret4_bind]
  · rfl

theorem callK_nat {Γ : FuncId → Option Cal} (g : FuncId) (args : List TV) (f : K Res) (k : K R) : (callK Γ look nx g args f).bind (unc k) = callK Γ look nx g args fun tv up nw rd => (f tv up nw rd).bind (unc k) := by
  unfold callK
  (repeat' split) <;> first | rfl | (simp only [Option.bind_assoc, outsK_nat, impK_nat]; done)

theorem opK_nat {Γ : FuncId → Option Cal} {ev : Operand → Option TV} (o : Op) (ty : TypeId) (k : K R) : opK T Γ look nx ev o ty k = (opK T Γ look nx ev o ty ret4).bind (unc k) := by
  unfold opK
  (repeat' split)
  all_goals try rfl
  all_goals try (simp only [Option.bind_assoc, bind_cond, bind_ite, binK_nat, unK_nat, coeK_nat, ret4_bind, callK_nat, resK_nat, Option.bind_none]; done)
  all_goals try exact loadK_nat ..
  all_goals try exact storeK_nat ..
  all_goals try exact indexAddrK_nat ..
  all_goals try exact indexK_nat ..
  all_goals try exact sliceK_nat ..
  all_goals try exact appendK_nat ..
  all_goals try exact lenK_nat ..
  all_goals try exact clearK_nat ..
  all_goals try exact lookupK_nat ..
  all_goals try exact mapUpdateK_nat ..
  all_goals try exact convertK_nat ..
  all_goals try exact fieldAddrK_nat ..
  all_goals try exact fieldK_nat ..
  all_goals try exact buildK_nat ..
  all_goals try exact buildSliceK_nat ..
  all_goals try exact makeSliceK_nat ..
  all_goals try exact nextK_nat ..
end
end Go.Proofs.YtpaifgipdhgfkaaGreatDoorV

/- The reading machine: every operation is told rightly. -/
namespace Go.Proofs.YtpaifgipdhgfkaaGreatDoorV
open Go Go.RowKit

section
variable {P : Program} {T : TypeId → Option TI} {G : Nat → Option (List PV)} {Γ : FuncId → Option Cal} {look : Nat → Option Ob} {nx : Nat} {ev : Operand → Option TV} {o : Oper} {v : TV} {up : List (Nat × Ob)} {nw : List Ob} {rd : List Nat}

theorem relTVs_map_val {w : World} {S : Nat → Prop} {π : Nat → Option Pl} {ps : List PV} {us : List Value} (h : relL w S ps us) : relTVs w S π (ps.map .val) us := relTVs_vals h

theorem call_ok {c : Call} {F : Operand} {args caps : List TV} {g : FuncId} (hΓ : ∀ g c, Γ g = some (.ctr c) → Holds P G g c) {a : Act} {w : World} {S : Nat → Prop} {π : Nat → Option Pl} (hgo : GOk G w S) (ho : o.op = .call c) (hc : c.callee = .value F) (hargs : allSome (c.args.toList.map ev) = some args)
    (hF : evOk ev a w S π → ∃ us, a.eval F = .func (.func g) #[] us ∧ relTVs w S π caps us.toList)
    (h : callK Γ look nx g (args ++ caps) (resK T o.type ret4) = some (v, up, nw, rd)) : OpOkAt P look nx ev o v up nw a w S π := by
  intro hev hob hf K Q hK
  obtain ⟨us, he, hcaps⟩ := hF hev
  have hrel := relTVs_append (evOk_all hev hargs) hcaps
  cases hg : Γ g with
  | none => unfold callK at h; rw [hg] at h; cases h
  | some cl =>
    cases cl with
    | inl F => unfold callK at h; rw [hg] at h; cases h
    | ctr ct =>
      have happ := apply_ok hg (hΓ g ct hg) h hgo hrel hob hf
      have hexec : (execOp a.eval o).run P w = (callFunc g (c.args.map a.eval ++ us)).run P w := by
        simp [execOp, ho, resolve, hc, he, Deferred.ofValue, invoke]
      have harr : (List.map a.eval c.args.toList ++ us.toList).toArray = c.args.map a.eval ++ us := by
        apply Array.ext'
        simp
      rw [harr] at happ
      unfold Oper.wp
      rw [hexec]
      unfold Applies at happ
      split at happ
      · rename_i g' as w' hr
        rw [hr]
        refine happ.mono fun e w'' ⟨u, h1, S', π', h2⟩ => ?_
        subst h1
        exact hK u w'' S' π' h2
      · rename_i u w' hr
        rw [hr]
        obtain ⟨S', π', h2⟩ := happ
        exact hK u w' S' π' h2
      · exact happ.elim

theorem op_ok (hT : TOk P T) (hΓ : ∀ g c, Γ g = some (.ctr c) → Holds P G g c) (h : opK T Γ look nx ev o.op o.type ret4 = some (v, up, nw, rd)) (a : Act) (w : World) (S : Nat → Prop) (π : Nat → Option Pl) (hgo : GOk G w S) : OpOkAt P look nx ev o v up nw a w S π := by
  unfold opK at h
  split at h
  · rename_i x hop
    split at h
    · rename_i tv hx; exact (move_ok (.inl hop) hx h) a w S π
    · cases h
  · rename_i x hop
    split at h
    · rename_i tv hx; exact (move_ok (.inr hop) hx h) a w S π
    · cases h
  · rename_i c x y hop
    split at h
    · rename_i p u v' hc ha hb; exact (pick_ok hop hc ha hb h) a w S π
    · cases h
  · rename_i t hop
    split at h
    · rename_i i hi; exact (alloc_ok hT hop hi h) a w S π
    · cases h
  · rename_i t x hop
    split at h
    · rename_i tv i hx hi
      split at h
      · rename_i ob hb; exact (box_ok hT hop hx hb (by rw [hi]; rfl) h) a w S π
      · cases h
    · cases h
  · rename_i t x hop
    split at h
    · rename_i tv i hx hi; exact (load_ok hT hop hx (by rw [hi]; rfl) h) a w S π
    · cases h
  · rename_i t x y hop
    split at h
    · rename_i tv u i hx hy hi
      exact (store_ok hT hop hx (fun a w S π hev => fixNil_rel (hev y _ hy)) (by rw [hi]; rfl) h) a w S π
    · cases h
  · rename_i x hop
    split at h
    · rename_i i j hx; exact (nilCheck_ok hop hx (.inl ⟨_, _, rfl⟩) h) a w S π
    · rename_i i j m hx; exact (nilCheck_ok hop hx (.inr (.inl ⟨_, _, _, rfl⟩)) h) a w S π
    · rename_i cs off hx; exact (nilCheck_ok hop hx (.inr (.inr (.inl ⟨_, _, rfl⟩))) h) a w S π
    · rename_i f cs hx; exact (nilCheck_ok hop hx (.inr (.inr (.inr (.inl ⟨_, _, rfl⟩)))) h) a w S π
    · rename_i f cs hx; exact (nilCheck_ok hop hx (.inr (.inr (.inr (.inr ⟨_, _, rfl⟩)))) h) a w S π
    · cases h
  · rename_i op xt x y yt hop
    split at h
    · rename_i u u' hx hy; exact (bin_ok hT hop hx hy h) a w S π
    · cases h
  · rename_i op xt x hop
    split at h
    · rename_i u hx; exact (un_ok hop hx h) a w S π
    · cases h
  · rename_i src dst x hop
    split at h
    · rename_i u hx; exact (convert_ok hT hop hx h) a w S π
    · cases h
  · rename_i fn first caps hop
    split at h
    · rename_i vs hf hc; exact (makeFunc_ok hop hf hc h) a w S π
    · cases h
  · rename_i t hop; exact (makeMap_ok hop h) a w S π
  · rename_i t l c hop
    split at h
    · rename_i u u' hx hy; exact (makeSlice_ok hT hop hx hy h) a w S π
    · cases h
  · rename_i t x lo hi mx hop
    split at h
    · rename_i u l m n hx hl hm hn; exact (slice_ok hT hop hx hl hm hn h) a w S π
    · cases h
  · rename_i t x f hop
    split at h
    · rename_i u hx; exact (fieldAddr_ok hT hop hx h) a w S π
    · cases h
  · rename_i t x f hop
    split at h
    · rename_i u hx; exact (field_ok hT hop hx h) a w S π
    · cases h
  · rename_i t x i hop
    split at h
    · rename_i u u' hx hy; exact (indexAddr_ok hT hop hx hy h) a w S π
    · cases h
  · rename_i t x i hop
    split at h
    · rename_i u u' hx hy; exact (index_ok hT hop hx hy h) a w S π
    · cases h
  · rename_i t x i ok hop
    split at h
    · rename_i u u' hx hy; exact (lookup_ok hT hop hx hy h) a w S π
    · cases h
  · rename_i t m i x hop
    split at h
    · rename_i u u' u'' hx hy hz; exact (mapUpdate_ok hT hop hx hy hz h) a w S π
    · cases h
  · rename_i t parts hop; exact (build_ok hT hop h) a w S π
  · rename_i t n parts hop; exact (buildSlice_ok hT hop h) a w S π
  · rename_i t x hop
    split at h
    · rename_i i1 i2 i3 p hi hx
      obtain ⟨s, hs, h'⟩ := bind_inv h
      cases asS_inv hs
      exact (range_ok hT hop hi hx h') a w S π
    · rename_i i1 i2 i3 i4 i5 p hi hx
      obtain ⟨kvs, hs, h'⟩ := bind_inv h
      exact (rangeM_ok hT hop hi hx hs h') a w S π
    · cases h
  · rename_i x hop
    split at h
    · rename_i id hx
      split at h
      · rename_i left p q hl; exact (entry_ok hop hx hl h) a w S π
      · cases h
    · cases h
  · rename_i x hop
    split at h
    · rename_i u hx; exact (next_ok hop hx h) a w S π
    · cases h
  · rename_i x i hop
    cases hx : ev x with
    | none => rw [hx] at h; simp only [reduceCtorEq] at h
    | some u =>
      rw [hx] at h
      refine (extract_ok (T := T) (rd := rd) hop hx ?_) a w S π
      cases u <;> exact h
  · rename_i c hop
    split at h
    · rename_i x t ts hc hx ht; exact (len_ok hT hop hc hx ht h) a w S π
    · rename_i x y t u ts hc hx ht; exact (append_ok hT hop hc hx ht h) a w S π
    · rename_i x t ts hc hx ht; exact (clear_ok hT hop hc hx ht h) a w S π
    · rename_i p q t ts hc hx ht
      split at h
      · exact (min_ok hop hc hx h) a w S π
      · cases h
    · rename_i p q t ts hc hx ht
      split at h
      · exact (max_ok hop hc hx h) a w S π
      · cases h
    · rename_i F args hc hx
      split at h
      · rename_i g caps hF
        refine call_ok hΓ hgo hop hc hx (fun hev => ?_) h
        have := hev F _ hF
        simp only [relTV, rel] at this
        obtain ⟨us, he, hr⟩ := this
        exact ⟨us, he, relTVs_vals hr⟩
      · rename_i g caps hF
        refine call_ok hΓ hgo hop hc hx (fun hev => ?_) h
        have := hev F _ hF
        simp only [relTV] at this
        exact this
      · cases h
    · cases h
  · cases h

end
end Go.Proofs.YtpaifgipdhgfkaaGreatDoorV
