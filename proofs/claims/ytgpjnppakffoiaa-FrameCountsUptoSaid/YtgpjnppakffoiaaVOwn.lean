/- The reading machine: memory that is handed over. -/
import Derived.Test.YtgpjnppakffoiaaVOps12
namespace Go.Proofs.YtgpjnppakffoiaaV
open Go Go.RowKit

/-- A row that nobody else has. -/
def ownRow (w : World) (S : Nat → Prop) (es : List (List PV)) (sz : Nat) (v : Value) (fp : List Nat) : Prop :=
  (v = .slice none 0 0 ∧ es = [] ∧ fp = []) ∨ ∃ b s c a C t fr, v = .slice (some a) es.length c ∧ (c = 0 ∨ a = ⟨b, s, none⟩) ∧ fp = [b] ∧ es.length ≤ c ∧ c ≤ maxLen ∧
    w.heap[b]? = some (.cells C t fr) ∧ unfrozen C fr ∧ oneCells C ∧ (c ≠ 0 → s + c * sz ≤ C.size) ∧ relEs w S b s sz es

mutual
/-- A tree is what a value leads to; what of it nobody else has lies in the blocks fp. -/
def ownS (w : World) (S : Nat → Prop) : Shp → PV → Value → List Nat → Prop
  | .d, p, v, fp => fp = [] ∧ rel w S p v
  | .s, p, v, fp => ∃ es sz, p = .os es sz ∧ ownRow w S es sz v fp
  | .o shs, p, v, fp => ∃ cs b C t fr fp', p = .obj cs ∧ v = .pointer (some ⟨b, 0, none⟩) ∧ fp = b :: fp' ∧ w.heap[b]? = some (.cells C t fr) ∧ unfrozen C fr ∧ oneCells C ∧ ownL w S shs cs C.toList fp'
  | .a shs, p, v, fp => ∃ cs us, p = .agg cs ∧ v = .agg us ∧ oneCells us ∧ ownL w S shs cs us.toList fp
  | .t shs, p, v, fp => ∃ cs us, p = .tuple cs ∧ v = .tuple us ∧ ownL w S shs cs us.toList fp
def ownL (w : World) (S : Nat → Prop) : List Shp → List PV → List Value → List Nat → Prop
  | [], ps, us, fp => ps = [] ∧ us = [] ∧ fp = []
  | sh :: shs, ps, us, fp => ∃ p ps' u us' f1 f2, ps = p :: ps' ∧ us = u :: us' ∧ fp = f1 ++ f2 ∧ ownS w S sh p u f1 ∧ ownL w S shs ps' us' f2
end

/-- The blocks of some of the call's own. -/
def blks (π : Nat → Option Pl) (ids : List Nat) : List Nat := ids.filterMap fun i => (π i).bind Pl.blk

theorem blks_append (π : Nat → Option Pl) (a b : List Nat) : blks π (a ++ b) = blks π a ++ blks π b := by simp [blks]
theorem mem_blks {π : Nat → Option Pl} {ids : List Nat} {b : Nat} : b ∈ blks π ids ↔ ∃ i ∈ ids, ∃ pl, π i = some pl ∧ pl.blk = some b := by
  simp only [blks, List.mem_filterMap]
  constructor
  · rintro ⟨i, hi, h⟩
    cases hp : π i with
    | none => rw [hp] at h; cases h
    | some pl => rw [hp] at h; exact ⟨i, hi, pl, hp, h⟩
  · rintro ⟨i, hi, pl, hp, h⟩
    exact ⟨i, hi, by rw [hp]; exact h⟩

section
variable {look : Nat → Option Ob} {w : World} {S S' : Nat → Prop} {π : Nat → Option Pl}

theorem keep_sub (hs : ∀ b, S b → S' b) : Keep w S w S' := ⟨fun _ _ => rfl, hs⟩

theorem relCs_list {b : Nat} {C : Array Value} {t : TypeId} {fr : Nat × Nat} (hg : w.heap[b]? = some (.cells C t fr)) (ho : oneCells C) {ps : List PV} (h : relL w S ps C.toList) : relCs w S b 0 ps :=
  relCs_of fun i p hp => by
    obtain ⟨u, h1, h2⟩ := relL_get h hp
    refine ⟨u, ?_, ho u (List.mem_of_getElem? h1), h2⟩
    rw [cell_of_row w b _ C t fr hg, Nat.zero_add, ← Array.getElem?_toList, h1]

mutual
/-- A value of the call's own as a tree, where what it leads to lies in S'. -/
theorem reify_ok (hob : ObsOk w S π look) (hs : ∀ b, S b → S' b) : ∀ (n : Nat) (v : TV) (u : Value) (p : PV) (ids : List Nat), reify look n v = some (p, ids) → relTV w S π v u → (∀ b ∈ blks π ids, S' b) →
    rel w S' p u ∧ (∀ i ∈ ids, ∃ x, look i = some x ∧ x.live = true) ∧ (v.one = true → p.one = true)
  | 0, v, u, p, ids, h, _, _ => by simp [reify] at h
  | n + 1, v, u, p, ids, h, hr, hb => by
    have hk : Keep w S w S' := keep_sub hs
    unfold reify at h
    split at h
    · cases h
      simp only [relTV] at hr
      exact ⟨rel_keep hk _ _ hr, by simp, fun h => by simpa [TV.one] using h⟩
    · cases h
      simp only [relTV] at hr
      exact ⟨by simp only [rel]; exact .inl ⟨⟨_, hr⟩, trivial⟩, by simp, fun _ => rfl⟩
    · cases h
      simp only [relTV] at hr
      exact ⟨rel_keep hk _ _ hr.1, by simp, fun _ => rfl⟩
    · rename_i id
      split at h
      · rename_i es sz hl
        cases h
        simp only [relTV] at hr
        refine ⟨?_, by simp [hl, Ob.live], fun _ => rfl⟩
        obtain ⟨pl, hp, hk2⟩ := hob.ok id _ hl
        simp only [rel]
        rcases hr with ⟨hp', hv⟩ | ⟨b, s, c, z, l, a, hp', hv, ha⟩
        · rw [hp'] at hp; cases hp
          simp only [obOk] at hk2
          exact .inl ⟨⟨_, hv⟩, hk2⟩
        · rw [hp'] at hp; cases hp
          simp only [obOk] at hk2
          obtain ⟨rfl, rfl, hlc, hcm, C, t, fr, hg, _, _, _, hre⟩ := hk2
          rcases ha with h0 | ha
          · subst h0
            have : es = [] := List.eq_nil_of_length_eq_zero (by omega)
            subst this
            exact .inl ⟨⟨_, hv⟩, rfl⟩
          · subst ha
            refine .inr ⟨b, s, c, _, hv, hlc, hcm, hb b ?_, relEs_keep hk _ _ _ _ rfl hre⟩
            exact mem_blks.2 ⟨id, by simp, _, hp', rfl⟩
      · rename_i es hl
        cases h
        simp only [relTV] at hr
        refine ⟨?_, by simp, fun _ => rfl⟩
        obtain ⟨pl, hp, hk2⟩ := hob.ok id _ hl
        simp only [rel]
        rcases hr with ⟨hp', hv⟩ | ⟨b, s, c, z, l, a, hp', hv, ha⟩
        · rw [hp'] at hp; cases hp
          simp only [obOk] at hk2
          exact .inl ⟨⟨_, hv⟩, hk2⟩
        · rw [hp'] at hp; cases hp
          simp only [obOk] at hk2
          obtain ⟨rfl, hlc, hcm, hS, hre⟩ := hk2
          rcases ha with h0 | ha
          · subst h0
            have : es = [] := List.eq_nil_of_length_eq_zero (by omega)
            subst this
            exact .inl ⟨⟨_, hv⟩, rfl⟩
          · subst ha
            exact .inr ⟨b, s, c, _, hv, hlc, hcm, hs b hS, relEs_keep hk _ _ _ _ rfl hre⟩
      · cases h
    · rename_i id off len cp
      split at h
      · rename_i es sz hl
        cases h
        simp only [relTV] at hr
        refine ⟨?_, by simp [hl, Ob.live], fun _ => rfl⟩
        obtain ⟨pl, hp, hk2⟩ := hob.ok id _ hl
        simp only [rel]
        rcases hr with ⟨hp', hv, rfl, rfl⟩ | ⟨b, s, c, z, l, a, cv, hp', hv, k1, ha, k2, k3, k4⟩
        · exact .inl ⟨⟨_, hv⟩, by simp⟩
        · rw [hp'] at hp; cases hp
          simp only [obOk] at hk2
          obtain ⟨rfl, rfl, hlc, hcm, C, t, fr, hg, _, _, _, hre⟩ := hk2
          have hlen : ((es.drop off).take len).length = len := by simp; omega
          rcases ha with h0 | ha
          · have : len = 0 := by omega
            subst this
            subst h0
            exact .inl ⟨⟨_, hv⟩, by simp⟩
          · subst ha
            refine .inr ⟨b, _, cv, _, by rw [hlen]; exact hv, by omega, by omega, hb b ?_, relEs_keep hk _ _ _ _ rfl (relEs_take (relEs_drop hre off) len)⟩
            exact mem_blks.2 ⟨id, by simp, _, hp', rfl⟩
      · rename_i es hl
        cases h
        simp only [relTV] at hr
        refine ⟨?_, by simp, fun _ => rfl⟩
        obtain ⟨pl, hp, hk2⟩ := hob.ok id _ hl
        simp only [rel]
        rcases hr with ⟨hp', hv, rfl, rfl⟩ | ⟨b, s, c, z, l, a, cv, hp', hv, k1, ha, k2, k3, k4⟩
        · exact .inl ⟨⟨_, hv⟩, by simp⟩
        · rw [hp'] at hp; cases hp
          simp only [obOk] at hk2
          obtain ⟨rfl, hlc, hcm, hS, hre⟩ := hk2
          have hlen : ((es.drop off).take len).length = len := by simp; omega
          rcases ha with h0 | ha
          · have : len = 0 := by omega
            subst this
            subst h0
            exact .inl ⟨⟨_, hv⟩, by simp⟩
          · subst ha
            exact .inr ⟨b, _, cv, _, by rw [hlen]; exact hv, by omega, by omega, hs b hS, relEs_keep hk _ _ _ _ rfl (relEs_take (relEs_drop hre off) len)⟩
      · cases h
    · rename_i id off
      split at h
      · rename_i q m hl
        cases h
        simp only [relTV] at hr
        refine ⟨?_, by simp [hl, Ob.live], fun _ => rfl⟩
        obtain ⟨b, s, c, z, l, hp', hv⟩ := hr
        obtain ⟨pl, hp, hk2⟩ := hob.ok id _ hl
        rw [hp'] at hp; cases hp
        simp only [obOk] at hk2
        obtain ⟨rfl, C, t, fr, hg, _, ho, hsz, hq, hre⟩ := hk2
        obtain ⟨cs, us, rfl, hu, h1, h2, _⟩ := rel_agg hre hq
        cases hu
        simp only [rel, PV.cells]
        exact ⟨b, 0, hv, hb b (mem_blks.2 ⟨id, by simp, _, hp', rfl⟩), relCs_keep hk _ _ _ rfl (relCs_list hg ho h2)⟩
      · rename_i cs hl
        cases h
        simp only [relTV] at hr
        refine ⟨?_, by simp, fun _ => rfl⟩
        obtain ⟨b, s, c, z, l, hp', hv⟩ := hr
        obtain ⟨pl, hp, hk2⟩ := hob.ok id _ hl
        rw [hp'] at hp; cases hp
        simp only [obOk] at hk2
        obtain ⟨rfl, hS, hre⟩ := hk2
        simp only [rel]
        exact ⟨b, 0, hv, hs b hS, relCs_keep hk _ _ _ rfl hre⟩
      · rename_i cs hl
        split at h
        · rename_i ps is hps
          cases h
          simp only [relTV] at hr
          obtain ⟨b, s, c, z, l, hp', hv⟩ := hr
          obtain ⟨pl, hp, hk2⟩ := hob.ok id _ hl
          rw [hp'] at hp; cases hp
          simp only [obOk] at hk2
          obtain ⟨rfl, C, t, fr, hg, _, ho, hre⟩ := hk2
          obtain ⟨g1, g2⟩ := reifyL_ok hob hs n cs C.toList ps is hps hre fun b hb2 => hb b (by
            obtain ⟨i, hi, q⟩ := mem_blks.1 hb2
            exact mem_blks.2 ⟨i, List.mem_cons_of_mem _ hi, q⟩)
          refine ⟨?_, ?_, fun _ => rfl⟩
          · simp only [rel]
            exact ⟨b, 0, hv, hb b (mem_blks.2 ⟨id, by simp, _, hp', rfl⟩), relCs_list hg ho g1⟩
          · intro i hi
            rcases List.mem_cons.1 hi with rfl | hi
            · exact ⟨_, hl, rfl⟩
            · exact g2 i hi
        · cases h
      · cases h
    · rename_i cs
      split at h
      · rename_i ps is hps
        cases h
        simp only [relTV] at hr
        obtain ⟨us, hv, h1, hre⟩ := hr
        obtain ⟨g1, g2⟩ := reifyL_ok hob hs n cs us.toList ps ids hps hre hb
        exact ⟨by simp only [rel]; exact ⟨us, hv, h1, g1⟩, g2, fun h => by cases h⟩
      · cases h
    · rename_i cs
      split at h
      · rename_i ps is hps
        cases h
        simp only [relTV] at hr
        obtain ⟨us, hv, hre⟩ := hr
        obtain ⟨g1, g2⟩ := reifyL_ok hob hs n cs us.toList ps ids hps hre hb
        exact ⟨by simp only [rel]; exact ⟨us, hv, g1⟩, g2, fun h => by cases h⟩
      · cases h
    · rename_i f caps
      split at h
      · rename_i ps is hps
        cases h
        simp only [relTV] at hr
        obtain ⟨us, hv, hre⟩ := hr
        obtain ⟨g1, g2⟩ := reifyL_ok hob hs n caps us.toList ps ids hps hre hb
        exact ⟨by simp only [rel]; exact ⟨us, hv, g1⟩, g2, fun _ => rfl⟩
      · cases h
    · cases h
theorem reifyL_ok (hob : ObsOk w S π look) (hs : ∀ b, S b → S' b) : ∀ (n : Nat) (vs : List TV) (us : List Value) (ps : List PV) (ids : List Nat), reifyL look n vs = some (ps, ids) → relTVs w S π vs us → (∀ b ∈ blks π ids, S' b) →
    relL w S' ps us ∧ (∀ i ∈ ids, ∃ x, look i = some x ∧ x.live = true)
  | n, [], us, ps, ids, h, hr, _ => by
    have h' : ([], []) = (ps, ids) := by cases n <;> simpa [reifyL] using h
    cases h'
    simp only [relTVs] at hr
    subst hr
    exact ⟨by simp only [relL], by simp⟩
  | 0, v :: vs, us, ps, ids, h, _, _ => by simp [reifyL] at h
  | n + 1, v :: vs, us, ps, ids, h, hr, hb => by
    simp only [reifyL] at h
    split at h
    · rename_i p i ps' is h1 h2
      cases h
      simp only [relTVs] at hr
      obtain ⟨u, us', rfl, hr1, hr2⟩ := hr
      rw [blks_append] at hb
      obtain ⟨g1, g2, _⟩ := reify_ok hob hs n v u p i h1 hr1 fun b hb2 => hb b (List.mem_append_left _ hb2)
      obtain ⟨g3, g4⟩ := reifyL_ok hob hs n vs us' ps' is h2 hr2 fun b hb2 => hb b (List.mem_append_right _ hb2)
      refine ⟨by simp only [relL]; exact ⟨u, us', rfl, g1, g3⟩, ?_⟩
      intro j hj
      rcases List.mem_append.1 hj with hj | hj
      · exact g2 j hj
      · exact g4 j hj
    · cases h
end

end
end Go.Proofs.YtgpjnppakffoiaaV
