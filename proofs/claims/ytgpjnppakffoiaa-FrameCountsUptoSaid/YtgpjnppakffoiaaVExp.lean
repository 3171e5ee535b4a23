/- The reading machine: what is handed over is as its shape says. -/
import Derived.Test.YtgpjnppakffoiaaVOwn
namespace Go.Proofs.YtgpjnppakffoiaaV
open Go Go.RowKit

section
variable {look : Nat → Option Ob} {w : World} {S S' : Nat → Prop} {π : Nat → Option Pl}

theorem ownL_allD : ∀ {shs : List Shp} {ps : List PV} {us : List Value}, shs.all Shp.isD = true → relL w S ps us → shs.length = ps.length → ownL w S shs ps us []
  | [], ps, us, _, h, hl => by
    have : ps = [] := List.eq_nil_of_length_eq_zero hl.symm
    subst this
    simp only [relL] at h
    simp only [ownL]
    exact ⟨trivial, h, trivial⟩
  | sh :: shs, [], us, _, h, hl => by simp at hl
  | sh :: shs, p :: ps, us, ha, h, hl => by
    simp only [List.all_cons, Bool.and_eq_true] at ha
    simp only [relL] at h
    obtain ⟨u, us', rfl, h1, h2⟩ := h
    simp only [ownL]
    refine ⟨p, ps, u, us', [], [], rfl, rfl, rfl, ?_, ownL_allD ha.2 h2 (by simpa using hl)⟩
    cases sh <;> first | (simp only [Shp.isD, Bool.false_eq_true, false_and] at ha; done) | skip
    simp only [ownS]
    exact ⟨trivial, h1⟩

mutual
theorem exp_ok (hob : ObsOk w S π look) (hs : ∀ b, S b → S' b) : ∀ (sh : Shp) (v : TV) (u : Value) (p : PV) (l o : List Nat), expS look sh v = some (p, l, o) → relTV w S π v u → (∀ b ∈ blks π l, S' b) →
    ownS w S' sh p u (blks π o) ∧ ∀ i ∈ l ++ o, ∃ x, look i = some x ∧ x.live = true
  | .d, v, u, p, l, o, h, hr, hb => by
    simp only [expS] at h
    split at h
    · rename_i q ids hq
      cases h
      obtain ⟨g1, g2, _⟩ := reify_ok hob hs 100 v u p l hq hr hb
      exact ⟨by simp only [ownS, blks, List.filterMap_nil]; exact ⟨trivial, g1⟩, by simpa using g2⟩
    · cases h
  | .s, v, u, p, l, o, h, hr, hb => by
    have hk : Keep w S w S' := keep_sub hs
    simp only [expS] at h
    split at h
    · cases h
      simp only [relTV] at hr
      refine ⟨?_, by simp⟩
      simp only [ownS]
      exact ⟨_, _, rfl, .inl ⟨hr, rfl, by simp [blks]⟩⟩
    · rename_i id
      split at h
      · rename_i es sz hl
        cases h
        simp only [relTV] at hr
        refine ⟨?_, by simp [hl, Ob.live]⟩
        obtain ⟨pl, hp, hk2⟩ := hob.ok id _ hl
        simp only [ownS]
        refine ⟨_, _, rfl, ?_⟩
        rcases hr with ⟨hp', hv⟩ | ⟨b, s, c, z, l, a, hp', hv, ha⟩
        · rw [hp'] at hp; cases hp
          simp only [obOk] at hk2
          exact .inl ⟨hv, hk2, by simp [blks, hp', Pl.blk]⟩
        · rw [hp'] at hp; cases hp
          simp only [obOk] at hk2
          obtain ⟨rfl, rfl, hlc, hcm, C, t, fr, hg, hu, ho, hsz, hre⟩ := hk2
          exact .inr ⟨b, s, c, a, C, t, fr, hv, ha, by simp [blks, hp', Pl.blk], hlc, hcm, hg, hu, ho, hsz, relEs_keep hk _ _ _ _ rfl hre⟩
      · cases h
    · rename_i id off len
      split at h
      · rename_i es sz hl
        cases h
        refine ⟨?_, by simp [hl, Ob.live]⟩
        simp only [ownS]
        refine ⟨_, _, rfl, ?_⟩
        obtain ⟨A, cap, rfl, _, hv⟩ := view_sl hob hl hr
        simp only [relTV] at hr
        rcases hv.at' with ⟨rfl, hc⟩ | ⟨b, s, C, t, fr, hc, hA, ⟨x, pi, hx1, hx2, hx3, hx4⟩, hg, hu, ho, hcs, hre⟩
        · have hl0 : len = 0 := by have := hv.le; omega
          subst hl0 hc
          have hbn : blks π [id] = [] ∨ ∃ b s c z l a cv, π id = some (.at b s c z l) ∧ Value.slice none 0 0 = .slice (some a) 0 cv := by
            rcases hr with ⟨hp', _⟩ | ⟨b, s, c, z, l, a, cv, hp', hv', _⟩
            · exact .inl (by simp [blks, hp', Pl.blk])
            · exact .inr ⟨b, s, c, z, l, a, cv, hp', hv'⟩
          rcases hbn with hbn | ⟨b, s, c, z, l, a, cv, hp', hv'⟩
          · exact .inl ⟨rfl, by simp, hbn⟩
          · cases hv'
        · obtain ⟨a, rfl⟩ := Option.isSome_iff_exists.1 hA
          refine .inr ⟨b, s, cap, a, C, t, fr, by rw [hv.hlen], hc.imp (fun h => h) fun h => by simpa using h, by simp [blks, hx3, hx4], by rw [hv.hlen]; exact hv.le, hv.max, hg, hu, ho, hcs, relEs_keep hk _ _ _ _ rfl hre⟩
      · cases h
    · cases h
  | .o shs, v, u, p, l, o, h, hr, hb => by
    have hk : Keep w S w S' := keep_sub hs
    simp only [expS] at h
    split at h
    · rename_i id
      split at h
      · rename_i q n hl
        split at h
        · rename_i hd
          cases h
          simp only [Bool.and_eq_true, beq_iff_eq] at hd
          simp only [relTV] at hr
          refine ⟨?_, by simp [hl, Ob.live]⟩
          obtain ⟨b, s, c, z, l, hp', hv⟩ := hr
          obtain ⟨pl, hp, hk2⟩ := hob.ok id _ hl
          rw [hp'] at hp; cases hp
          simp only [obOk] at hk2
          obtain ⟨rfl, C, t, fr, hg, hu, ho, hsz, hq, hre⟩ := hk2
          obtain ⟨cs, us, rfl, hcu, h1, h2, h3, _⟩ := rel_agg hre hq
          cases hcu
          simp only [ownS, PV.cells]
          exact ⟨cs, b, C, t, fr, [], rfl, hv, by simp [blks, hp', Pl.blk], hg, hu, ho, ownL_allD hd.1 (relL_keep hk _ _ h2) (by omega)⟩
        · cases h
      · rename_i cs hl
        split at h
        · rename_i ps l' o' hps
          cases h
          simp only [relTV] at hr
          obtain ⟨b, s, c, z, l, hp', hv⟩ := hr
          obtain ⟨pl, hp, hk2⟩ := hob.ok id _ hl
          rw [hp'] at hp; cases hp
          simp only [obOk] at hk2
          obtain ⟨rfl, C, t, fr, hg, hu, ho, hre⟩ := hk2
          obtain ⟨g1, g2⟩ := expL_ok hob hs shs cs C.toList ps _ o' hps hre hb
          refine ⟨?_, ?_⟩
          · simp only [ownS]
            exact ⟨ps, b, C, t, fr, blks π o', rfl, hv, by simp [blks, hp', Pl.blk], hg, hu, ho, g1⟩
          · intro i hi
            simp only [List.mem_append, List.mem_cons] at hi
            rcases hi with hi | rfl | hi
            · exact g2 i (List.mem_append_left _ hi)
            · exact ⟨_, hl, rfl⟩
            · exact g2 i (List.mem_append_right _ hi)
        · cases h
      · cases h
    · cases h
  | .a shs, v, u, p, l, o, h, hr, hb => by
    have hk : Keep w S w S' := keep_sub hs
    simp only [expS] at h
    split at h
    · rename_i cs
      split at h
      · rename_i ps l' o' hps
        cases h
        simp only [relTV] at hr
        obtain ⟨us, hv, h1, hre⟩ := hr
        obtain ⟨g1, g2⟩ := expL_ok hob hs shs cs us.toList ps _ _ hps hre hb
        exact ⟨by simp only [ownS]; exact ⟨ps, us, rfl, hv, h1, g1⟩, g2⟩
      · cases h
    · rename_i q
      split at h
      · rename_i hd
        cases h
        simp only [Bool.and_eq_true] at hd
        simp only [relTV] at hr
        obtain ⟨cs, us, rfl, rfl, h1, h2, h3, _⟩ := rel_agg hr hd.2
        refine ⟨?_, by simp⟩
        simp only [ownS]
        exact ⟨cs, us, rfl, rfl, h1, by simpa [blks] using ownL_allD hd.1 (relL_keep hk _ _ h2) h3.symm⟩
      · cases h
    · cases h
  | .t shs, v, u, p, l, o, h, hr, hb => by
    simp only [expS] at h
    split at h
    · rename_i cs
      split at h
      · rename_i ps l' o' hps
        cases h
        simp only [relTV] at hr
        obtain ⟨us, hv, hre⟩ := hr
        obtain ⟨g1, g2⟩ := expL_ok hob hs shs cs us.toList ps _ _ hps hre hb
        exact ⟨by simp only [ownS]; exact ⟨ps, us, rfl, hv, g1⟩, g2⟩
      · cases h
    · cases h
theorem expL_ok (hob : ObsOk w S π look) (hs : ∀ b, S b → S' b) : ∀ (shs : List Shp) (vs : List TV) (us : List Value) (ps : List PV) (l o : List Nat), expL look shs vs = some (ps, l, o) → relTVs w S π vs us → (∀ b ∈ blks π l, S' b) →
    ownL w S' shs ps us (blks π o) ∧ ∀ i ∈ l ++ o, ∃ x, look i = some x ∧ x.live = true
  | [], [], us, ps, l, o, h, hr, hb => by
    simp only [expL, Option.some.injEq, Prod.mk.injEq] at h
    obtain ⟨rfl, rfl, rfl⟩ := h
    simp only [relTVs] at hr
    exact ⟨by simp only [ownL]; exact ⟨trivial, hr, by simp [blks]⟩, by simp⟩
  | [], _ :: _, us, ps, l, o, h, hr, hb => by simp [expL] at h
  | _ :: _, [], us, ps, l, o, h, hr, hb => by simp [expL] at h
  | sh :: shs, v :: vs, us, ps, l, o, h, hr, hb => by
    simp only [expL] at h
    split at h
    · rename_i p l1 o1 ps' l2 o2 h1 h2
      cases h
      simp only [relTVs] at hr
      obtain ⟨u, us', rfl, hr1, hr2⟩ := hr
      rw [blks_append] at hb
      obtain ⟨g1, g2⟩ := exp_ok hob hs sh v u p l1 o1 h1 hr1 fun b hb2 => hb b (List.mem_append_left _ hb2)
      obtain ⟨g3, g4⟩ := expL_ok hob hs shs vs us' ps' l2 o2 h2 hr2 fun b hb2 => hb b (List.mem_append_right _ hb2)
      refine ⟨by simp only [ownL]; exact ⟨p, ps', u, us', _, _, rfl, rfl, blks_append .., g1, g3⟩, ?_⟩
      intro i hi
      simp only [List.mem_append] at hi g2 g4
      rcases hi with (hi | hi) | hi | hi
      · exact g2 i (.inl hi)
      · exact g4 i (.inl hi)
      · exact g2 i (.inr hi)
      · exact g4 i (.inr hi)
    · cases h
end

end
end Go.Proofs.YtgpjnppakffoiaaV
