/- The reading machine: a call is told rightly. -/
import Derived.Test.YtgpjnppakffoiaaVOuts
namespace Go.Proofs.YtgpjnppakffoiaaV
open Go Go.RowKit

theorem noDup_ok : ∀ {l : List Nat}, noDup l = true → l.Nodup
  | [], _ => by simp
  | i :: l, h => by
    simp only [noDup, Bool.and_eq_true, Bool.not_eq_true'] at h
    rw [List.nodup_cons]
    refine ⟨fun hm => ?_, noDup_ok h.2⟩
    have := h.1
    simp only [List.contains_eq_mem, hm, decide_true, Bool.true_eq_false] at this

theorem upLast_fro {look : Nat → Option Ob} {ids l : List Nat} {id : Nat} : upLast (l.map fun i => (i, froOb look ids i)) id = if id ∈ l then some (froOb look ids id) else none := by
  induction l with
  | nil => simp [upLast]
  | cons i l ih =>
    simp only [List.map_cons, upLast, ih, List.mem_cons]
    by_cases h : id ∈ l
    · simp [h]
    · simp only [h, if_false, or_false]
      by_cases e : i = id
      · subst e; simp
      · rw [if_neg e, if_neg (fun h => e h.symm)]

theorem mem_blks_flat {π : Nat → Option Pl} {lins : List (TV × Shp × Bool × List Nat)} : (lins.map fun x => blks π x.2.2.2).flatten = blks π (lins.flatMap (·.2.2.2)) := by
  induction lins with
  | nil => rfl
  | cons x l ih => simp only [List.map_cons, List.flatten_cons, List.flatMap_cons, blks_append, ih]

section
variable {P : Program} {T : TypeId → Option TI} {look : Nat → Option Ob} {nx : Nat} {ev : Operand → Option TV} {o : Oper} {v : TV} {up : List (Nat × Ob)} {nw : List Ob} {rd : List Nat}

/-- Blocks of unlike ones are unlike. -/
theorem blks_nodup {w : World} {S : Nat → Prop} {π : Nat → Option Pl} (h : ObsOk w S π look) : ∀ {ids : List Nat}, ids.Nodup → (∀ i ∈ ids, ∃ x, look i = some x ∧ x.live = true) → (blks π ids).Nodup
  | [], _, _ => by simp [blks]
  | i :: ids, hn, hl => by
    simp only [List.nodup_cons] at hn
    have ih := blks_nodup h hn.2 fun j hj => hl j (List.mem_cons_of_mem _ hj)
    simp only [blks, List.filterMap_cons] at ih ⊢
    split
    · exact ih
    · rename_i b hb
      rw [List.nodup_cons]
      refine ⟨fun hm => ?_, ih⟩
      obtain ⟨j, hj, pj, hpj, hbj⟩ := mem_blks.1 hm
      obtain ⟨x, hx, hxl⟩ := hl i (List.mem_cons_self ..)
      obtain ⟨y, hy, hyl⟩ := hl j (List.mem_cons_of_mem _ hj)
      cases hpi : π i with
      | none => rw [hpi] at hb; cases hb
      | some pi =>
        rw [hpi] at hb
        have := h.apart i j x y pi pj b hx hy hxl hyl hpi hpj hb hbj
        subst this
        exact hn.1 hj

theorem blks_lt {w : World} {S : Nat → Prop} {π : Nat → Option Pl} (h : ObsOk w S π look) {ids : List Nat} (hl : ∀ i ∈ ids, ∃ x, look i = some x ∧ x.live = true) : ∀ b ∈ blks π ids, owned look π b := by
  intro b hb
  obtain ⟨i, hi, pl, hp, hpb⟩ := mem_blks.1 hb
  obtain ⟨x, hx, hxl⟩ := hl i hi
  exact ⟨i, x, pl, hx, hxl, hp, hpb⟩

theorem froOb_ok {w w' : World} {S S' : Nat → Prop} {π : Nat → Option Pl} {ids : List Nat} {id : Nat} {pl : Pl} (h : ObsOk w S π look) (hid : id ∈ ids) (hp : π id = some pl) (hS : ∀ b, S b → S' b) (hSi : ∀ b ∈ blks π ids, S' b) (hsame : ∀ b, S b ∨ b ∈ blks π ids → w'.heap[b]? = w.heap[b]?) :
    obOk w' S' π (froOb look ids id) pl := by
  have hk : Keep w S w' S' := ⟨fun b hb => hsame b (.inl hb), hS⟩
  have hk2 : Keep w (fun b => S b ∨ b ∈ blks π ids) w' S' := ⟨fun b hb => hsame b hb, fun b hb => hb.elim (hS b) (hSi b)⟩
  unfold froOb
  split
  · rename_i es sz hl
    obtain ⟨pl', hp', ho⟩ := h.ok id _ hl
    rw [hp] at hp'; cases hp'
    cases pl with
    | nil => simpa only [obOk] using ho
    | «at» b s c z l =>
      simp only [obOk] at ho ⊢
      obtain ⟨rfl, rfl, h1, h2, C, t, fr, hg, _, _, _, hr⟩ := ho
      have hb : b ∈ blks π ids := mem_blks.2 ⟨id, hid, _, hp, rfl⟩
      exact ⟨rfl, h1, h2, hSi b hb, relEs_keep hk _ _ _ _ (hsame b (.inr hb)) hr⟩
  · rename_i p n hl
    obtain ⟨pl', hp', ho⟩ := h.ok id _ hl
    rw [hp] at hp'; cases hp'
    cases pl with
    | nil => simp only [obOk] at ho
    | «at» b s c z l =>
      simp only [obOk] at ho ⊢
      obtain ⟨rfl, C, t, fr, hg, _, h1, hsz, hq, hr⟩ := ho
      have hb : b ∈ blks π ids := mem_blks.2 ⟨id, hid, _, hp, rfl⟩
      obtain ⟨cs, us, rfl, hu, h2, h3, _⟩ := rel_agg hr hq
      cases hu
      exact ⟨rfl, hSi b hb, relCs_keep hk _ _ _ (hsame b (.inr hb)) (relCs_list hg h1 h3)⟩
  · rename_i cs hl
    split
    · rename_i ps is hps
      split
      · rename_i hall
        obtain ⟨pl', hp', ho⟩ := h.ok id _ hl
        rw [hp] at hp'; cases hp'
        cases pl with
        | nil => simp only [obOk] at ho
        | «at» b s c z l =>
          simp only [obOk] at ho ⊢
          obtain ⟨rfl, C, t, fr, hg, _, h1, hr⟩ := ho
          have hb : b ∈ blks π ids := mem_blks.2 ⟨id, hid, _, hp, rfl⟩
          obtain ⟨g1, _⟩ := reifyL_ok (S' := fun b => S b ∨ b ∈ blks π ids) h (fun b hb => .inl hb) 99 cs C.toList ps is hps hr (fun b' hb' => by
            obtain ⟨j, hj, pj, hpj, hbj⟩ := mem_blks.1 hb'
            simp only [List.all_eq_true] at hall
            have := hall j hj
            simp only [List.contains_eq_mem, decide_eq_true_eq] at this
            exact .inr (mem_blks.2 ⟨j, this, pj, hpj, hbj⟩))
          exact ⟨rfl, hSi b hb, relCs_keep hk2 _ _ _ (hsame b (.inr hb)) (relCs_list hg h1 g1)⟩
      · simp only [obOk]
    · simp only [obOk]
  · simp only [obOk]

theorem froOb_dead {ids : List Nat} {id : Nat} : (froOb look ids id).live = false := by
  unfold froOb
  split <;> try rfl
  split <;> try rfl
  split <;> rfl

theorem gather_exp : ∀ {ms : List (Option (Shp × Bool))} {vs : List TV} {a : Args}, gather look ms vs = some a → ∀ x ∈ a.lins, ∃ p l, expS look x.2.1 x.1 = some (p, l, x.2.2.2)
  | [], [], a, h, x, hx => by simp only [gather, Option.some.injEq] at h; subst h; cases hx
  | [], _ :: _, a, h, x, hx => by simp [gather] at h
  | none :: ms, [], a, h, x, hx => by simp [gather] at h
  | some _ :: ms, [], a, h, x, hx => by simp [gather] at h
  | none :: ms, v :: vs, a, h, x, hx => by
    simp only [gather] at h
    split at h
    · rename_i p ids a' h1 h2
      cases h
      exact gather_exp h2 x hx
    · cases h
  | some (sh, back) :: ms, v :: vs, a, h, x, hx => by
    simp only [gather] at h
    split at h
    · rename_i p l ids a' h1 h2
      cases h
      rcases List.mem_cons.1 hx with rfl | hx
      · exact ⟨p, l, h1⟩
      · exact gather_exp h2 x hx
    · cases h

theorem apply_ok {Γ : FuncId → Option Ctr} {G : Nat → Option (List PV)} {g : FuncId} {c : Ctr} {args : List TV} {ty : TypeId} (hΓ : Γ g = some c) (hG : Holds P G g c) (h : callK Γ look nx g args (resK T ty ret4) = some (v, up, nw, rd))
    {w : World} {S : Nat → Prop} {π : Nat → Option Pl} {us : List Value} (hgo : GOk G w S) (hr : relTVs w S π args us) (hob : ObsOk w S π look) (hf : Free look π nx nw.length) :
    Applies P g us.toArray w fun u w' => ∃ S' π', After w S π look nx v up nw u w' S' π' := by
  unfold callK at h
  rw [hΓ] at h
  simp only at h
  split at h
  · cases h
  rename_i a ha
  split at h
  case isFalse => cases h
  rename_i hnd
  simp only [Bool.and_eq_true] at hnd
  obtain ⟨y, hy, h'⟩ := bind_inv h
  clear h
  have hx : c.F a.ps = some (c.E y) := by simp only [Ctr.F, hy, Option.bind_some]
  generalize c.E y = x at hx h'
  obtain ⟨r, outs⟩ := x
  obtain ⟨upO, nwO, h2, hkey, hout⟩ := outs_ok a.lins outs nx _ _ h' (gather_exp ha)
  obtain ⟨tv, obs, h3, him⟩ := imp_ok c.res r _ _ _ h2
  -- what it comes to
  have hres : tv = v ∧ upO ++ (if c.scal then [] else froAll look a.lent) = up ∧ nwO ++ obs = nw := by
    unfold resK at h3
    split at h3
    · obtain ⟨h4, _⟩ := coeK_spec h3
      obtain ⟨e1, e2, e3, _⟩ := ret4_inv h4
      exact ⟨e1, e2, e3⟩
    · obtain ⟨e1, e2, e3, _⟩ := ret4_inv h3
      exact ⟨e1, e2, e3⟩
  obtain ⟨rfl, rfl, rfl⟩ := hres
  clear h2 h3 h'
  have hL := noDup_ok hnd.1
  have hdisj : ∀ i ∈ a.lent, i ∉ a.lins.flatMap (·.2.2.2) := by
    intro i hi hm
    have := hnd.2
    simp only [List.all_eq_true] at this
    have := this i hi
    simp only [List.contains_eq_mem, hm, decide_true, Bool.not_true, Bool.false_eq_true] at this
  -- the call
  have hlive := (gather_ok (S' := fun b => S b ∨ b ∈ blks π a.lent) hob (fun b hb => .inl hb) c.modes args us a ha hr fun b hb => .inr hb).2
  have hargs := (gather_ok (S' := fun b => S b ∨ b ∈ blks π a.lent) hob (fun b hb => .inl hb) c.modes args us a ha hr fun b hb => .inr hb).1
  have hliveL : ∀ i ∈ a.lins.flatMap (·.2.2.2), ∃ x, look i = some x ∧ x.live = true := fun i hi => hlive i (List.mem_append_right _ hi)
  have hliveT : ∀ i ∈ a.lent, ∃ x, look i = some x ∧ x.live = true := fun i hi => hlive i (List.mem_append_left _ hi)
  have hbL := blks_lt hob hliveL
  have hbT := blks_lt hob hliveT
  have hbd : ∀ b, b ∈ blks π a.lent → b ∉ blks π (a.lins.flatMap (·.2.2.2)) := by
    intro b h1 h2
    obtain ⟨i, hi, pi, hpi, hbi⟩ := mem_blks.1 h1
    obtain ⟨j, hj, pj, hpj, hbj⟩ := mem_blks.1 h2
    obtain ⟨x, hx, hxl⟩ := hliveT i hi
    obtain ⟨y, hy, hyl⟩ := hliveL j hj
    have := hob.apart i j x y pi pj b hx hy hxl hyl hpi hpj hbi hbj
    subst this
    exact hdisj i hi hj
  have hcall := hG w (fun b => S b ∨ b ∈ blks π a.lent) a.ps us _ r outs hargs (by rw [mem_blks_flat]; exact blks_nodup hob hL hliveL)
    (by
      rw [mem_blks_flat]
      intro b hb
      have ho := hob.out b (hbL b hb)
      exact ⟨fun h => h.elim ho.1 fun h => hbd b h hb, ho.2⟩)
    (fun b hb => hb.elim (hob.st b) fun h => (hob.out b (hbT b h)).2)
    (fun g cs hg => ⟨.inl (hgo g cs hg).1, relCs_keep (keep_sub fun b hb => .inl hb) _ _ _ rfl (hgo g cs hg).2⟩) hx
  refine hcall.mono fun u w' hB => ?_
  obtain ⟨S', gg, gps, hB⟩ := hB
  have hsame := hB.same
  have hstab := hB.stab
  have hownB := hB.own
  rw [mem_blks_flat] at hsame hstab hownB
  -- what is to be read from now on
  let S2 : Nat → Prop := if c.scal then S else S'
  have hS2 : S2 = S' ∨ c.scal = true := by
    simp only [S2]
    cases c.scal
    · exact .inl rfl
    · exact .inr rfl
  have hsub2 : ∀ b, S b → S2 b := by
    intro b hb
    simp only [S2]
    cases c.scal
    · exact hB.sub b (.inl hb)
    · exact hb
  have h2sub : ∀ b, S2 b → S' b := by
    intro b hb
    simp only [S2] at hb
    cases hc : c.scal
    · rw [hc] at hb; exact hb
    · rw [hc] at hb; exact hB.sub b (.inl hb)
  obtain ⟨hres, houts⟩ := hB.res S2 hS2
  let fro := if c.scal then [] else froAll look a.lent
  have hfro : ∀ id, upLast fro id = if c.scal = false ∧ id ∈ a.lent then some (froOb look a.lent id) else none := by
    intro id
    simp only [fro]
    cases c.scal
    · simp only [Bool.false_eq_true, if_false, froAll, upLast_fro, true_and]
    · simp [upLast]
  have hin : ∀ i, (∃ x, look i = some x ∧ x.live = true) → ¬ (nx ≤ i ∧ i < nx + (nwO ++ obs).length) := by
    rintro i ⟨x, hx, _⟩ h
    have := (hf (i - nx) (by omega)).1
    rw [show nx + (i - nx) = i by omega, hx] at this
    cases this
  let lookB := upd look (deadAll (a.lins.flatMap (·.2.2.2)) ++ fro) nx []
  have hlookB : ∀ id, lookB id = if id ∈ a.lins.flatMap (·.2.2.2) then some .dead else if c.scal = false ∧ id ∈ a.lent then some (froOb look a.lent id) else look id := by
    intro id
    simp only [lookB, upd, upLast_append, hfro, List.length_nil, Nat.add_zero]
    by_cases h1 : id ∈ a.lins.flatMap (·.2.2.2)
    · have : ¬ (c.scal = false ∧ id ∈ a.lent) := fun h => hdisj id h.2 h1
      rw [if_neg this, if_pos h1, upLast_dead_mem h1]
    · rw [if_neg h1]
      by_cases h2 : c.scal = false ∧ id ∈ a.lent
      · rw [if_pos h2, if_pos h2]
      · rw [if_neg h2]
        cases hd : upLast (deadAll (a.lins.flatMap (·.2.2.2))) id with
        | some z => exact absurd (upLast_dead hd).2 h1
        | none => simp only; rw [if_neg (by omega), if_neg h2]
  have hobB : ObsOk w' S2 π lookB := by
    refine obs_gen hob ⟨fun b hb => hsame b (hob.st b hb) fun hm => (hob.out b (hbL b hm)).1 hb, hsub2⟩ (Ext.refl _) (fun b hb => hB.st b (h2sub b hb)) hB.size
      (fun id => id ∉ a.lins.flatMap (·.2.2.2) ∧ ¬ (c.scal = false ∧ id ∈ a.lent)) ?_ ?_
    · rintro id ⟨h1, h2⟩
      refine ⟨by rw [hlookB, if_neg h1, if_neg h2], fun x pl b hx hl hp hb => ?_⟩
      have ho : owned look π b := ⟨id, x, pl, hx, hl, hp, hb⟩
      have hnL : b ∉ blks π (a.lins.flatMap (·.2.2.2)) := by
        intro hm
        obtain ⟨j, hj, pj, hpj, hbj⟩ := mem_blks.1 hm
        obtain ⟨y, hy, hyl⟩ := hliveL j hj
        have := hob.apart id j x y pl pj b hx hy hl hyl hp hpj hb hbj
        subst this
        exact h1 hj
      refine ⟨hsame b (hob.out b ho).2 hnL, fun hs => ?_⟩
      simp only [S2] at hs
      cases hc : c.scal
      · rw [hc] at hs
        rcases hstab b hs with h3 | h3 | h3
        · rcases h3 with h3 | h3
          · exact (hob.out b ho).1 h3
          · obtain ⟨j, hj, pj, hpj, hbj⟩ := mem_blks.1 h3
            obtain ⟨y, hy, hyl⟩ := hliveT j hj
            have := hob.apart id j x y pl pj b hx hy hl hyl hp hpj hb hbj
            subst this
            exact h2 ⟨hc, hj⟩
        · exact hnL h3
        · have := (hob.out b ho).2; omega
      · rw [hc] at hs
        exact (hob.out b ho).1 hs
    · intro id x hx hno
      rw [hlookB] at hx
      by_cases h1 : id ∈ a.lins.flatMap (·.2.2.2)
      · rw [if_pos h1] at hx
        cases hx
        obtain ⟨y, hy, _⟩ := hliveL id h1
        obtain ⟨pl, hp, _⟩ := hob.ok id y hy
        exact ⟨pl, hp, by simp only [obOk], fun b hl => by cases hl⟩
      · rw [if_neg h1] at hx
        by_cases h2 : c.scal = false ∧ id ∈ a.lent
        · rw [if_pos h2] at hx
          cases hx
          obtain ⟨y, hy, _⟩ := hliveT id h2.2
          obtain ⟨pl, hp, _⟩ := hob.ok id y hy
          have hS2' : S2 = S' := by simp only [S2, h2.1]; rfl
          refine ⟨pl, hp, ?_, fun b hl => by rw [froOb_dead] at hl; cases hl⟩
          refine froOb_ok hob h2.2 hp hsub2 (fun b hb => by rw [hS2']; exact hB.sub b (.inr hb)) (fun b hb => ?_)
          rcases hb with hb | hb
          · exact hsame b (hob.st b hb) fun hm => (hob.out b (hbL b hm)).1 hb
          · exact hsame b (hob.out b (hbT b hb)).2 (hbd b hb)
        · exact absurd ⟨h1, h2⟩ hno
  have hownLB : ∀ b, owned lookB π b → owned look π b ∧ b ∉ blks π (a.lins.flatMap (·.2.2.2)) := by
    rintro b ⟨id, x, pl, h1, h2, h3, h4⟩
    rw [hlookB] at h1
    by_cases h5 : id ∈ a.lins.flatMap (·.2.2.2)
    · rw [if_pos h5] at h1; cases h1; cases h2
    · rw [if_neg h5] at h1
      by_cases h6 : c.scal = false ∧ id ∈ a.lent
      · rw [if_pos h6] at h1; cases h1; rw [froOb_dead] at h2; cases h2
      · rw [if_neg h6] at h1
        refine ⟨⟨id, x, pl, h1, h2, h3, h4⟩, fun hm => ?_⟩
        obtain ⟨j, hj, pj, hpj, hbj⟩ := mem_blks.1 hm
        obtain ⟨y, hy, hyl⟩ := hliveL j hj
        have := hob.apart id j x y pl pj b h1 hy h2 hyl h3 hpj h4 hbj
        subst this
        exact h5 hj
  have hfresh : ∀ b ∈ gg ++ gps.flatten, ¬ S2 b ∧ b < w'.heap.size ∧ ¬ owned lookB π b := by
    intro b hb
    obtain ⟨h1, h2, h3⟩ := hownB b hb
    refine ⟨fun h => h1 (h2sub b h), h2, fun ho => ?_⟩
    obtain ⟨h4, h5⟩ := hownLB b ho
    rcases h3 with h3 | h3
    · exact h5 h3
    · have := (hob.out b h4).2; omega
  have hnd2 := hB.nodup
  rw [List.nodup_append] at hnd2
  have hfreeB : Free lookB π nx (nwO ++ obs).length := by
    intro j hj
    refine ⟨?_, (hf j hj).2⟩
    have hne : ¬ ∃ x, look (nx + j) = some x ∧ x.live = true := fun h => hin _ h (by omega)
    rw [hlookB, if_neg (fun h => hne (hliveL _ h)), if_neg (fun h => hne (hliveT _ h.2))]
    exact (hf j hj).1
  simp only [List.length_append] at hfreeB
  obtain ⟨π1, q1, q2, q3, q4⟩ := hout w' S2 π lookB gps (fun i hi => by rw [hlookB, if_pos hi]) hL (outs_of c.modes args us a outs gps ha hr houts) hnd2.2.1 hobB
    (fun i hi es sz hl b s c z l hp => by
      obtain ⟨pl, hp', hk⟩ := hob.ok i _ hl
      rw [hp] at hp'; cases hp'
      simp only [obOk] at hk
      exact hk.2.1)
    (fun i hi => ⟨hliveL i hi, by
      obtain ⟨y, hy, _⟩ := hliveL i hi
      obtain ⟨pl, hp, _⟩ := hob.ok i y hy
      rw [hp]; simp⟩)
    (fun b hb => hfresh b (List.mem_append_right _ hb)) (fun j hj => hfreeB j (by omega))
  have hfree1 : Free (upd lookB upO nx nwO) π1 (nx + nwO.length) obs.length := by
    intro j hj
    have h0 := hfreeB (nwO.length + j) (by omega)
    rw [← Nat.add_assoc] at h0
    refine ⟨?_, ?_⟩
    · simp only [upd]
      cases hu : upLast upO (nx + nwO.length + j) with
      | some z =>
        have := (hkey _).1 (by rw [hu]; rfl)
        exact absurd (hliveL _ this) fun h => hin _ h (by simp only [List.length_append]; omega)
      | none => simp only; rw [if_neg (by omega)]; exact h0.1
    · cases hq : π1 (nx + nwO.length + j) with
      | none => rfl
      | some q =>
        rcases q3 (nx + nwO.length + j) (by rw [hq]; simp) with h1 | h1
        · exact absurd h0.2 h1
        · omega
  obtain ⟨π2, k1, k2, k3, k4, k5, _⟩ := him w' S2 (upd lookB upO nx nwO) π1 u gg hres hnd2.1 q1 (fun b hb => by
    obtain ⟨h1, h2, h3⟩ := hfresh b (List.mem_append_left _ hb)
    exact ⟨h1, h2, fun ho => (q4 b ho).elim h3 fun h => hnd2.2.2 b hb b h rfl⟩) hfree1
  -- it is what it is said to be
  have heq : upd (upd lookB upO nx nwO) [] (nx + nwO.length) obs = upd look (upO ++ fro) nx (nwO ++ obs) := by
    rw [upd_seq lookB upO [] nx nwO obs (fun j hj => by
      cases hu : upLast upO (nx + nwO.length + j) with
      | none => rfl
      | some z =>
        have := (hkey _).1 (by rw [hu]; rfl)
        exact absurd (hliveL _ this) fun h => hin _ h (by simp only [List.length_append]; omega))]
    rw [List.append_nil]
    funext id
    simp only [upd, upLast_append, hfro]
    cases hu : upLast upO id with
    | some z =>
      have hm := (hkey _).1 (by rw [hu]; rfl)
      have h3 : ¬ (c.scal = false ∧ id ∈ a.lent) := fun h => hdisj id h.2 hm
      rw [if_neg h3]
    | none =>
      have hm : id ∉ a.lins.flatMap (·.2.2.2) := fun hm => by have := (hkey id).2 hm; rw [hu] at this; cases this
      simp only
      by_cases h2 : c.scal = false ∧ id ∈ a.lent
      · rw [if_pos h2]
        have : ¬ (nx ≤ id ∧ id < nx + (nwO ++ obs).length) := hin id (hliveT id h2.2)
        rw [if_neg this, hlookB, if_neg hm, if_pos h2]
      · rw [if_neg h2]
        split
        · rfl
        · rw [hlookB, if_neg hm, if_neg h2]
  rw [heq] at k1 k5
  refine ⟨S2, π2, k4, k1, q2.trans k2, ?_, ?_⟩
  · intro id hid
    simp only [List.length_append]
    rcases k3 id hid with h1 | h1
    · rcases q3 id h1 with h2 | h2
      · exact .inl h2
      · exact .inr (by omega)
    · exact .inr (by omega)
  · have hback : ∀ b ∈ gg ++ gps.flatten, owned look π b ∨ w.heap.size ≤ b := by
      intro b hb
      rcases (hownB b hb).2.2 with h | h
      · exact .inl (hbL b h)
      · exact .inr h
    refine ⟨hB.os, hB.tape, hB.output, hB.size, fun b hlt hno => hsame b hlt fun hm => hno (hbL b hm), hsub2, fun b hb => ?_, fun b hb => ?_⟩
    · rcases hstab b (h2sub b hb) with h | h | h
      · rcases h with h | h
        · exact .inl h
        · exact .inr (.inl (hbT b h))
      · exact .inr (.inl (hbL b h))
      · exact .inr (.inr h)
    · rcases k5 b hb with h | h
      · rcases q4 b h with h | h
        · exact .inl (hownLB b h).1
        · exact hback b (List.mem_append_right _ h)
      · exact hback b (List.mem_append_left _ h)

end
end Go.Proofs.YtgpjnppakffoiaaV
