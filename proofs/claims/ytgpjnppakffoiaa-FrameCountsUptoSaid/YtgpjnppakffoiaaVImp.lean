/- The reading machine: what is given is memory of the call's own. -/
import Derived.Test.YtgpjnppakffoiaaVExp
namespace Go.Proofs.YtgpjnppakffoiaaV
open Go Go.RowKit

theorem upd_none {look : Nat → Option Ob} {nx : Nat} {nw : List Ob} {id : Nat} (h : id < nx) : upd look [] nx nw id = look id := by
  simp only [upd, upLast]; rw [if_neg (by omega)]
theorem upd_new {look : Nat → Option Ob} {nx : Nat} {nw : List Ob} {j : Nat} (h : j < nw.length) : upd look [] nx nw (nx + j) = nw[j]? := by
  simp only [upd, upLast]; rw [if_pos (by omega), Nat.add_sub_cancel_left]
theorem upd_append (look : Nat → Option Ob) (nx : Nat) (a b : List Ob) : upd (upd look [] nx a) [] (nx + a.length) b = upd look [] nx (a ++ b) := by
  funext id
  simp only [upd, upLast, List.length_append]
  by_cases h : nx + a.length ≤ id ∧ id < nx + a.length + b.length
  · rw [if_pos h, if_pos (by omega), List.getElem?_append_right (by omega)]
    congr 1; omega
  · rw [if_neg h]
    by_cases h2 : nx ≤ id ∧ id < nx + a.length
    · rw [if_pos h2, if_pos (by omega), List.getElem?_append_left (by omega)]
    · rw [if_neg h2, if_neg (by omega)]

section
variable {w : World} {S : Nat → Prop}

/-- Memory that nobody has becomes the call's own. -/
theorem obs_adopt {look : Nat → Option Ob} {π : Nat → Option Pl} {nx : Nat} {ob : Ob} {pl : Pl} (h : ObsOk w S π look) (hf : Free look π nx 1) (hb : ∀ b, pl.blk = some b → ¬ S b ∧ b < w.heap.size ∧ ¬ owned look π b)
    (hob : ∀ π', Ext π π' → obOk w S π' ob pl) :
    ∃ π', ObsOk w S π' (upd look [] nx [ob]) ∧ Ext π π' ∧ (∀ id, π' id ≠ none → π id ≠ none ∨ (nx ≤ id ∧ id < nx + 1)) ∧ π' nx = some pl ∧ ∀ b, owned (upd look [] nx [ob]) π' b → owned look π b ∨ pl.blk = some b := by
  let π' := fun id => if id = nx then some pl else π id
  have hfn : look nx = none ∧ π nx = none := by simpa using hf 0 (by omega)
  have hext : Ext π π' := by
    intro id q hp
    simp only [π']
    rw [if_neg]
    · exact hp
    · intro e; subst e; rw [hfn.2] at hp; cases hp
  have hnx : π' nx = some pl := by simp [π']
  have hpi : ∀ id, id ≠ nx → π' id = π id := fun id hid => by simp [π', hid]
  have hlook : ∀ id x, upd look [] nx [ob] id = some x → (id = nx ∧ x = ob) ∨ (id ≠ nx ∧ look id = some x) := by
    intro id x hx
    simp only [upd, upLast, List.length_singleton] at hx
    split at hx
    · have : id = nx := by omega
      subst this
      simp only [Nat.sub_self, List.getElem?_cons_zero, Option.some.injEq] at hx
      exact .inl ⟨rfl, hx.symm⟩
    · exact .inr ⟨by omega, hx⟩
  have hown : ∀ b, owned (upd look [] nx [ob]) π' b → owned look π b ∨ pl.blk = some b := by
    rintro b ⟨id, x, pj, h1, h2, h3, h4⟩
    rcases hlook id x h1 with ⟨rfl, rfl⟩ | ⟨hne, hl⟩
    · rw [hnx] at h3; cases h3; exact .inr h4
    · rw [hpi id hne] at h3; exact .inl ⟨id, x, pj, hl, h2, h3, h4⟩
  refine ⟨π', ?_, hext, ?_, hnx, hown⟩
  · refine obs_gen h (keep_sub fun _ h => h) hext h.st (Nat.le_refl _) (fun id => id ≠ nx) ?_ ?_
    · intro id hne
      constructor
      · simp only [upd, upLast, List.length_singleton]; rw [if_neg (by omega)]
      · intro x pj b hx hl hp hb1
        exact ⟨rfl, (owned_lt h hx hl hp hb1).2⟩
    · intro id x hx hno
      rcases hlook id x hx with ⟨rfl, rfl⟩ | ⟨hne, _⟩
      · refine ⟨pl, hnx, hob π' hext, fun b hl hb1 => ⟨(hb b hb1).2.1, (hb b hb1).1, ?_⟩⟩
        intro j y pj h1 h2 h3 h4
        rcases hlook j y h1 with ⟨rfl, rfl⟩ | ⟨hne, hlj⟩
        · rfl
        · rw [hpi j hne] at h3
          exact absurd ⟨j, y, pj, hlj, h2, h3, h4⟩ (hb b hb1).2.2
      · exact absurd hne hno
  · intro id hid
    by_cases e : id = nx
    · exact .inr (by omega)
    · rw [hpi id e] at hid; exact .inl hid

/-- What an import comes to. -/
def Imp (sh : Shp) (p : PV) (nx : Nat) (tv : TV) (obs : List Ob) : Prop :=
  ∀ (w : World) (S : Nat → Prop) (look : Nat → Option Ob) (π : Nat → Option Pl) (u : Value) (fp : List Nat), ownS w S sh p u fp → fp.Nodup → ObsOk w S π look → (∀ b ∈ fp, ¬ S b ∧ b < w.heap.size ∧ ¬ owned look π b) → Free look π nx obs.length →
    ∃ π', ObsOk w S π' (upd look [] nx obs) ∧ Ext π π' ∧ (∀ id, π' id ≠ none → π id ≠ none ∨ (nx ≤ id ∧ id < nx + obs.length)) ∧ relTV w S π' tv u ∧ (∀ b, owned (upd look [] nx obs) π' b → owned look π b ∨ b ∈ fp) ∧ ∀ id, tv = .ow id → blks π' [id] = fp
def ImpL (shs : List Shp) (ps : List PV) (nx : Nat) (tvs : List TV) (obs : List Ob) : Prop :=
  ∀ (w : World) (S : Nat → Prop) (look : Nat → Option Ob) (π : Nat → Option Pl) (us : List Value) (fp : List Nat), ownL w S shs ps us fp → fp.Nodup → ObsOk w S π look → (∀ b ∈ fp, ¬ S b ∧ b < w.heap.size ∧ ¬ owned look π b) → Free look π nx obs.length →
    ∃ π', ObsOk w S π' (upd look [] nx obs) ∧ Ext π π' ∧ (∀ id, π' id ≠ none → π id ≠ none ∨ (nx ≤ id ∧ id < nx + obs.length)) ∧ relTVs w S π' tvs us ∧ ∀ b, owned (upd look [] nx obs) π' b → owned look π b ∨ b ∈ fp

theorem free_step {look : Nat → Option Ob} {π π' : Nat → Option Pl} {nx n : Nat} {obs : List Ob} (hf : Free look π nx (obs.length + n)) (honly : ∀ id, π' id ≠ none → π id ≠ none ∨ (nx ≤ id ∧ id < nx + obs.length)) : Free (upd look [] nx obs) π' (nx + obs.length) n := by
  intro j hj
  have := hf (obs.length + j) (by omega)
  rw [← Nat.add_assoc] at this
  refine ⟨?_, ?_⟩
  · simp only [upd, upLast]
    rw [if_neg (by omega)]
    exact this.1
  · cases h : π' (nx + obs.length + j) with
    | none => rfl
    | some q =>
      rcases honly (nx + obs.length + j) (by rw [h]; simp) with h1 | h1
      · exact absurd this.2 h1
      · omega

mutual
theorem imp_ok {R : Type} : ∀ (sh : Shp) (p : PV) (nx : Nat) (k : TV → List Ob → Option R) (r : R), impK sh p nx k = some r → ∃ tv obs, k tv obs = some r ∧ Imp sh p nx tv obs
  | .d, p, nx, k, r, h => by
    simp only [impK] at h
    refine ⟨_, _, h, ?_⟩
    intro w S look π u fp ho hn hob hfp hf
    simp only [ownS] at ho
    obtain ⟨rfl, hr⟩ := ho
    exact ⟨π, by rw [upd_nil]; exact hob, Ext.refl _, fun id h => .inl h, by simp only [relTV]; exact hr, fun b hb => by rw [upd_nil] at hb; exact .inl hb, fun id h => by cases h⟩
  | .s, p, nx, k, r, h => by
    simp only [impK] at h
    obtain ⟨x, hx, h'⟩ := bind_inv h
    refine ⟨_, _, h', ?_⟩
    intro w S look π u fp ho hn hob hfp hf
    simp only [ownS] at ho
    obtain ⟨es, sz, rfl, ho⟩ := ho
    simp only [PV.asOs, Option.some.injEq] at hx
    subst hx
    rcases ho with ⟨rfl, rfl, rfl⟩ | ⟨b, s, c, a, C, t, fr, hv, ha, rfl, hlc, hcm, hg, hu, h1, hsz, hre⟩
    · obtain ⟨π', g1, g2, g3, g4, g5⟩ := obs_adopt (ob := .row [] sz) (pl := .nil) hob hf (fun b hb => by cases hb) (fun _ _ => by simp [obOk])
      refine ⟨π', g1, g2, g3, ?_, fun b hb => (g5 b hb).imp (fun h => h) fun h => (by cases h), fun id h => by cases h; simp [blks, g4, Pl.blk]⟩
      simp only [relTV]
      exact .inl ⟨g4, trivial⟩
    · obtain ⟨π', g1, g2, g3, g4, g5⟩ := obs_adopt (ob := .row es sz) (pl := .at b s c sz es.length) hob hf (fun b' hb => by
          simp only [Pl.blk, Option.some.injEq] at hb; subst hb; exact hfp b (by simp)) (fun _ _ => by
          simp only [obOk]
          exact ⟨trivial, trivial, hlc, hcm, C, t, fr, hg, hu, h1, hsz, hre⟩)
      refine ⟨π', g1, g2, g3, ?_, fun b' hb => (g5 b' hb).imp (fun h => h) fun h => (by simp only [Pl.blk, Option.some.injEq] at h; simp [h]), fun id h => by cases h; simp [blks, g4, Pl.blk]⟩
      simp only [relTV]
      exact .inr ⟨b, s, c, _, _, a, g4, hv, ha⟩
  | .o shs, p, nx, k, r, h => by
    simp only [impK] at h
    obtain ⟨cs, hx, h'⟩ := bind_inv h
    obtain ⟨tvs, obs, hk, him⟩ := impL_ok shs cs nx _ r h'
    refine ⟨_, _, hk, ?_⟩
    intro w S look π u fp ho hn hob hfp hf
    simp only [ownS] at ho
    obtain ⟨cs', b, C, t, fr, fp', rfl, rfl, rfl, hg, hu, h1, hre⟩ := ho
    simp only [PV.asObj, Option.some.injEq] at hx
    subst hx
    simp only [List.nodup_cons] at hn
    simp only [List.length_append, List.length_singleton] at hf
    obtain ⟨π', g1, g2, g3, g4, g5⟩ := him w S look π C.toList fp' hre hn.2 hob (fun b hb => hfp b (List.mem_cons_of_mem _ hb)) (fun j hj => hf j (by omega))
    obtain ⟨π'', k1, k2, k3, k4, k5⟩ := obs_adopt (nx := nx + obs.length) (ob := .box tvs) (pl := .at b 0 0 0 0) g1 (free_step hf g3) (fun b' hb => by
        simp only [Pl.blk, Option.some.injEq] at hb
        subst hb
        obtain ⟨q1, q2, q3⟩ := hfp b (List.mem_cons_self ..)
        exact ⟨q1, q2, fun ho => (g5 b ho).elim q3 hn.1⟩) (fun π'' he => by
        simp only [obOk]
        exact ⟨trivial, C, t, fr, hg, hu, h1, relTVs_keep (keep_sub fun _ h => h) he _ _ g4⟩)
    refine ⟨π'', by rw [← upd_append]; exact k1, g2.trans k2, ?_, ?_, ?_, fun id h => by cases h⟩
    · intro id hid
      simp only [List.length_append, List.length_singleton]
      rcases k3 id hid with h1 | h1
      · rcases g3 id h1 with h2 | h2
        · exact .inl h2
        · exact .inr (by omega)
      · exact .inr (by omega)
    · simp only [relTV]
      exact ⟨b, 0, _, _, _, k4, rfl⟩
    · intro b' hb'
      rw [← upd_append] at hb'
      rcases k5 b' hb' with h1 | h1
      · rcases g5 b' h1 with h2 | h2
        · exact .inl h2
        · exact .inr (List.mem_cons_of_mem _ h2)
      · simp only [Pl.blk, Option.some.injEq] at h1
        subst h1
        exact .inr (List.mem_cons_self ..)
  | .a shs, p, nx, k, r, h => by
    simp only [impK] at h
    obtain ⟨cs, hx, h'⟩ := bind_inv h
    obtain ⟨tvs, obs, hk, him⟩ := impL_ok shs cs nx _ r h'
    refine ⟨_, _, hk, ?_⟩
    intro w S look π u fp ho hn hob hfp hf
    simp only [ownS] at ho
    obtain ⟨cs', us, rfl, rfl, h1, hre⟩ := ho
    simp only [PV.asAgg, Option.some.injEq] at hx
    subst hx
    obtain ⟨π', g1, g2, g3, g4, g5⟩ := him w S look π us.toList fp hre hn hob hfp hf
    exact ⟨π', g1, g2, g3, by simp only [relTV]; exact ⟨us, rfl, h1, g4⟩, g5, fun id h => by cases h⟩
  | .t shs, p, nx, k, r, h => by
    simp only [impK] at h
    obtain ⟨cs, hx, h'⟩ := bind_inv h
    obtain ⟨tvs, obs, hk, him⟩ := impL_ok shs cs nx _ r h'
    refine ⟨_, _, hk, ?_⟩
    intro w S look π u fp ho hn hob hfp hf
    simp only [ownS] at ho
    obtain ⟨cs', us, rfl, rfl, hre⟩ := ho
    simp only [PV.asTup, Option.some.injEq] at hx
    subst hx
    obtain ⟨π', g1, g2, g3, g4, g5⟩ := him w S look π us.toList fp hre hn hob hfp hf
    exact ⟨π', g1, g2, g3, by simp only [relTV]; exact ⟨us, rfl, g4⟩, g5, fun id h => by cases h⟩
theorem impL_ok {R : Type} : ∀ (shs : List Shp) (ps : List PV) (nx : Nat) (k : List TV → List Ob → Option R) (r : R), impLK shs ps nx k = some r → ∃ tvs obs, k tvs obs = some r ∧ ImpL shs ps nx tvs obs
  | [], ps, nx, k, r, h => by
    simp only [impLK] at h
    split at h
    · refine ⟨_, _, h, ?_⟩
      intro w S look π us fp ho hn hob hfp hf
      simp only [ownL] at ho
      obtain ⟨rfl, rfl, rfl⟩ := ho
      exact ⟨π, by rw [upd_nil]; exact hob, Ext.refl _, fun id h => .inl h, by simp only [relTVs], fun b hb => by rw [upd_nil] at hb; exact .inl hb⟩
    · cases h
  | sh :: shs, ps, nx, k, r, h => by
    simp only [impLK] at h
    obtain ⟨p, hp, h'⟩ := bind_inv h
    obtain ⟨tv, obs, hk, him⟩ := imp_ok sh p nx _ r h'
    obtain ⟨tvs, obs', hk', him'⟩ := impL_ok shs ps.tail _ _ r hk
    refine ⟨_, _, hk', ?_⟩
    intro w S look π us fp ho hn hob hfp hf
    simp only [ownL] at ho
    obtain ⟨p', ps', u, us', f1, f2, rfl, rfl, rfl, h1, h2⟩ := ho
    simp only [List.head?_cons, Option.some.injEq] at hp
    subst hp
    simp only [List.nodup_append] at hn
    simp only [List.length_append] at hf
    obtain ⟨π', g1, g2, g3, g4, g5, _⟩ := him w S look π u f1 h1 hn.1 hob (fun b hb => hfp b (List.mem_append_left _ hb)) (fun j hj => hf j (by omega))
    obtain ⟨π'', k1, k2, k3, k4, k5⟩ := him' w S _ π' us' f2 h2 hn.2.1 g1 (fun b hb => by
      obtain ⟨q1, q2, q3⟩ := hfp b (List.mem_append_right _ hb)
      exact ⟨q1, q2, fun ho => (g5 b ho).elim q3 fun h => hn.2.2 b h b hb rfl⟩) (free_step hf g3)
    refine ⟨π'', by rw [← upd_append]; exact k1, g2.trans k2, ?_, ?_, ?_⟩
    · intro id hid
      simp only [List.length_append]
      rcases k3 id hid with h1 | h1
      · rcases g3 id h1 with h2 | h2
        · exact .inl h2
        · exact .inr (by omega)
      · exact .inr (by omega)
    · simp only [relTVs]
      exact ⟨u, us', rfl, relTV_keep (keep_sub fun _ h => h) k2 _ _ g4, k4⟩
    · intro b hb
      rw [← upd_append] at hb
      rcases k5 b hb with h1 | h1
      · rcases g5 b h1 with h2 | h2
        · exact .inl h2
        · exact .inr (List.mem_append_left _ h2)
      · exact .inr (List.mem_append_right _ h1)
end

end
end Go.Proofs.YtgpjnppakffoiaaV
