/- The reading machine: what is given back is as the callee has left it. -/
import Derived.Test.YtgpjnppakffoiaaVCall
namespace Go.Proofs.YtgpjnppakffoiaaV
open Go Go.RowKit

theorem upLast_append (a b : List (Nat × Ob)) (id : Nat) : upLast (a ++ b) id = match upLast b id with | some x => some x | none => upLast a id := by
  induction a with
  | nil => simp only [List.nil_append, upLast]; cases upLast b id <;> rfl
  | cons x a ih =>
    obtain ⟨i, y⟩ := x
    simp only [List.cons_append, upLast, ih]
    cases upLast b id <;> rfl

theorem upd_seq (look : Nat → Option Ob) (a b : List (Nat × Ob)) (nx : Nat) (x y : List Ob) (h : ∀ j, j < y.length → upLast a (nx + x.length + j) = none) : upd (upd look a nx x) b (nx + x.length) y = upd look (a ++ b) nx (x ++ y) := by
  funext id
  simp only [upd, upLast_append, List.length_append]
  cases hb : upLast b id with
  | some z => rfl
  | none =>
    simp only
    by_cases h1 : nx + x.length ≤ id ∧ id < nx + x.length + y.length
    · have := h (id - (nx + x.length)) (by omega)
      rw [show nx + x.length + (id - (nx + x.length)) = id by omega] at this
      rw [if_pos h1, this]
      simp only
      rw [if_pos (by omega), List.getElem?_append_right (by omega)]
      congr 1; omega
    · rw [if_neg h1]
      cases ha : upLast a id with
      | some z => rfl
      | none =>
        simp only
        by_cases h2 : nx ≤ id ∧ id < nx + x.length
        · rw [if_pos h2, if_pos (by omega), List.getElem?_append_left (by omega)]
        · rw [if_neg h2, if_neg (by omega)]

theorem upd_skip {look : Nat → Option Ob} {π : Nat → Option Pl} {ids : List Nat} {a b : List (Nat × Ob)} {nx : Nat} {nw : List Ob} (hd : ∀ i ∈ ids, look i = some .dead) (ha : ∀ i ∈ ids, upLast a i = none) (hf : Free look π nx nw.length) :
    upd look (a ++ (deadAll ids ++ b)) nx nw = upd look (a ++ b) nx nw := by
  funext id
  simp only [upd, upLast_append]
  cases hb : upLast b id with
  | some z => rfl
  | none =>
    simp only
    cases hdd : upLast (deadAll ids) id with
    | none => rfl
    | some z =>
      obtain ⟨rfl, hm⟩ := upLast_dead hdd
      simp only [ha id hm]
      rw [if_neg, hd id hm]
      intro h
      have := (hf (id - nx) (by omega)).1
      rw [show nx + (id - nx) = id by omega, hd id hm] at this
      cases this

/-- What comes of what is given back. -/
def Outs (look : Nat → Option Ob) (lins : List (TV × Shp × Bool × List Nat)) (outs : List PV) (nx : Nat) (up : List (Nat × Ob)) (nw : List Ob) : Prop :=
  (∀ id, (upLast up id).isSome = true ↔ id ∈ lins.flatMap (·.2.2.2)) ∧
  ∀ (w : World) (S : Nat → Prop) (π : Nat → Option Pl) (lookB : Nat → Option Ob) (gps : List (List Nat)), (∀ i ∈ lins.flatMap (·.2.2.2), lookB i = some .dead) → (lins.flatMap (·.2.2.2)).Nodup → outsOk look w S π lins outs gps → gps.flatten.Nodup → ObsOk w S π lookB →
    (∀ i ∈ lins.flatMap (·.2.2.2), ∀ es sz, look i = some (.row es sz) → ∀ b s c z l, π i = some (.at b s c z l) → z = sz) → (∀ i ∈ lins.flatMap (·.2.2.2), (∃ x, look i = some x ∧ x.live = true) ∧ π i ≠ none) →
    (∀ b ∈ gps.flatten, ¬ S b ∧ b < w.heap.size ∧ ¬ owned lookB π b) → Free lookB π nx nw.length →
    ∃ π', ObsOk w S π' (upd lookB up nx nw) ∧ Ext π π' ∧ (∀ id, π' id ≠ none → π id ≠ none ∨ (nx ≤ id ∧ id < nx + nw.length)) ∧ ∀ b, owned (upd lookB up nx nw) π' b → owned lookB π b ∨ b ∈ gps.flatten

theorem blks_congr {π π1 : Nat → Option Pl} : ∀ {ids : List Nat}, (∀ i ∈ ids, π1 i = π i) → blks π1 ids = blks π ids
  | [], _ => rfl
  | i :: ids, h => by
    have := blks_congr (ids := ids) fun j hj => h j (List.mem_cons_of_mem _ hj)
    simp only [blks, List.filterMap_cons, h i (List.mem_cons_self ..)] at this ⊢
    rw [this]

section
variable {look : Nat → Option Ob}

theorem exp_ref {shs : List Shp} {id : Nat} {p : PV} {l ids : List Nat} (h : expS look (.o shs) (.ref id 0) = some (p, l, ids)) : ∃ o, ids = id :: o := by
  simp only [expS] at h
  split at h
  · split at h
    · cases h; exact ⟨_, rfl⟩
    · cases h
  · split at h
    · cases h; exact ⟨_, rfl⟩
    · cases h
  · cases h
theorem exp_ow {id : Nat} {p : PV} {l ids : List Nat} (h : expS look .s (.ow id) = some (p, l, ids)) : ids = [id] := by
  simp only [expS] at h
  split at h
  · cases h; rfl
  · cases h

theorem outs_ok {R : Type} : ∀ (lins : List (TV × Shp × Bool × List Nat)) (outs : List PV) (nx : Nat) (k : List (Nat × Ob) → List Ob → Option R) (r : R), outsK look lins outs nx k = some r →
    (∀ x ∈ lins, ∃ p l, expS look x.2.1 x.1 = some (p, l, x.2.2.2)) → ∃ up nw, k up nw = some r ∧ Outs look lins outs nx up nw
  | [], outs, nx, k, r, h, _ => by
    simp only [outsK] at h
    refine ⟨_, _, h, by simp [upLast], ?_⟩
    intro w S π lookB gps hd hn ho hgn hob hz hlv hfp hf
    simp only [outsOk] at ho
    exact ⟨π, by rw [upd_nil]; exact hob, Ext.refl _, fun id h => .inl h, fun b hb => by rw [upd_nil] at hb; exact .inl hb⟩
  | (v, sh, false, ids) :: ls, outs, nx, k, r, h, he => by
    simp only [outsK] at h
    obtain ⟨up, nw, hk, hkey, hout⟩ := outs_ok ls outs nx _ r h fun x hx => he x (List.mem_cons_of_mem _ hx)
    refine ⟨_, _, hk, ?_, ?_⟩
    · intro id
      rw [upLast_append]
      simp only [List.flatMap_cons, List.mem_append]
      cases hu : upLast up id with
      | some z =>
        have := (hkey id).1 (by rw [hu]; rfl)
        simp [this]
      | none =>
        have hno : id ∉ ls.flatMap (·.2.2.2) := fun hm => by have := (hkey id).2 hm; rw [hu] at this; cases this
        simp only
        constructor
        · intro h
          obtain ⟨z, hz⟩ := Option.isSome_iff_exists.1 h
          exact .inl (upLast_dead hz).2
        · rintro (h | h)
          · rw [upLast_dead_mem h]; rfl
          · exact absurd h hno
    · intro w S π lookB gps hd hn ho hgn hob hz hlv hfp hf
      simp only [List.flatMap_cons] at hd hn hlv
      rw [List.nodup_append] at hn
      simp only [outsOk] at ho
      obtain ⟨π', g1, g2, g3, g4⟩ := hout w S π lookB gps (fun i hi => hd i (List.mem_append_right _ hi)) hn.2.1 ho hgn hob (fun i hi => hz i (by simp only [List.flatMap_cons]; exact List.mem_append_right _ hi)) (fun i hi => hlv i (List.mem_append_right _ hi)) hfp hf
      have heq : upd lookB (deadAll ids ++ up) nx nw = upd lookB up nx nw := by
        have := upd_skip (a := []) (b := up) (nw := nw) (fun i hi => hd i (List.mem_append_left _ hi)) (fun i hi => rfl) hf
        simpa using this
      rw [heq]
      exact ⟨π', g1, g2, g3, g4⟩
  | (v, sh, true, ids) :: ls, outs, nx, k, r, h, he => by
    simp only [outsK] at h
    obtain ⟨p, hp, h1⟩ := bind_inv h
    clear h
    split at h1
    · rename_i id shs
      obtain ⟨cs, hcs, h2⟩ := bind_inv h1
      obtain ⟨tvs, obs, h3, him⟩ := impL_ok shs cs nx _ r h2
      obtain ⟨up, nw, hk, hkey, hout⟩ := outs_ok ls outs.tail _ _ r h3 fun x hx => he x (List.mem_cons_of_mem _ hx)
      obtain ⟨p0, l0, hexp⟩ := he _ (List.mem_cons_self ..)
      obtain ⟨tl, rfl⟩ := exp_ref hexp
      refine ⟨_, _, hk, ?_, ?_⟩
      · intro i
        simp only [List.tail_cons, upLast, upLast_append, List.flatMap_cons, List.mem_append, List.mem_cons]
        cases hu : upLast up i with
        | some z =>
          have := (hkey i).1 (by rw [hu]; rfl)
          simp [this]
        | none =>
          have hno : i ∉ ls.flatMap (·.2.2.2) := fun hm => by have := (hkey i).2 hm; rw [hu] at this; cases this
          simp only
          cases hdd : upLast (deadAll tl) i with
          | some z => simp [(upLast_dead hdd).2]
          | none =>
            have hnt : i ∉ tl := fun hm => by rw [upLast_dead_mem hm] at hdd; cases hdd
            simp only [hno, hnt, or_false]
            by_cases e : id = i
            · subst e; simp
            · rw [if_neg e]
              simp only [Option.isSome_none, Bool.false_eq_true, false_iff]
              exact fun h => e h.symm
      · intro w S π lookB gps hd hn ho hgn hob hz hlv hfp hf
        simp only [List.flatMap_cons] at hd hn hlv
        rw [List.nodup_append] at hn
        simp only [List.nodup_cons] at hn
        simp only [outsOk] at ho
        obtain ⟨p', outs', g, gps', rfl, rfl, ⟨w0, S0, u, p1, l1, hr, _, hown, _⟩, ho⟩ := ho
        simp only [List.head?_cons, Option.some.injEq] at hp
        subst hp
        simp only [List.tail_cons] at ho hout
        simp only [List.flatten_cons, List.nodup_append] at hgn
        simp only [List.flatten_cons] at hfp
        simp only [List.length_append] at hf
        simp only [relTV] at hr
        obtain ⟨b0, s, c, z, l, hpi, hu⟩ := hr
        simp only [ownS] at hown
        obtain ⟨cs', b, C, t, fr, fp', rfl, rfl, rfl, hg, huf, h1, hre⟩ := hown
        simp only [PV.asObj, Option.some.injEq] at hcs
        subst hcs
        simp only [Value.pointer.injEq, Option.some.injEq, Addr.mk.injEq, and_true] at hu
        obtain ⟨rfl, hs0⟩ := hu
        have hs : s = 0 := by omega
        subst hs
        simp only [List.nodup_cons] at hgn
        -- the parts
        obtain ⟨π1, g1, g2, g3, g4, g5⟩ := him w S lookB π C.toList fp' hre hgn.1.2 hob (fun b hb => hfp b (List.mem_append_left _ (List.mem_cons_of_mem _ hb))) (fun j hj => hf j (by omega))
        have hnew : ∀ i, lookB i = some .dead → ¬ (nx ≤ i ∧ i < nx + (obs.length + nw.length)) := by
          intro i hi h
          have := (hf (i - nx) (by omega)).1
          rw [show nx + (i - nx) = i by omega, hi] at this
          cases this
        have hid : lookB id = some .dead := hd id (by simp)
        have hid' : ∀ i, lookB i = some .dead → upd lookB [] nx obs i = some .dead := by
          intro i hi
          have := hnew i hi
          simp only [upd, upLast]
          rw [if_neg (by omega)]
          exact hi
        -- it itself
        obtain ⟨k1, k2⟩ := obs_back (nx := nx + obs.length) (ob := .box tvs) (pl := .at b 0 c z l) g1 (hid' id hid) (g2 _ _ hpi) (fun b' hb => by
            simp only [Pl.blk, Option.some.injEq] at hb
            subst hb
            obtain ⟨q1, q2, q3⟩ := hfp b (by simp)
            exact ⟨q1, q2, fun ho => (g5 b ho).elim q3 hgn.1.1⟩) (by
            simp only [obOk]
            exact ⟨trivial, C, t, fr, hg, huf, h1, g4⟩)
        have e1 : upd (upd lookB [] nx obs) [(id, .box tvs)] (nx + obs.length) [] = upd lookB [(id, .box tvs)] nx obs := by
          have := upd_seq lookB [] [(id, .box tvs)] nx obs [] (by simp)
          simpa using this
        rw [e1] at k1 k2
        have hdead : ∀ i ∈ ls.flatMap (·.2.2.2), upd lookB [(id, .box tvs)] nx obs i = some .dead := by
          intro i hi
          have hne : id ≠ i := fun e => hn.2.2 id (List.mem_cons_self ..) i hi e
          have hi' := hd i (List.mem_append_right _ hi)
          have := hnew i hi'
          simp only [upd, upLast]
          rw [if_neg hne]
          simp only
          rw [if_neg (by omega)]
          exact hi'
        have hfree : Free (upd lookB [(id, .box tvs)] nx obs) π1 (nx + obs.length) nw.length := by
          intro j hj
          have hfr := free_step (n := nw.length) hf g3 j hj
          refine ⟨?_, hfr.2⟩
          have h1 := hfr.1
          simp only [upd, upLast] at h1 ⊢
          have hne : id ≠ nx + obs.length + j := fun e => hnew id hid (by omega)
          rw [if_neg hne]
          exact h1
        have hπ1 : ∀ i, π i ≠ none → π1 i = π i := by
          intro i hi
          cases hq : π i with
          | none => exact absurd hq hi
          | some q => exact g2 _ _ hq
        have aux : ∀ (ls : List (TV × Shp × Bool × List Nat)) (outs : List PV) (gps : List (List Nat)), (∀ i ∈ ls.flatMap (·.2.2.2), π i ≠ none) → outsOk look w S π ls outs gps → outsOk look w S π1 ls outs gps := by
          intro ls
          induction ls with
          | nil => intro outs gps _ h; simpa only [outsOk] using h
          | cons x ls ih =>
            obtain ⟨v, sh, back, ids⟩ := x
            intro outs gps hpi h
            simp only [List.flatMap_cons, List.mem_append] at hpi
            cases back with
            | false => simp only [outsOk] at h ⊢; exact ih outs gps (fun i hi => hpi i (.inr hi)) h
            | true =>
              simp only [outsOk] at h ⊢
              obtain ⟨p, outs', g, gps', h1, h2, ⟨w0, S0, u, p0, l0, h3, h4, h5, h6⟩, h7⟩ := h
              refine ⟨p, outs', g, gps', h1, h2, ⟨w0, S0, u, p0, l0, relTV_keep (keep_sub fun _ h => h) g2 _ _ h3, h4, h5, fun e => ?_⟩, ih outs' gps' (fun i hi => hpi i (.inr hi)) h7⟩
              rw [h6 e]
              exact (blks_congr fun i hi => hπ1 i (hpi i (.inl hi))).symm
        have hC := aux ls outs' gps' (fun i hi => (hlv i (List.mem_append_right _ hi)).2) ho
        have hZ : ∀ i ∈ ls.flatMap (·.2.2.2), ∀ es sz, look i = some (.row es sz) → ∀ b s c z l, π1 i = some (.at b s c z l) → z = sz := by
          intro i hi es sz hl b s c z l hp
          obtain ⟨_, h2⟩ := hlv i (List.mem_append_right _ hi)
          rw [hπ1 i h2] at hp
          exact hz i (by simp only [List.flatMap_cons]; exact List.mem_append_right _ hi) es sz hl b s c z l hp
        have hL : ∀ i ∈ ls.flatMap (·.2.2.2), (∃ x, look i = some x ∧ x.live = true) ∧ π1 i ≠ none := by
          intro i hi
          obtain ⟨h1, h2⟩ := hlv i (List.mem_append_right _ hi)
          exact ⟨h1, by rw [hπ1 i h2]; exact h2⟩
        have hB : ∀ b' ∈ gps'.flatten, ¬ S b' ∧ b' < w.heap.size ∧ ¬ owned (upd lookB [(id, .box tvs)] nx obs) π1 b' := by
          intro b' hb
          obtain ⟨w1, w2, w3⟩ := hfp b' (List.mem_append_right _ hb)
          refine ⟨w1, w2, fun ho => ?_⟩
          rcases k2 b' ho with h2 | h2
          · rcases g5 b' h2 with h3 | h3
            · exact w3 h3
            · exact hgn.2.2 b' (List.mem_cons_of_mem _ h3) b' hb rfl
          · simp only [Pl.blk, Option.some.injEq] at h2
            subst h2
            exact hgn.2.2 b (List.mem_cons_self ..) b hb rfl
        obtain ⟨π2, q1, q2, q3, q4⟩ := hout w S π1 (upd lookB [(id, .box tvs)] nx obs) gps' hdead hn.2.1 hC hgn.2.1 k1 hZ hL hB hfree
        · have e2 : upd (upd lookB [(id, .box tvs)] nx obs) up (nx + obs.length) nw = upd lookB ((id, .box tvs) :: (deadAll tl ++ up)) nx (obs ++ nw) := by
            rw [upd_seq lookB [(id, .box tvs)] up nx obs nw (fun j hj => by
              simp only [upLast]
              exact if_neg fun e => hnew id hid (by omega))]
            have := upd_skip (look := lookB) (π := π) (ids := tl) (a := [(id, .box tvs)]) (b := up) (nx := nx) (nw := obs ++ nw) (fun i hi => hd i (List.mem_append_left _ (List.mem_cons_of_mem _ hi))) (fun i hi => by
              simp only [upLast]
              exact if_neg fun e : id = i => hn.1.1 (by rw [e]; exact hi)) (by simpa using hf)
            rw [List.singleton_append] at this
            rw [this]
          rw [List.tail_cons, ← e2]
          refine ⟨π2, q1, g2.trans q2, ?_, ?_⟩
          · intro i hi
            simp only [List.length_append]
            rcases q3 i hi with h1 | h1
            · rcases g3 i h1 with h2 | h2
              · exact .inl h2
              · exact .inr (by omega)
            · exact .inr (by omega)
          · intro b' hb'
            simp only [List.flatten_cons]
            rcases q4 b' hb' with h1 | h1
            · rcases k2 b' h1 with h2 | h2
              · rcases g5 b' h2 with h3 | h3
                · exact .inl h3
                · exact .inr (List.mem_append_left _ (List.mem_cons_of_mem _ h3))
              · simp only [Pl.blk, Option.some.injEq] at h2
                subst h2
                exact .inr (by simp)
            · exact .inr (List.mem_append_right _ h1)
    · rename_i id
      split at h1
      · rename_i es sz hl
        obtain ⟨x, hx, h2⟩ := bind_inv h1
        split at h2
        · rename_i hxs
          obtain ⟨up, nw, hk, hkey, hout⟩ := outs_ok ls outs.tail _ _ r h2 fun x hx => he x (List.mem_cons_of_mem _ hx)
          obtain ⟨p0, l0, hexp⟩ := he _ (List.mem_cons_self ..)
          have hids := exp_ow hexp
          simp only at hids
          subst hids
          refine ⟨_, _, hk, ?_, ?_⟩
          · intro i
            simp only [upLast, List.flatMap_cons, List.mem_append, List.mem_singleton]
            cases hu : upLast up i with
            | some z =>
              have := (hkey i).1 (by rw [hu]; rfl)
              simp [this]
            | none =>
              have hno : i ∉ ls.flatMap (·.2.2.2) := fun hm => by have := (hkey i).2 hm; rw [hu] at this; cases this
              simp only [hno, or_false]
              by_cases e : id = i
              · subst e; simp
              · rw [if_neg e]
                simp only [Option.isSome_none, Bool.false_eq_true, false_iff]
                exact fun h => e h.symm
          · intro w S π lookB gps hd hn ho hgn hob hz hlv hfp hf
            simp only [List.flatMap_cons] at hd hn hlv
            rw [List.nodup_append] at hn
            simp only [outsOk] at ho
            obtain ⟨p', outs', g, gps', rfl, rfl, ⟨w0, S0, u, p1, l1, hr, _, hown, hgs⟩, ho⟩ := ho
            simp only [List.head?_cons, Option.some.injEq] at hp
            subst hp
            simp only [List.tail_cons] at ho hout
            simp only [List.flatten_cons, List.nodup_append] at hgn
            simp only [List.flatten_cons] at hfp
            have hgs := hgs trivial
            simp only [ownS] at hown
            obtain ⟨es', sz', rfl, hrow⟩ := hown
            simp only [PV.asOs, Option.some.injEq] at hx
            subst hx
            simp only at hxs
            subst hxs
            have hid : lookB id = some .dead := hd id (by simp)
            have hnew : ∀ i, lookB i = some .dead → ¬ (nx ≤ i ∧ i < nx + nw.length) := by
              intro i hi h
              have := (hf (i - nx) (by omega)).1
              rw [show nx + (i - nx) = i by omega, hi] at this
              cases this
            have hplace : ∃ pl, π id = some pl ∧ obOk w S π (.row es' sz') pl ∧ ∀ b, pl.blk = some b → b ∈ g := by
              simp only [relTV] at hr
              rcases hr with ⟨hpi, hu⟩ | ⟨b, s, c, z, l, a, hpi, hu, ha⟩
              · refine ⟨_, hpi, ?_, fun b hb => by cases hb⟩
                simp only [obOk]
                rcases hrow with ⟨_, h1, _⟩ | ⟨b', s', c', a', C, t, fr, h1, _⟩
                · exact h1
                · rw [hu] at h1; cases h1
              · have hzz := hz id (by simp) es sz' hl b s c z l hpi
                subst hzz
                simp only [blks, List.filterMap_cons, hpi, Option.bind_some, Pl.blk, List.filterMap_nil] at hgs
                refine ⟨_, hpi, ?_, fun b' hb => by simp only [Pl.blk, Option.some.injEq] at hb; subst hb; simp [hgs]⟩
                rcases hrow with ⟨h1, _⟩ | ⟨b', s', c', a', C, t, fr, h1, ha', hg, hlc, hcm, hh, huf, h2, hsz, hre⟩
                · rw [hu] at h1; cases h1
                · rw [hu] at h1
                  simp only [Value.slice.injEq, Option.some.injEq] at h1
                  obtain ⟨rfl, rfl, rfl⟩ := h1
                  rw [hg] at hgs
                  simp only [List.cons.injEq, and_true] at hgs
                  subst hgs
                  have hss : c ≠ 0 → s' = s := by
                    intro h0
                    have e1 := ha.resolve_left h0
                    have e2 := ha'.resolve_left h0
                    rw [e1] at e2
                    simp only [Addr.mk.injEq, and_true, true_and] at e2
                    exact e2.symm
                  simp only [obOk]
                  refine ⟨trivial, trivial, hlc, hcm, C, t, fr, hh, huf, h2, fun h0 => by rw [← hss h0]; exact hsz h0, ?_⟩
                  by_cases h0 : c = 0
                  · have : es' = [] := List.eq_nil_of_length_eq_zero (by omega)
                    subst this
                    simp only [relEs]
                  · rw [← hss h0]; exact hre
            obtain ⟨pl, hpi, hobk, hblk⟩ := hplace
            obtain ⟨k1, k2⟩ := obs_back (nx := nx) (ob := .row es' sz') (pl := pl) hob hid hpi (fun b' hb => hfp b' (List.mem_append_left _ (hblk b' hb))) hobk
            have hdead : ∀ i ∈ ls.flatMap (·.2.2.2), upd lookB [(id, .row es' sz')] nx [] i = some .dead := by
              intro i hi
              have hne : id ≠ i := fun e => hn.2.2 id (by simp) i hi e
              have hi' := hd i (List.mem_append_right _ hi)
              simp only [upd, upLast]
              rw [if_neg hne]
              simp only [List.length_nil]
              rw [if_neg (by omega)]
              exact hi'
            have hfree : Free (upd lookB [(id, .row es' sz')] nx []) π nx nw.length := by
              intro j hj
              refine ⟨?_, (hf j hj).2⟩
              simp only [upd, upLast]
              have hne : id ≠ nx + j := fun e => hnew id hid (by omega)
              rw [if_neg hne]
              simp only [List.length_nil]
              rw [if_neg (by omega)]
              exact (hf j hj).1
            obtain ⟨π2, q1, q2, q3, q4⟩ := hout w S π (upd lookB [(id, .row es' sz')] nx []) gps' hdead hn.2.1 ho hgn.2.1 k1 (fun i hi => hz i (by simp only [List.flatMap_cons]; exact List.mem_append_right _ hi)) (fun i hi => hlv i (List.mem_append_right _ hi)) (fun b' hb => by
              obtain ⟨w1, w2, w3⟩ := hfp b' (List.mem_append_right _ hb)
              refine ⟨w1, w2, fun ho => ?_⟩
              rcases k2 b' ho with h2 | h2
              · exact w3 h2
              · exact hgn.2.2 b' (hblk b' h2) b' hb rfl) hfree
            have e2 : upd (upd lookB [(id, .row es' sz')] nx []) up nx nw = upd lookB ((id, .row es' sz') :: up) nx nw := by
              have := upd_seq lookB [(id, .row es' sz')] up nx [] nw (fun j hj => by
                simp only [upLast]
                exact if_neg fun e => hnew id hid (by simp only [List.length_nil] at e; omega))
              simpa using this
            rw [← e2]
            refine ⟨π2, q1, q2, q3, fun b' hb' => ?_⟩
            simp only [List.flatten_cons]
            rcases q4 b' hb' with h1 | h1
            · rcases k2 b' h1 with h2 | h2
              · exact .inl h2
              · exact .inr (List.mem_append_left _ (hblk b' h2))
            · exact .inr (List.mem_append_right _ h1)
        · cases h2
      · cases h1
    · cases h1

end
end Go.Proofs.YtgpjnppakffoiaaV
