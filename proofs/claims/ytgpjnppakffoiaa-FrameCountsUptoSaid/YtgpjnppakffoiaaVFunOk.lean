/- The reading machine: what is said of a function holds, if its code comes to it. -/
import Derived.Test.YtgpjnppakffoiaaVFun
namespace Go.Proofs.YtgpjnppakffoiaaV
open Go Go.RowKit

section
variable {P : Program} {T : TypeId → Option TI} {G : Nat → Option (List PV)} {Γ : FuncId → Option Ctr}

theorem results_ok (hT : TOk P T) {us0 : Rts} {w : World} {S : Nat → Prop} {π : Nat → Option Pl} {a : Act} {s : St} (hn : Now G us0 w S π a s) {fn : Func} {vs : List TV} (h : resTV T s fn.results.toList = some vs) :
    ∃ v, (results fn a.tmps).run P w = .ok v w ∧ relTV w S π (tupTV vs) v := by
  obtain ⟨us, h1, h2⟩ := resTV_ok hT hn _ vs h
  have hl := relTVs_length h2
  have hm : (results fn a.tmps).run P w = .ok (if h : us.toArray.size = 1 then us.toArray[0] else .tuple us.toArray) w := by
    have h0 : results fn a.tmps = (do let vs ← fn.results.mapM (resVal a.tmps); pure (if h : vs.size = 1 then vs[0] else .tuple vs)) := by
      unfold results
      congr 1
    rw [h0, Array.mapM_eq_mapM_toList]
    simp only [Sem.run_bind, Sem.run_map, h1, Result.andThen_ok, Sem.run_pure]
  refine ⟨_, hm, ?_⟩
  match vs, us, h2, hl with
  | [v], [u], h2, _ =>
    simp only [relTVs] at h2
    obtain ⟨u', us', he, h3, _⟩ := h2
    cases he
    simpa [tupTV] using h3
  | [], [], h2, _ => simp only [tupTV, relTV]; exact ⟨#[], by simp, by simpa using h2⟩
  | v1 :: v2 :: vs, u1 :: u2 :: us, h2, _ =>
    have hne : ¬ ((u1 :: u2 :: us).toArray.size = 1) := by simp
    rw [dif_neg hne]
    simp only [tupTV, relTV]
    exact ⟨_, rfl, by simpa using h2⟩

theorem backs_outs {w : World} {S : Nat → Prop} {π : Nat → Option Pl} {look : Nat → Option Ob} (hob : ObsOk w S π look) {S' : Nat → Prop} (hs : ∀ b, S b → S' b) : ∀ (ms : List (Option (Shp × Bool))) (us : List Value) (fps : List (List Nat)) (roots : List TV) (outs : List PV) (lent owned : List Nat),
    us.length = ms.length → fps.length = (ms.filter Option.isSome).length → expL look ((backs ms ms).map shOf) roots = some (outs, lent, owned) → relTVs w S π roots (backs ms us) → (∀ b ∈ blks π lent, S' b) →
    (∀ (i : Nat) (id : Nat), roots[i]? = some (TV.ow id) → ∀ f, (backs (ms.filter Option.isSome) fps)[i]? = some f → blks π [id] = f) → (∀ (i : Nat), (backs ms ms)[i]?.map shOf = some .s → ∃ id, roots[i]? = some (TV.ow id)) →
    ∃ gps, outsV w S' ms us fps outs gps ∧ gps.flatten = blks π owned
  | [], us, fps, roots, outs, lent, owned, hl, hf, h, hr, hb, hpl, hsl => by
    have : us = [] := List.eq_nil_of_length_eq_zero hl
    subst this
    have : fps = [] := List.eq_nil_of_length_eq_zero (by simpa using hf)
    subst this
    simp only [backs, relTVs] at hr
    cases roots with
    | cons v vs => simp only [backs, List.map_nil, expL] at h; cases h
    | nil =>
      simp only [backs, List.map_nil, expL, Option.some.injEq, Prod.mk.injEq] at h
      obtain ⟨rfl, rfl, rfl⟩ := h
      exact ⟨[], by simp [outsV], by simp [blks]⟩
  | none :: ms, [], fps, roots, outs, lent, owned, hl, hf, h, hr, hb, hpl, hsl => by simp at hl
  | none :: ms, u :: us, fps, roots, outs, lent, owned, hl, hf, h, hr, hb, hpl, hsl => by
    simp only [backs] at h hr hsl
    obtain ⟨gps, g1, g2⟩ := backs_outs hob hs ms us fps roots outs lent owned (by simpa using hl) (by simpa using hf) h hr hb (by simpa using hpl) hsl
    exact ⟨gps, by simp only [outsV]; exact ⟨u, us, rfl, g1⟩, g2⟩
  | some (sh, b) :: ms, [], fps, roots, outs, lent, owned, hl, hf, h, hr, hb, hpl, hsl => by simp at hl
  | some (sh, b) :: ms, u :: us, [], roots, outs, lent, owned, hl, hf, h, hr, hb, hpl, hsl => by simp at hf
  | some (sh, false) :: ms, u :: us, f :: fps, roots, outs, lent, owned, hl, hf, h, hr, hb, hpl, hsl => by
    simp only [backs] at h hr hsl
    have hfil : List.filter Option.isSome (some (sh, false) :: ms) = some (sh, false) :: ms.filter Option.isSome := rfl
    rw [hfil] at hpl hf
    simp only [backs] at hpl
    obtain ⟨gps, g1, g2⟩ := backs_outs hob hs ms us fps roots outs lent owned (by simpa using hl) (by simpa using hf) h hr hb hpl hsl
    exact ⟨gps, by simp only [outsV]; exact ⟨u, us, f, fps, rfl, rfl, g1⟩, g2⟩
  | some (sh, true) :: ms, u :: us, f :: fps, roots, outs, lent, owned, hl, hf, h, hr, hb, hpl, hsl => by
    simp only [backs, List.map_cons, shOf] at h hr hsl
    have hfil : List.filter Option.isSome (some (sh, true) :: ms) = some (sh, true) :: ms.filter Option.isSome := rfl
    rw [hfil] at hpl hf
    simp only [backs] at hpl
    cases roots with
    | nil => simp only [expL] at h; cases h
    | cons v vs =>
      obtain ⟨u', us', he, hr1, hr2⟩ : ∃ u' us', (u :: backs ms us) = u' :: us' ∧ relTV w S π v u' ∧ relTVs w S π vs us' := by simpa only [relTVs] using hr
      cases he
      simp only [expL] at h
      split at h
      · rename_i p l1 o1 ps' l2 o2 h1 h2
        cases h
        rw [blks_append] at hb
        obtain ⟨g1, _⟩ := exp_ok hob hs sh v u p l1 o1 h1 hr1 fun b hb2 => hb b (List.mem_append_left _ hb2)
        obtain ⟨gps, g2, g3⟩ := backs_outs hob hs ms us fps vs ps' l2 o2 (by simpa using hl) (by simpa using hf) h2 hr2 (fun b hb2 => hb b (List.mem_append_right _ hb2))
          (fun i id hi f' hf' => hpl (i + 1) id (by simpa using hi) f' (by simpa using hf')) (fun i hi => by simpa using hsl (i + 1) (by simpa using hi))
        refine ⟨blks π o1 :: gps, ?_, by rw [List.flatten_cons, g3, blks_append]⟩
        simp only [outsV]
        refine ⟨u, us, f, fps, p, ps', _, gps, rfl, rfl, rfl, rfl, g1, fun e => ?_, g2⟩
        subst e
        obtain ⟨id, hid⟩ := hsl 0 (by simp [shOf])
        simp only [List.getElem?_cons_zero, Option.some.injEq] at hid
        subst hid
        have := exp_ow h1
        subst this
        exact hpl 0 id rfl f rfl
      · cases h

theorem outs_noMem {w : World} {S S' : Nat → Prop} : ∀ {ms : List (Option (Shp × Bool))} {us : List Value} {fps : List (List Nat)} {outs : List PV} {gps : List (List Nat)}, outsV w S ms us fps outs gps → noMemL outs = true → outsV w S' ms us fps outs gps
  | [], us, fps, outs, gps, h, _ => by simp only [outsV] at h ⊢; exact h
  | none :: ms, us, fps, outs, gps, h, hn => by
    simp only [outsV] at h ⊢
    obtain ⟨u, us', h1, h2⟩ := h
    exact ⟨u, us', h1, outs_noMem h2 hn⟩
  | some (sh, false) :: ms, us, fps, outs, gps, h, hn => by
    simp only [outsV] at h ⊢
    obtain ⟨u, us', f, fps', h1, h2, h3⟩ := h
    exact ⟨u, us', f, fps', h1, h2, outs_noMem h3 hn⟩
  | some (sh, true) :: ms, us, fps, outs, gps, h, hn => by
    simp only [outsV] at h ⊢
    obtain ⟨u, us', f, fps', p, outs', g, gps', h1, h2, rfl, h4, h5, h6, h7⟩ := h
    simp only [noMemL, Bool.and_eq_true] at hn
    exact ⟨u, us', f, fps', p, outs', g, gps', h1, h2, rfl, h4, noMem_own sh p u g h5 hn.1, h6, outs_noMem h7 hn.2⟩

theorem args_length {w : World} {S : Nat → Prop} : ∀ {ms : List (Option (Shp × Bool))} {ps : List PV} {us : List Value} {fps : List (List Nat)}, argsOk w S ms ps us fps → us.length = ms.length ∧ fps.length = (ms.filter Option.isSome).length
  | [], ps, us, fps, h => by simp only [argsOk] at h; obtain ⟨_, rfl, rfl⟩ := h; simp
  | none :: ms, ps, us, fps, h => by
    simp only [argsOk] at h
    obtain ⟨p, ps', u, us', rfl, rfl, _, h2⟩ := h
    obtain ⟨g1, g2⟩ := args_length h2
    exact ⟨by simp [g1], by simpa using g2⟩
  | some m :: ms, ps, us, fps, h => by
    simp only [argsOk] at h
    obtain ⟨p, ps', u, us', f, fps', rfl, rfl, rfl, _, h2⟩ := h
    obtain ⟨g1, g2⟩ := args_length h2
    exact ⟨by simp [g1], by simpa using g2⟩

theorem rootsOk_get : ∀ {ms : List (Option (Shp × Bool))} {vs : List TV}, rootsOk ms vs = true → ms.length = vs.length → (∀ m ∈ ms, m.isSome = true) → ∀ (i : Nat), ms[i]?.map shOf = some .s → ∃ id, vs[i]? = some (TV.ow id)
  | [], vs, _, _, _, i, h => by simp at h
  | m :: ms, [], _, hl, _, _, _ => by simp at hl
  | m :: ms, v :: vs, h, hl, hs, i, hi => by
    have hs' := fun m hm => hs m (List.mem_cons_of_mem _ hm)
    have key : rootsOk ms vs = true ∧ (shOf m = .s → ∃ id, v = .ow id) := by
      cases m with
      | none => simp at hs
      | some m =>
        obtain ⟨sh, b⟩ := m
        cases sh with
        | s => cases v <;> simp only [rootsOk, Bool.false_eq_true] at h; exact ⟨h, fun _ => ⟨_, rfl⟩⟩
        | _ => exact ⟨by cases v <;> simpa only [rootsOk] using h, fun e => by simp [shOf] at e⟩
    cases i with
    | zero =>
      simp only [List.getElem?_cons_zero, Option.map_some, Option.some.injEq] at hi
      obtain ⟨id, rfl⟩ := key.2 hi
      exact ⟨id, rfl⟩
    | succ i =>
      simp only [List.getElem?_cons_succ] at hi ⊢
      exact rootsOk_get key.1 (by simpa using hl) hs' i hi

theorem backs_some : ∀ {ms : List (Option (Shp × Bool))}, ∀ m ∈ backs ms ms, m.isSome = true
  | [], m, h => by simp [backs] at h
  | none :: ms, m, h => by simp only [backs] at h; exact backs_some m h
  | some (_, false) :: ms, m, h => by simp only [backs] at h; exact backs_some m h
  | some (_, true) :: ms, m, h => by
    simp only [backs, List.mem_cons] at h
    rcases h with rfl | h
    · rfl
    · exact backs_some m h

/-- What a function gets, as memory of the call's own: each slice where it was given. -/
theorem argsImp {R : Type} : ∀ (ms : List (Option (Shp × Bool))) (ps : List PV) (nx : Nat) (k : List TV → List Ob → Option R) (r : R), impLK (ms.map shOf) ps nx k = some r → ∃ tvs obs, k tvs obs = some r ∧
    ∀ (w : World) (S : Nat → Prop) (look : Nat → Option Ob) (π : Nat → Option Pl) (us : List Value) (fps : List (List Nat)), argsOk w S ms ps us fps → fps.flatten.Nodup → ObsOk w S π look → (∀ b ∈ fps.flatten, ¬ S b ∧ b < w.heap.size ∧ ¬ owned look π b) → Free look π nx obs.length →
    ∃ π', ObsOk w S π' (upd look [] nx obs) ∧ Ext π π' ∧ (∀ id, π' id ≠ none → π id ≠ none ∨ (nx ≤ id ∧ id < nx + obs.length)) ∧ relTVs w S π' tvs us ∧ (∀ b, owned (upd look [] nx obs) π' b → owned look π b ∨ b ∈ fps.flatten) ∧
      ∀ (i id : Nat), (backs ms tvs)[i]? = some (TV.ow id) → ∀ f, (backs (ms.filter Option.isSome) fps)[i]? = some f → blks π' [id] = f
  | [], ps, nx, k, r, h => by
    simp only [List.map_nil, impLK] at h
    split at h
    · refine ⟨_, _, h, ?_⟩
      intro w S look π us fps ho hn hob hfp hf
      simp only [argsOk] at ho
      obtain ⟨rfl, rfl, rfl⟩ := ho
      exact ⟨π, by rw [upd_nil]; exact hob, Ext.refl _, fun id h => .inl h, by simp only [relTVs], fun b hb => by rw [upd_nil] at hb; exact .inl hb, fun i id h => by simp [backs] at h⟩
    · cases h
  | m :: ms, ps, nx, k, r, h => by
    simp only [List.map_cons, impLK] at h
    obtain ⟨p, hp, h'⟩ := bind_inv h
    obtain ⟨tv, obs, hk, him⟩ := imp_ok (shOf m) p nx _ r h'
    obtain ⟨tvs, obs', hk', him'⟩ := argsImp ms ps.tail _ _ r hk
    refine ⟨_, _, hk', ?_⟩
    intro w S look π us fps ho hn hob hfp hf
    have hdec : ∃ ps' u us' f fps', ps = p :: ps' ∧ us = u :: us' ∧ fps.flatten = f ++ fps'.flatten ∧ ownS w S (shOf m) p u f ∧ argsOk w S ms ps' us' fps' ∧ (m.isSome = true → fps = f :: fps') ∧ (m = none → fps = fps') := by
      cases m with
      | none =>
        simp only [argsOk] at ho
        obtain ⟨p', ps', u, us', rfl, rfl, h1, h2⟩ := ho
        simp only [List.head?_cons, Option.some.injEq] at hp
        subst hp
        exact ⟨ps', u, us', [], fps, rfl, rfl, rfl, by simp only [shOf, ownS]; exact ⟨trivial, h1⟩, h2, by simp, fun _ => rfl⟩
      | some m =>
        simp only [argsOk] at ho
        obtain ⟨p', ps', u, us', f, fps', rfl, rfl, rfl, h1, h2⟩ := ho
        simp only [List.head?_cons, Option.some.injEq] at hp
        subst hp
        exact ⟨ps', u, us', f, fps', rfl, rfl, by simp, h1, h2, fun _ => rfl, by simp⟩
    obtain ⟨ps', u, us', f1, fps', rfl, rfl, hfl, h1, h2, hsome, hnone⟩ := hdec
    rw [hfl] at hn hfp
    simp only [List.nodup_append] at hn
    simp only [List.length_append] at hf
    obtain ⟨π', g1, g2, g3, g4, g5, g6⟩ := him w S look π u f1 h1 hn.1 hob (fun b hb => hfp b (List.mem_append_left _ hb)) (fun j hj => hf j (by omega))
    obtain ⟨π'', k1, k2, k3, k4, k5, k6⟩ := him' w S _ π' us' fps' h2 hn.2.1 g1 (fun b hb => by
      obtain ⟨q1, q2, q3⟩ := hfp b (List.mem_append_right _ hb)
      exact ⟨q1, q2, fun ho => (g5 b ho).elim q3 fun h => hn.2.2 b h b hb rfl⟩) (free_step hf g3)
    refine ⟨π'', by rw [← upd_append]; exact k1, g2.trans k2, ?_, ?_, ?_, ?_⟩
    · intro id hid
      simp only [List.length_append]
      rcases k3 id hid with h1 | h1
      · rcases g3 id h1 with h2 | h2
        · exact .inl h2
        · exact .inr (by omega)
      · exact .inr (by omega)
    · simp only [relTVs]
      exact ⟨u, us', rfl, relTV_keep (keep_sub fun _ h => h) k2 _ _ g4, k4⟩
    · intro b hb
      rw [← upd_append] at hb
      rw [hfl]
      rcases k5 b hb with h1 | h1
      · rcases g5 b h1 with h2 | h2
        · exact .inl h2
        · exact .inr (List.mem_append_left _ h2)
      · exact .inr (List.mem_append_right _ h1)
    · intro i id hi f hf'
      cases m with
      | none =>
        rw [hnone rfl] at hf'
        have : List.filter Option.isSome ((none : Option (Shp × Bool)) :: ms) = ms.filter Option.isSome := rfl
        rw [this] at hf'
        simp only [backs] at hi
        exact k6 i id hi f hf'
      | some m =>
        obtain ⟨sh, b⟩ := m
        rw [hsome rfl] at hf'
        have : List.filter Option.isSome (some (sh, b) :: ms) = some (sh, b) :: ms.filter Option.isSome := rfl
        rw [this] at hf'
        cases b with
        | false =>
          simp only [backs] at hi hf'
          exact k6 i id hi f hf'
        | true =>
          simp only [backs] at hi hf'
          cases i with
          | zero =>
            simp only [List.getElem?_cons_zero, Option.some.injEq] at hi hf'
            subst hf'
            have h0 := g6 id hi
            rw [← h0]
            refine blks_congr fun j hj => ?_
            simp only [List.mem_singleton] at hj
            subst hj
            rw [hi] at g4
            simp only [relTV] at g4
            rcases g4 with ⟨q, _⟩ | ⟨_, _, _, _, _, _, q, _⟩ <;> rw [q, k2 _ _ q]
          | succ i =>
            simp only [List.getElem?_cons_succ] at hi hf'
            exact k6 i id hi f hf'

theorem fun_ok (hm : P.follows .mixedOrders = true) (hT : TOk P T) (hΓ : ∀ g c, Γ g = some c → Holds P G g c) {f : FuncId} {fn : Func} {c : Ctr} {F : Fun} (hf : P.funcs[f]? = some fn) (hb : fn.body = some F.code) (hnt : fn.ntmps = F.ntmps) (hrs : fn.results.toList = F.results) (hname : (fn.name == "runtime.NumGoroutine") = false)
    (hF : ∀ ps x, c.F ps = some x → ∃ Λ, LoopsOk P G Λ (loopsOf F.code) ∧ funK T G Γ Λ c.res c.scal c.modes F ps = some x) : Holds P G f c := by
  intro w S ps us fps r outs hargs hnd hfp hst hgo hx
  obtain ⟨Λ, hΛ, hk⟩ := hF ps _ hx
  have hcall : (callFunc f us.toArray).run P w = .ok (.enter f us.toArray) w := by
    simp only [beq_eq_false_iff_ne] at hname
    simp [callFunc, hf, hname, hb]
  unfold Applies
  rw [hcall]
  simp only
  refine calls_of_wp hf hb ?_
  unfold funK at hk
  obtain ⟨tvs, obs, hrun, him⟩ := argsImp _ _ _ _ _ hk
  have hob0 : ObsOk w S (fun _ => none) (fun _ => none) := ⟨fun _ _ h => (by cases h), fun _ _ _ _ _ _ _ h => (by cases h), fun b h => (by obtain ⟨_, _, _, h, _⟩ := h; cases h), hst⟩
  obtain ⟨π, g1, g2, g3, g4, g5, g6⟩ := him w S (fun _ => none) (fun _ => none) us fps hargs hnd hob0 (fun b hb => ⟨(hfp b hb).1, (hfp b hb).2, by rintro ⟨_, _, _, h, _⟩; cases h⟩) (fun _ _ => ⟨rfl, rfl⟩)
  have hlk : upd (fun _ => none) [] 0 obs = fun i => obs[i]? := by
    funext i
    simp only [upd, upLast, Nat.zero_le, true_and, Nat.zero_add, Nat.sub_zero]
    split
    · rfl
    · rename_i h; rw [List.getElem?_eq_none (by omega)]
  rw [hlk] at g1 g5
  have hc := run_ok hm hT hΓ F.code hΛ _ _ _ hrun
  have hlen := relTVs_length g4
  let rts : Rts := ⟨backs c.modes us, (backs c.modes tvs).map fun v => match v with | .ow id => π id | _ => none⟩
  have hn : Now G rts w S π { tmps := us.toArray ++ Array.replicate (fn.ntmps - us.toArray.size) undef, defers := [] } ⟨tvs ++ List.replicate (F.ntmps - tvs.length) .undef, obs, backs c.modes tvs⟩ := by
    refine ⟨rfl, ?_, ?_, g1, ?_, backs_rel g4, ?_, hgo⟩
    · simp [hlen, hnt]
    · intro i v hv
      rw [List.getElem?_append] at hv
      split at hv
      · rename_i hi
        obtain ⟨u, hu, hr⟩ := relTVs_get g4 hv
        have : (us.toArray ++ Array.replicate (fn.ntmps - us.toArray.size) undef).getD i undef = u := by
          rw [Array.getD_eq_getD_getElem?, Array.getElem?_append_left (by simpa [← hlen] using hi)]
          simp [hu]
        rw [this]
        exact hr
      · rw [List.getElem?_replicate] at hv
        split at hv
        · cases hv; simp only [relTV]
        · cases hv
    · intro id hid
      rcases g3 id hid with h | h
      · exact absurd rfl h
      · simpa using h.2
    · intro i id hi
      simp only [rts, List.getElem?_map, hi, Option.map_some, and_true]
      obtain ⟨u, _, hr⟩ := relTVs_get (backs_rel (ms := c.modes) g4) hi
      simp only [relTV] at hr
      rcases hr with ⟨h, _⟩ | ⟨b, s, c, z, l, a, h, _⟩ <;> rw [h] <;> simp
  refine wp_mono (hc rts w S π _ hn (fun ex a' w' => ∃ e s', ex = exOf e ∧ (match (motive := Ex → Option (PV × List PV)) e with | .exit _ => none | _ => finK T c.res c.scal c.modes F s') = some (r, outs) ∧ Goes G rts w S π ⟨tvs ++ List.replicate (F.ntmps - tvs.length) .undef, obs, backs c.modes tvs⟩ a' w' s') fun e s' he a' w' hg => ⟨e, s', rfl, (by cases e <;> exact he), hg⟩) ?_
  rintro ex a' w' ⟨e, s', hex, he, S1, π1, hn1, hs1⟩
  subst hex
  have fin : finK T c.res c.scal c.modes F s' = some (r, outs) → ∃ v, (results fn a'.tmps).run P w' = .ok v w' ∧ ∃ v', Ending.returned v = .returned v' ∧ ∃ S' g gps, Behind w S fps c us r outs v' w' S' g gps := by
    intro hfin
    unfold finK at hfin
    split at hfin
    · cases hfin
    rename_i vs hvs
    obtain ⟨v, hv1, hv2⟩ := results_ok (fn := fn) hT hn1 (by rw [hrs]; exact hvs)
    split at hfin
    case h_2 => cases hfin
    rename_i r' outs' lent owned hexp
    split at hfin
    case isFalse => cases hfin
    rename_i hchk
    simp only [Bool.and_eq_true] at hchk
    obtain ⟨⟨hnd1, hnd2⟩, hroots⟩ := hchk
    have hro : r' = r ∧ outs' = outs ∧ (c.scal = true → noMem r = true ∧ noMemL outs = true) := by
      split at hfin
      · rename_i hsc
        cases hfin
        exact ⟨rfl, rfl, fun h => by rw [hsc] at h; cases h⟩
      · split at hfin
        · rename_i hm
          cases hfin
          simp only [Bool.and_eq_true] at hm
          exact ⟨rfl, rfl, fun _ => hm⟩
        · cases hfin
    obtain ⟨rfl, rfl, hmem⟩ := hro
    have hlive := (expL_ok (S' := fun b => S1 b ∨ b ∈ blks π1 lent) hn1.ob (fun b hb => .inl hb) _ _ (v :: backs c.modes us) _ _ _ hexp (by simp only [relTVs]; exact ⟨v, _, rfl, hv2, hn1.roots⟩) (fun b hb => .inr hb)).2
    have hrl := relTVs_length hn1.roots
    simp only [expL] at hexp
    split at hexp
    case h_2 => cases hexp
    rename_i p l1 o1 ps' l2 o2 hx1 hx2
    cases hexp
    have hlens := args_length hargs
    obtain ⟨hown1, _⟩ := exp_ok (S' := fun b => S1 b ∨ b ∈ blks π1 (l1 ++ l2)) hn1.ob (fun b hb => .inl hb) c.res _ v _ l1 o1 hx1 hv2 (fun b hb => .inr (by rw [blks_append]; exact List.mem_append_left _ hb))
    have hbl : ∀ {α β : Type} (ms : List (Option (Shp × Bool))) (xs : List α) (ys : List β), xs.length = ms.length → ys.length = ms.length → (backs ms xs).length = (backs ms ys).length := by
      intro α β ms
      induction ms with
      | nil => intro xs ys h1 h2; simp [backs]
      | cons m ms ih =>
        intro xs ys h1 h2
        cases xs with
        | nil => simp at h1
        | cons x xs =>
          cases ys with
          | nil => simp at h2
          | cons y ys =>
            simp only [List.length_cons, Nat.add_right_cancel_iff] at h1 h2
            have := ih xs ys h1 h2
            cases m with
            | none => simpa only [backs] using this
            | some m => obtain ⟨a, b⟩ := m; cases b <;> simp only [backs, List.length_cons, this]
    obtain ⟨gps, hg1, hg2⟩ := backs_outs (S' := fun b => S1 b ∨ b ∈ blks π1 (l1 ++ l2)) hn1.ob (fun b hb => .inl hb) c.modes us fps s'.roots _ l2 o2 hlens.1 hlens.2 hx2 hn1.roots (fun b hb => .inr (by rw [blks_append]; exact List.mem_append_right _ hb))
      (fun i id hi f hf' => by
        obtain ⟨q1, q2⟩ := hn1.places i id hi
        simp only [rts, List.getElem?_map] at q2
        cases hq : (backs c.modes tvs)[i]? with
        | none => rw [hq] at q2; cases q2
        | some tv =>
          rw [hq] at q2
          simp only [Option.map_some, Option.some.injEq] at q2
          cases tv with
          | ow id0 =>
            have := g6 i id0 hq f hf'
            rw [← this]
            simp only [blks, List.filterMap_cons, ← q2, List.filterMap_nil]
          | _ => exact absurd q2.symm q1)
      (fun i hi => rootsOk_get hroots (by rw [hrl]; exact hbl _ _ _ rfl hlens.1) backs_some i hi)
    refine ⟨v, hv1, v, rfl, (fun b => S1 b ∨ b ∈ blks π1 (l1 ++ l2)), blks π1 o1, gps, ?_⟩
    have hownO : ∀ b ∈ blks π1 (o1 ++ o2), s'.own π1 b := blks_lt hn1.ob fun i hi => hlive i (List.mem_append_right _ hi)
    have hownT : ∀ b ∈ blks π1 (l1 ++ l2), s'.own π1 b := blks_lt hn1.ob fun i hi => hlive i (List.mem_append_left _ hi)
    have hstart : ∀ b, St.own ⟨tvs ++ List.replicate (F.ntmps - tvs.length) .undef, obs, backs c.modes tvs⟩ π b → b ∈ fps.flatten := fun b hb => (g5 b hb).elim (by rintro ⟨_, _, _, h, _⟩; cases h) id
    have hback : ∀ b, s'.own π1 b → b ∈ fps.flatten ∨ w.heap.size ≤ b := fun b hb => (hs1.own b hb).imp (hstart b) id
    have hnodup : (blks π1 (o1 ++ o2)).Nodup := blks_nodup hn1.ob (noDup_ok hnd1) fun i hi => hlive i (List.mem_append_right _ hi)
    refine ⟨hs1.os, hs1.tape, hs1.output, hs1.size, fun b hlt hno => hs1.same b hlt fun h => hno (hstart b h), fun b hb => .inl (hs1.sub b hb), fun b hb => ?_, fun b hb => ?_, ?_, fun b hb => ?_, fun S'' hS'' => ?_⟩
    · rcases hb with hb | hb
      · rcases hs1.stab b hb with h | h | h
        · exact .inl h
        · exact .inr (.inl (hstart b h))
        · exact .inr (.inr h)
      · exact .inr (hback b (hownT b hb))
    · rcases hb with hb | hb
      · exact hn1.ob.st b hb
      · exact (hn1.ob.out b (hownT b hb)).2
    · rw [hg2, ← blks_append]; exact hnodup
    · rw [hg2, ← blks_append] at hb
      refine ⟨fun h => ?_, (hn1.ob.out b (hownO b hb)).2, hback b (hownO b hb)⟩
      rcases h with h | h
      · exact (hn1.ob.out b (hownO b hb)).1 h
      · obtain ⟨i, hi, pi, hpi, hbi⟩ := mem_blks.1 hb
        obtain ⟨j, hj, pj, hpj, hbj⟩ := mem_blks.1 h
        obtain ⟨x, hx, hxl⟩ := hlive i (List.mem_append_right _ hi)
        obtain ⟨y, hy, hyl⟩ := hlive j (List.mem_append_left _ hj)
        have := hn1.ob.apart i j x y pi pj b hx hy hxl hyl hpi hpj hbi hbj
        subst this
        simp only [List.all_eq_true] at hnd2
        have := hnd2 i hj
        simp only [List.contains_eq_mem, hi, decide_true, Bool.not_true, Bool.false_eq_true] at this
    · rcases hS'' with rfl | hsc
      · exact ⟨hown1, hg1⟩
      · obtain ⟨m1, m2⟩ := hmem hsc
        exact ⟨noMem_own _ _ _ _ hown1 m1, outs_noMem hg1 m2⟩
  cases e with
  | normal => exact ⟨hn1.df, fin he⟩
  | ret => exact ⟨hn1.df, fin he⟩
  | exit i => cases he

end
end Go.Proofs.YtgpjnppakffoiaaV
