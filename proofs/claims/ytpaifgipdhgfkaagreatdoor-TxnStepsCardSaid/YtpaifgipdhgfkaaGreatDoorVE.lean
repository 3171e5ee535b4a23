/- The reading machine: regions, code, functions. -/
import Derived.Maps.RangeRun
import Derived.Test.YtpaifgipdhgfkaaGreatDoorVD
import Derived.OrdersHeld
import Derived.Orders
set_option linter.unusedVariables false
set_option linter.unusedSimpArgs false

/- The reading machine: code is told rightly. -/
namespace Go.Proofs.YtpaifgipdhgfkaaGreatDoorV
open Go Go.RowKit

/-- What stands in a list of callees for a variable that is never written behind its beginning. -/
def ro_I : Cal := .inl fun _ _ _ _ => none

theorem constTV_rel {w : World} {S : Nat → Prop} {π : Nat → Option Pl} {v : Value} {x : TV} (h : constTV v = some x) : relTV w S π x v := by
  unfold constTV at h
  split at h <;> first | (cases h; done) | (simp only [Option.some.injEq] at h; subst h; simp only [relTV, rel])

theorem nrm1_rel {look : Nat → Option Ob} {w : World} {S : Nat → Prop} {π : Nat → Option Pl} {v : TV} {u : Value} (hob : ObsOk w S π look) (h : relTV w S π v u) : relTV w S π (nrm1 look v) u := by
  unfold nrm1
  split
  · rename_i id
    split
    · rename_i es hl
      obtain ⟨g1, _⟩ := reify_ok (S' := S) hob (fun _ h => h) 100 (.ow id) u (.fs es) [] (by simp only [reify, hl]) h (by simp [blks])
      simpa only [relTV] using g1
    · exact h
  · rename_i id off len cp
    split
    · rename_i es hl
      obtain ⟨g1, _⟩ := reify_ok (S' := S) hob (fun _ h => h) 100 (.sl id off len cp) u (.fs ((es.drop off).take len)) [] (by simp only [reify, hl]) h (by simp [blks])
      simpa only [relTV] using g1
    · rename_i cs hl
      split
      · rename_i hc
        obtain ⟨g1, _⟩ := reify_ok (S' := S) hob (fun _ h => h) 100 (.sl id off len cp) u (.fs (cs.map fun p => [p])) [] (by simp only [reify, hl]; rw [if_pos hc]) h (by simp [blks])
        simpa only [relTV] using g1
      · exact h
    · exact h
  · rename_i id off
    split
    · rename_i cs hl
      obtain ⟨g1, _⟩ := reify_ok (S' := S) hob (fun _ h => h) 100 (.ref id off) u (.rp cs off) [] (by simp only [reify, hl]) h (by simp [blks])
      simpa only [relTV] using g1
    · exact h
  · rename_i id i j
    split
    · rename_i es hl
      split
      · rename_i e he
        simp only [relTV] at h ⊢
        obtain ⟨b, s, c, z, l, hp, hv⟩ := h
        obtain ⟨pl, hp', hk⟩ := hob.ok id _ hl
        rw [hp] at hp'; cases hp'
        simp only [obOk] at hk
        obtain ⟨rfl, h1, h2, hS, hr⟩ := hk
        obtain ⟨h3, h4⟩ := relEs_get hr he
        simp only [rel]
        exact ⟨b, s + i * z, hv, hS, h4⟩
      · exact h
    · exact h
  · rename_i id
    split
    · rename_i kvs hl
      obtain ⟨g1, _⟩ := reify_ok (S' := S) hob (fun _ h => h) 100 (.mp id) u (.fm kvs) [] (by simp only [reify, hl]) h (by simp [blks])
      simpa only [relTV] using g1
    · exact h
  · exact h
theorem nrm_rel {look : Nat → Option Ob} {w : World} {S : Nat → Prop} {π : Nat → Option Pl} {v : TV} {u : Value} (hob : ObsOk w S π look) (h : relTV w S π v u) : relTV w S π (nrm look v) u := by
  unfold nrm
  split
  · rename_i cs
    simp only [relTV] at h
    obtain ⟨us, rfl, h1, h2⟩ := h
    have h3 : relTVs w S π (cs.map (nrm1 look)) us.toList := by
      refine relTVs_of (by simp [relTVs_length h2]) fun i p u hp hu => ?_
      rw [List.getElem?_map] at hp
      cases hq : cs[i]? with
      | none => rw [hq] at hp; cases hp
      | some q =>
        rw [hq] at hp
        cases hp
        obtain ⟨u', k1, k2⟩ := relTVs_get h2 hq
        rw [k1] at hu
        cases hu
        exact nrm1_rel hob k2
    have h4 := packTV_rel h3 h1
    simpa using h4
  · exact nrm1_rel hob h

/-- What the caller has lent: its values, and where they stand. -/
structure Rts where
  us : List Value
  pls : List (Option Pl)

/-- A frame as it is now. -/
structure Now (G : Nat → Option (List PV)) (us0 : Rts) (w : World) (S : Nat → Prop) (π : Nat → Option Pl) (a : Act) (s : St) : Prop where
  df : a.defers = []
  len : s.tm.length = a.tmps.size
  tm : ∀ i v, s.tm[i]? = some v → relTV w S π v (a.tmps.getD i undef)
  ob : ObsOk w S π (fun i => s.ob[i]?)
  pl : ∀ id, π id ≠ none → id < s.ob.length
  roots : relTVs w S π s.roots us0.us
  places : ∀ (i id : Nat), s.roots[i]? = some (TV.ow id) → π id ≠ none ∧ us0.pls[i]? = some (π id)
  go : GOk G w S

def St.own (s : St) (π : Nat → Option Pl) : Nat → Prop := owned (fun i => s.ob[i]?) π

section
variable {P : Program} {T : TypeId → Option TI} {G : Nat → Option (List PV)} {Γ : FuncId → Option Cal} {us0 : Rts}

theorem Now.ev {w : World} {S : Nat → Prop} {π : Nat → Option Pl} {a : Act} {s : St} (h : Now G us0 w S π a s) : evOk (evS G s) a w S π := by
  intro x v hx
  unfold evS at hx
  split at hx
  · rename_i y hy
    cases hx
    refine nrm_rel h.ob ?_
    cases x with
    | tmp t => exact h.tm t y hy
    | const c => exact constTV_rel hy
    | global g =>
      simp only [evalO] at hy
      split at hy
      · rename_i cs hg
        cases hy
        simp only [relTV, rel]
        obtain ⟨h1, h2, _⟩ := h.go g cs hg
        exact ⟨g, 0, rfl, h1, h2⟩
      · cases hy
    | func f =>
      simp only [evalO, Option.some.injEq] at hy
      subst hy
      simp only [relTV, rel]
      exact ⟨#[], rfl, by simp [relL]⟩
  · cases hx

theorem ev_glob {s : St} : ∀ g cs, G g = some cs → evS G s (.global g) = some (.val (.rp cs 0)) := by
  intro g cs hg
  simp only [evS, evalO, hg, nrm, nrm1]

theorem setOb_get : ∀ (up : List (Nat × Ob)) (ob : List Ob) (i : Nat), (up.all fun x => decide (x.1 < ob.length)) = true → (setOb ob up)[i]? = match upLast up i with | some x => some x | none => ob[i]?
  | [], ob, i, _ => rfl
  | (j, x) :: up, ob, i, h => by
    simp only [List.all_cons, Bool.and_eq_true, decide_eq_true_eq] at h
    simp only [setOb, upLast]
    rw [setOb_get up (ob.set j x) i (by simpa using h.2)]
    cases hu : upLast up i with
    | some y => rfl
    | none =>
      simp only [List.getElem?_set]
      by_cases e : j = i
      · subst e; simp [h.1]
      · simp [e]
theorem setOb_length : ∀ (up : List (Nat × Ob)) (ob : List Ob), (setOb ob up).length = ob.length
  | [], ob => rfl
  | (j, x) :: up, ob => by simp only [setOb, setOb_length up, List.length_set]

theorem put_look {s : St} {d : Option Nat} {v : TV} {up : List (Nat × Ob)} {nw : List Ob} (h : (up.all fun x => decide (x.1 < s.ob.length)) = true) : (fun i => (s.put d v up nw).ob[i]?) = upd (fun i => s.ob[i]?) up s.ob.length nw := by
  funext i
  simp only [St.put, upd]
  rw [List.getElem?_append]
  rw [setOb_length]
  by_cases hi : i < s.ob.length
  · rw [if_pos hi, setOb_get up s.ob i h]
    cases hu : upLast up i with
    | some x => rfl
    | none => simp only; rw [if_neg (by omega)]
  · rw [if_neg hi]
    have hu : upLast up i = none := by
      cases hu : upLast up i with
      | none => rfl
      | some x =>
        exfalso
        have : ∀ (up : List (Nat × Ob)), (up.all fun x => decide (x.1 < s.ob.length)) = true → upLast up i = some x → i < s.ob.length := by
          intro up
          induction up with
          | nil => intro _ h; simp [upLast] at h
          | cons y up ih =>
            obtain ⟨j, z⟩ := y
            intro h1 h2
            simp only [List.all_cons, Bool.and_eq_true, decide_eq_true_eq] at h1
            simp only [upLast] at h2
            split at h2
            · rename_i hh; cases h2; exact ih h1.2 hh
            · split at h2
              · rename_i e; subst e; exact h1.1
              · cases h2
        exact hi (this up h hu)
    rw [hu]
    simp only
    by_cases h2 : s.ob.length ≤ i ∧ i < s.ob.length + nw.length
    · rw [if_pos h2]
    · rw [if_neg h2, List.getElem?_eq_none (by omega), List.getElem?_eq_none (by omega)]

theorem Now.put {w w' : World} {S S' : Nat → Prop} {π π' : Nat → Option Pl} {a : Act} {s : St} (h : Now G us0 w S π a s) {v : TV} {up : List (Nat × Ob)} {nw : List Ob} {u : Value} {d : Option Nat} (hup : (up.all fun x => decide (x.1 < s.ob.length)) = true)
    (hA : After w S π (fun i => s.ob[i]?) s.ob.length v up nw u w' S' π') : Now G us0 w' S' π' (a.put d u) (s.put d v up nw) := by
  have hk := hA.step.keep h.ob
  refine ⟨?_, ?_, ?_, ?_, ?_, ?_, ?_, ?_⟩
  · cases d <;> exact h.df
  · cases d with
    | none => exact h.len
    | some d => simp only [Act.put, St.put, List.length_set, Array.size_setIfInBounds]; exact h.len
  · intro i x hx
    cases d with
    | none => exact relTV_keep hk hA.ext _ _ (h.tm i x hx)
    | some d =>
      simp only [St.put, List.getElem?_set] at hx
      simp only [Act.put]
      by_cases e : d = i
      · subst e
        rw [if_pos rfl] at hx
        split at hx
        · rename_i hd
          cases hx
          have : (a.tmps.setIfInBounds d u).getD d undef = u := by
            simp only [Array.getD_eq_getD_getElem?, Array.getElem?_setIfInBounds, if_true]
            rw [if_pos (by rw [← h.len]; exact hd)]
            rfl
          rw [this]
          exact hA.v
        · cases hx
      · rw [if_neg e] at hx
        have : (a.tmps.setIfInBounds d u).getD i undef = a.tmps.getD i undef := by
          simp only [Array.getD_eq_getD_getElem?, Array.getElem?_setIfInBounds]
          rw [if_neg e]
        rw [this]
        exact relTV_keep hk hA.ext _ _ (h.tm i x hx)
  · rw [put_look hup]; exact hA.obs
  · intro id hid
    simp only [St.put, List.length_append, setOb_length]
    rcases hA.only id hid with h1 | h1
    · have := h.pl id h1; omega
    · exact h1.2
  · exact relTVs_keep hk hA.ext _ _ h.roots
  · intro i id hi
    obtain ⟨h1, h2⟩ := h.places i id hi
    cases hp : π id with
    | none => exact absurd hp h1
    | some q => rw [hA.ext _ _ hp]; exact ⟨by simp, by rw [h2, hp]⟩
  · exact h.go.keep hk

theorem Now.free {w : World} {S : Nat → Prop} {π : Nat → Option Pl} {a : Act} {s : St} (h : Now G us0 w S π a s) (n : Nat) : Free (fun i => s.ob[i]?) π s.ob.length n := by
  intro j _
  refine ⟨List.getElem?_eq_none (by omega), ?_⟩
  cases hp : π (s.ob.length + j) with
  | none => rfl
  | some q => have := h.pl (s.ob.length + j) (by rw [hp]; simp); omega

/-- From one state to another. -/
def Goes (G : Nat → Option (List PV)) (us0 : Rts) (w : World) (S : Nat → Prop) (π : Nat → Option Pl) (s : St) (a' : Act) (w' : World) (s' : St) : Prop :=
  ∃ S' π', Now G us0 w' S' π' a' s' ∧ Step w S (s.own π) w' S' (s'.own π')

/-- A callee's own code, run in a frame of its own beside the caller's. -/
def InlOk (P : Program) (G : Nat → Option (List PV)) (g : FuncId) (f : (R : Type) → St → List TV → (TV → St → Option R) → Option R) : Prop :=
  ∀ (R : Type) (s : St) (args : List TV) (k : TV → St → Option R) (r : R), f R s args k = some r →
    ∀ us0 w S π a, Now G us0 w S π a s → ∀ us : List Value, relTVs w S π args us →
      Applies P g us.toArray w fun u w' => ∃ tv s' S' π', k tv s' = some r ∧ Now G us0 w' S' π' a s' ∧ relTV w' S' π' tv u ∧ Step w S (s.own π) w' S' (s'.own π')

def CalOk (P : Program) (G : Nat → Option (List PV)) (g : FuncId) : Cal → Prop
  | .ctr c => Holds P G g c
  | .inl f => InlOk P G g f

theorem ro_all {P : Program} {G : Nat → Option (List PV)} {g : FuncId} : CalOk P G g ro_I := fun _ _ _ _ _ h => by cases h

/-- What is called is told rightly. -/
structure CalsOk (P : Program) (G : Nat → Option (List PV)) (Γ : FuncId → Option Cal) : Prop where
  ctr : ∀ g c, Γ g = some (.ctr c) → Holds P G g c
  inl : ∀ g f, Γ g = some (.inl f) → InlOk P G g f

/-- Memory of the call's own that is to be read from now on. -/
theorem frz_ok {w : World} {S : Nat → Prop} {π : Nat → Option Pl} {a : Act} {s : St} (hn : Now G us0 w S π a s) {ids : List Nat} (hl : ∀ i ∈ ids, ∃ x, s.ob[i]? = some x ∧ x.live = true) : Goes G us0 w S π s a w (frzSt ids s) := by
  unfold frzSt
  cases he : ids.isEmpty with
  | true => rw [cond_true]; exact ⟨S, π, hn, Step.refl _ _ _⟩
  | false =>
    rw [cond_false]
    have hin : ((froAll (fun i => s.ob[i]?) ids).all fun x => decide (x.1 < s.ob.length)) = true := by
      simp only [froAll, List.all_map, List.all_eq_true, Function.comp, decide_eq_true_eq]
      intro i hi
      obtain ⟨x, hx, _⟩ := hl i hi
      exact (List.getElem?_eq_some_iff.1 hx).1
    let S' : Nat → Prop := fun b => S b ∨ b ∈ blks π ids
    have hk : Keep w S w S' := keep_sub fun _ h => .inl h
    have hlook : ∀ i, (setOb s.ob (froAll (fun i => s.ob[i]?) ids))[i]? = if i ∈ ids then some (froOb (fun i => s.ob[i]?) ids i) else s.ob[i]? := by
      intro i
      rw [setOb_get _ _ _ hin]
      simp only [froAll, upLast_fro]
      by_cases h : i ∈ ids
      · simp [h]
      · simp [h]
    have hbl := blks_lt hn.ob (ids := ids) hl
    have hob : ObsOk w S' π (fun i => (setOb s.ob (froAll (fun i => s.ob[i]?) ids))[i]?) := by
      refine obs_gen hn.ob hk (Ext.refl _) (fun b hb => ?_) (Nat.le_refl _) (fun id => id ∉ ids) ?_ ?_
      · rcases hb with hb | hb
        · exact hn.ob.st b hb
        · exact (hn.ob.out b (hbl b hb)).2
      · intro id h1
        refine ⟨by rw [hlook, if_neg h1], fun x pl b hx hlv hp hb => ⟨rfl, ?_⟩⟩
        rintro (h2 | h2)
        · exact (hn.ob.out b ⟨id, x, pl, hx, hlv, hp, hb⟩).1 h2
        · obtain ⟨j, hj, pj, hpj, hbj⟩ := mem_blks.1 h2
          obtain ⟨y, hy, hyl⟩ := hl j hj
          have := hn.ob.apart id j x y pl pj b hx hy hlv hyl hp hpj hb hbj
          subst this
          exact h1 hj
      · intro id x hx hno
        have h1 : id ∈ ids := Classical.not_not.1 hno
        rw [hlook, if_pos h1] at hx
        cases hx
        obtain ⟨y, hy, _⟩ := hl id h1
        obtain ⟨pl, hp, _⟩ := hn.ob.ok id y hy
        exact ⟨pl, hp, froOb_ok hn.ob h1 hp (fun _ h => .inl h) (fun b hb => .inr hb) (fun _ _ => rfl), fun b hl => by rw [froOb_dead] at hl; cases hl⟩
    refine ⟨S', π, ⟨hn.df, hn.len, fun i v hv => relTV_keep hk (Ext.refl _) _ _ (hn.tm i v hv), hob, fun id h => by rw [setOb_length]; exact hn.pl id h, relTVs_keep hk (Ext.refl _) _ _ hn.roots, hn.places, hn.go.keep hk⟩, ?_⟩
    refine ⟨rfl, rfl, rfl, Nat.le_refl _, fun _ _ _ => rfl, fun _ h => .inl h, fun b hb => ?_, fun b hb => ?_⟩
    · rcases hb with hb | hb
      · exact .inl hb
      · exact .inr (.inl (hbl b hb))
    · obtain ⟨id, x, pl, h1, h2, h3, h4⟩ := hb
      replace h1 := (hlook id).symm.trans h1
      by_cases h : id ∈ ids
      · rw [if_pos h] at h1; cases h1; rw [froOb_dead] at h2; cases h2
      · rw [if_neg h] at h1; exact .inl ⟨id, x, pl, h1, h2, h3, h4⟩

theorem frzIds_live {w : World} {S : Nat → Prop} {π : Nat → Option Pl} {a : Act} {s : St} (hn : Now G us0 w S π a s) {v : TV} {u : Value} (hr : relTV w S π v u) : ∀ i ∈ frzIds (fun i => s.ob[i]?) v, ∃ x, s.ob[i]? = some x ∧ x.live = true := by
  unfold frzIds
  split
  · rename_i p ids h
    exact (reify_ok (S' := fun b => S b ∨ b ∈ blks π ids) hn.ob (fun _ h => .inl h) 100 v u p ids h hr fun b hb => .inr hb).2.1
  · intro i hi; cases hi
theorem frzOf_live {w : World} {S : Nat → Prop} {π : Nat → Option Pl} {a : Act} {s : St} (hn : Now G us0 w S π a s) (o : Op) : ∀ i ∈ frzOf (fun i => s.ob[i]?) (evS G s) o, ∃ x, s.ob[i]? = some x ∧ x.live = true := by
  unfold frzOf
  split
  · intro i hi
    obtain ⟨x, _, hi⟩ := List.mem_flatMap.1 hi
    split at hi
    · rename_i v hv; exact frzIds_live hn (hn.ev _ _ hv) i hi
    · cases hi
  · split
    · split
      · rename_i v hv; exact frzIds_live hn (hn.ev _ _ hv)
      · intro i hi; cases hi
    · intro i hi; cases hi
  · split
    · rename_i v hv; exact frzIds_live hn (hn.ev _ _ hv)
    · intro i hi; cases hi
  · split
    · rename_i v hv; exact frzIds_live hn (hn.ev _ _ hv)
    · intro i hi; cases hi
  · intro i hi; cases hi

theorem inlOf_inv {s : St} {o : Op} {x} (h : inlOf Γ (evS G s) o = some x) : ∃ c F args caps g, o = .call c ∧ c.callee = .value F ∧ allSome (c.args.toList.map (evS G s)) = some args ∧ x.2 = args ++ caps ∧ Γ g = some (.inl x.1) ∧
    (evS G s F = some (.fn (.func g) caps) ∨ ∃ ps, caps = ps.map .val ∧ evS G s F = some (.val (.fn (.func g) ps))) := by
  unfold inlOf at h
  split at h
  case h_2 => cases h
  rename_i c
  split at h
  case h_2 => cases h
  rename_i F hF
  split at h
  · rename_i args g caps ha hf
    split at h
    · rename_i f hg; cases h; exact ⟨c, F, args, _, g, rfl, hF, ha, rfl, hg, .inr ⟨_, rfl, hf⟩⟩
    · cases h
  · rename_i args g caps ha hf
    split at h
    · rename_i f hg; cases h; exact ⟨c, F, args, _, g, rfl, hF, ha, rfl, hg, .inl hf⟩
    · cases h
  · cases h

theorem inl_ok {R : Type} (hΓ : CalsOk P G Γ) {o : Oper} {s : St} {x} (hx : inlOf Γ (evS G s) o.op = some x) {k : TV → St → Option R} {r : R} (h : x.1 R s x.2 k = some r)
    {w : World} {S : Nat → Prop} {π : Nat → Option Pl} {a : Act} (hn : Now G us0 w S π a s) (K : Act → World → Prop) (Q : Exit → Act → World → Prop)
    (hK : ∀ tv s' a' w', k tv s' = some r → Goes G us0 w S π s a' w' (s'.put o.dst tv [] []) → K a' w') : o.wp P a w K Q := by
  obtain ⟨c, F, args, caps, g, ho, hc, hargs, hx2, hg, hF⟩ := inlOf_inv hx
  obtain ⟨us, he, hcaps⟩ : ∃ us, a.eval F = .func (.func g) #[] us ∧ relTVs w S π caps us.toList := by
    rcases hF with hF | ⟨ps, rfl, hF⟩
    · have := hn.ev F _ hF
      simp only [relTV] at this
      exact this
    · have := hn.ev F _ hF
      simp only [relTV, rel] at this
      obtain ⟨us, he, hr⟩ := this
      exact ⟨us, he, relTVs_vals hr⟩
  have hrel := relTVs_append (evOk_all hn.ev hargs) hcaps
  rw [← hx2] at hrel
  have happ := hΓ.inl g _ hg R s x.2 k r h us0 w S π a hn _ hrel
  have hexec : (execOp a.eval o).run P w = (callFunc g (c.args.map a.eval ++ us)).run P w := by
    simp [execOp, ho, resolve, hc, he, Deferred.ofValue, invoke]
  have harr : (List.map a.eval c.args.toList ++ us.toList).toArray = c.args.map a.eval ++ us := by
    apply Array.ext'
    simp
  rw [harr] at happ
  have fin : ∀ u w', (∃ tv s' S' π', k tv s' = some r ∧ Now G us0 w' S' π' a s' ∧ relTV w' S' π' tv u ∧ Step w S (s.own π) w' S' (s'.own π')) → K (a.put o.dst u) w' := by
    rintro u w' ⟨tv, s', S', π', h1, h2, h3, h4⟩
    refine hK tv s' _ w' h1 ⟨S', π', h2.put (by rfl) (⟨h3, by rw [upd_nil]; exact h2.ob, Ext.refl _, fun id h => .inl h, by rw [upd_nil]; exact Step.refl _ _ _⟩ : After w' S' π' (fun i => s'.ob[i]?) s'.ob.length tv [] [] u w' S' π'), ?_⟩
    have e : (s'.put o.dst tv [] []).own π' = s'.own π' := by simp only [St.own, St.put, setOb, List.append_nil]
    rw [e]
    exact h4
  unfold Oper.wp
  rw [hexec]
  unfold Applies at happ
  split at happ
  · rename_i g' as w' hr
    rw [hr]
    refine happ.mono fun e w'' ⟨u, h1, h2⟩ => ?_
    subst h1
    exact fin u w'' h2
  · rename_i u w' hr
    rw [hr]
    exact fin u w' happ
  · exact happ.elim

theorem step1_ok {R : Type} (hT : TOk P T) (hΓ : CalsOk P G Γ) {o : Oper} {s : St} {k : St → Foot → Option R} {r : R} (h : stepK1 T G Γ o s k = some r) :
    ∃ s' f, k s' f = some r ∧ ∀ us0 w S π a, Now G us0 w S π a s → ∀ (K : Act → World → Prop) (Q : Exit → Act → World → Prop), (∀ a' w', Goes G us0 w S π s a' w' s' → K a' w') → o.wp P a w K Q := by
  unfold stepK1 at h
  rw [opK_nat] at h
  obtain ⟨⟨v, up, nw, rd⟩, h1, h2⟩ := bind_inv h
  simp only [unc] at h2
  cases hup : (up.all fun x => decide (x.1 < s.ob.length)) with
  | false => rw [hup] at h2; cases h2
  | true =>
    rw [hup] at h2
    simp only [cond_true] at h2
    refine ⟨_, _, h2, ?_⟩
    intro us0 w S π a hn K Q hK
    refine op_ok hT hΓ.ctr h1 a w S π hn.go hn.ev hn.ob (hn.free _) K Q fun u w' S' π' hA => hK _ _ ⟨S', π', hn.put hup hA, ?_⟩
    have := hA.step
    unfold St.own
    rw [put_look hup]
    exact this

theorem meet_inv {R : Type} {x y : Option R} {r : R} (h : meet x y = some r) : x = some r ∧ y = some r := by
  unfold meet at h
  split at h
  · rename_i e; exact ⟨h, e ▸ h⟩
  · cases h
theorem empOf_ok {w : World} {S : Nat → Prop} {π : Nat → Option Pl} {look : Nat → Option Ob} (hob : ObsOk w S π look) {v : TV} {e : Bool} (h : empOf look v = some e) {u : Value} (r : relTV w S π v u) : ∃ A n c, u = .slice A n c ∧ (e = false → A.isNone = false) := by
  unfold empOf at h
  split at h
  · rename_i es
    cases h
    simp only [relTV, rel] at r
    rcases r with ⟨⟨A, rfl⟩, he⟩ | ⟨b, o, cap, sz, rfl, _⟩
    · exact ⟨A, _, _, rfl, fun h => absurd h (by simp [he])⟩
    · exact ⟨_, _, _, rfl, fun _ => rfl⟩
  · cases h
    simp only [relTV] at r
    subst r
    exact ⟨_, _, _, rfl, fun h => by cases h⟩
  · rename_i id
    split at h
    · rename_i es sz hl
      cases h
      simp only [relTV] at r
      rcases r with ⟨hp, rfl⟩ | ⟨b, s, c, z, l, a, hp, rfl, _⟩
      · refine ⟨_, _, _, rfl, fun h => ?_⟩
        obtain ⟨pl, hp', ho⟩ := hob.ok id _ hl
        rw [hp] at hp'
        cases hp'
        simp only [obOk] at ho
        rw [ho] at h
        cases h
      · exact ⟨_, _, _, rfl, fun _ => rfl⟩
    · cases h
  · cases h
theorem nil_ok (hT : TOk P T) {o : Oper} {s : St} {x : Bool × Bool} (hx : nilOf T (fun i => s.ob[i]?) (evS G s) o.op = some x) {w : World} {S : Nat → Prop} {π : Nat → Option Pl} {a : Act} (hn : Now G us0 w S π a s) :
    ∃ b : Bool, (execOp a.eval o).run P w = .ok (.value (.bool b)) w ∧ (x.2 = false → b = x.1) := by
  unfold nilOf at hx
  split at hx
  case h_2 => cases hx
  rename_i op xt X yt ho
  split at hx
  · rename_i sz by' e z v hT' hv
    split at hx
    · rename_i e' he
      cases hx
      have hd := (hT _ _ hT').desc
      simp only [descOk] at hd
      obtain ⟨A, n, c, hu, hA⟩ := empOf_ok hn.ob he (hn.ev _ _ hv)
      refine ⟨A.isNone, ?_, fun h => hA h⟩
      have e1 := Lib.run_eql_slice_nil (P := P) w xt _ A n c 0 0 hd
      have e2 : a.eval (.const (.slice none 0 0)) = .slice none 0 0 := rfl
      simp only [execOp, ho, hu, e2, eqGuard_at_slice]
      simp [e1]
    · cases hx
  · rename_i sz by' e z v hT' hv
    split at hx
    · rename_i e' he
      cases hx
      have hd := (hT _ _ hT').desc
      simp only [descOk] at hd
      obtain ⟨A, n, c, hu, hA⟩ := empOf_ok hn.ob he (hn.ev _ _ hv)
      refine ⟨!A.isNone, ?_, fun h => by rw [hA h]; rfl⟩
      have e1 := Lib.run_eql_slice_nil (P := P) w xt _ A n c 0 0 hd
      have e2 : a.eval (.const (.slice none 0 0)) = .slice none 0 0 := rfl
      have b1 : ∀ u u', binOp .eql xt u u' = (do pure (.bool (← Op.equal xt u u')) : Sem Value) → binOp .neq xt u u' = (do pure (.bool (!(← Op.equal xt u u'))) : Sem Value) → (binOp .eql xt u u').run P w = .ok (.bool A.isNone) w → (binOp .neq xt u u').run P w = .ok (.bool (!A.isNone)) w := by
        intro u u' h1 h2 h3
        rw [h1] at h3
        rw [h2]
        simp only [Sem.run_bind] at h3 ⊢
        cases hq : (Op.equal xt u u').run P w with
        | ok q w' =>
          rw [hq] at h3
          simp only [Result.andThen_ok, Sem.run_pure, Result.ok.injEq, Value.bool.injEq] at h3 ⊢
          exact ⟨by rw [h3.1], h3.2⟩
        | halt q w' => rw [hq] at h3; simp at h3
      simp only [execOp, ho, hu, e2, eqGuard_at_slice]
      simp [b1 _ _ rfl rfl e1]
    · cases hx
  · cases hx

theorem pickL_inv {α R : Type} {l : List α} {f : α → List α → Option R} {r : R} (h : pickL l f = some r) : ∀ x ∈ picks l, f x.1 x.2 = some r := by
  unfold pickL at h
  split at h
  · rename_i hh
    cases h
    exact (Classical.choose_spec hh).2
  · cases h
/-- All choices come to one thing. -/
theorem pickL_eq {α R : Type} {l : List α} {f : α → List α → Option R} {y : Option R} (hl : l ≠ []) (h : ∀ x ∈ picks l, f x.1 x.2 = y) : pickL l f = y := by
  have hne : picks l ≠ [] := by cases l with | nil => exact absurd rfl hl | cons a l => simp [picks]
  unfold pickL
  cases y with
  | some r =>
    rw [dif_pos ⟨r, hne, h⟩]
    obtain ⟨x, hx⟩ := List.exists_mem_of_ne_nil _ hne
    have h1 := (Classical.choose_spec (⟨r, hne, h⟩ : ∃ r, picks l ≠ [] ∧ ∀ x ∈ picks l, f x.1 x.2 = some r)).2 x hx
    rw [h x hx] at h1
    exact h1.symm
  | none =>
    rw [dif_neg]
    rintro ⟨r, _, hr⟩
    obtain ⟨x, hx⟩ := List.exists_mem_of_ne_nil _ hne
    have h2 := hr x hx
    rw [h x hx] at h2
    cases h2
theorem pick_rel {w : World} {S : Nat → Prop} : ∀ {left : List (PV × PV)} {l : List MapEntry} {e : MapEntry}, relKV w S left l → l.Pairwise (fun a b => a.born ≠ b.born) → e ∈ l →
    ∃ y ∈ picks left, rel w S y.1.1 e.key ∧ rel w S y.1.2 e.val ∧ relKV w S y.2 (l.filter fun x => x.born != e.born)
  | [], l, e, h, _, he => by rw [relKV_nil] at h; subst h; cases he
  | kv :: kvs, l, e, h, hp, he => by
    rw [relKV_cons] at h
    obtain ⟨e0, l', rfl, h1, h2, h3⟩ := h
    rw [List.pairwise_cons] at hp
    simp only [picks]
    by_cases hb : e0.born = e.born
    · have h0 : e = e0 := by
        rcases List.mem_cons.1 he with h0 | h0
        · exact h0
        · exact absurd hb (hp.1 e h0)
      subst h0
      refine ⟨(kv, kvs), List.mem_cons_self .., h1, h2, ?_⟩
      have : (e :: l').filter (fun x => x.born != e.born) = l' := by
        rw [List.filter_cons_of_neg (by simp), List.filter_eq_self.2]
        intro x hx
        have := hp.1 x hx
        simpa using fun h => this h.symm
      rw [this]
      exact h3
    · have h0 : e ∈ l' := by
        rcases List.mem_cons.1 he with h0 | h0
        · exact absurd (by rw [h0]) hb
        · exact h0
      obtain ⟨y, hy, k1, k2, k3⟩ := pick_rel h3 hp.2 h0
      refine ⟨(y.1, kv :: y.2), List.mem_cons_of_mem _ (List.mem_map.2 ⟨y, hy, rfl⟩), k1, k2, ?_⟩
      rw [List.filter_cons_of_pos (by simpa using hb), relKV_cons]
      exact ⟨e0, _, rfl, h1, h2, k3⟩

theorem mitOf_inv {look : Nat → Option Ob} {ev : Operand → Option TV} {o : Op} {x : Nat × List (PV × PV)} (h : mitOf look ev o = some x) : ∃ cur, look x.1 = some (.mit x.2 cur) := by
  unfold mitOf at h
  split at h
  case h_2 => cases h
  split at h
  case h_2 => cases h
  split at h
  case h_2 => cases h
  rename_i hl
  cases h
  exact ⟨_, hl⟩

theorem mit_ok {o : Oper} {s : St} {x : Nat × List (PV × PV)} (hx : mitOf (fun i => s.ob[i]?) (evS G s) o.op = some x) {w : World} {S : Nat → Prop} {π : Nat → Option Pl} {a : Act} (hn : Now G us0 w S π a s) :
    (x.2 = [] ∧ (execOp a.eval o).run P w = .ok (.value (.tuple #[.bool false])) w) ∨
    ∃ y ∈ picks x.2, ∃ u w', (execOp a.eval o).run P w = .ok (.value u) w' ∧
      After w S π (fun i => s.ob[i]?) s.ob.length (.tuple [.val (.bool true), .val y.1.1, .val y.1.2]) [(x.1, .mit y.2 [y.1.1, y.1.2])] [] u w' S π := by
  unfold mitOf at hx
  split at hx
  case h_2 => cases hx
  rename_i X ho
  split at hx
  case h_2 => cases hx
  rename_i id hX
  split at hx
  case h_2 => cases hx
  rename_i left cur hl
  cases hx
  have hexec : ∀ (w' : World) (r : Value), (Instr.next (a.eval X) false o.type).run P w = .ok r w' → (execOp a.eval o).run P w = .ok (.value r) w' := by
    intro w' r hr
    simp [execOp, ho, hr]
  have hv := hn.ev X _ hX
  simp only [relTV] at hv
  obtain ⟨b, s', c', z', l', hp, he⟩ := hv
  obtain ⟨pl, hp', hk⟩ := hn.ob.ok id _ hl
  rw [hp] at hp'; cases hp'
  simp only [obOk] at hk
  obtain ⟨m, since, seen, last, hg, hm⟩ := hk
  cases m with
  | none =>
    obtain ⟨h1, _⟩ := hm
    refine .inl ⟨h1, hexec _ _ ?_⟩
    rw [he]
    simp [Instr.next, run_getObj_at hg rfl]
  | some r =>
    obtain ⟨hS, ms, clock, hgm, hst, rfl, rfl, hkv, hc⟩ := hm
    have hleft : (leftOf ms seen).toList = ms.toList.filter fun e => !seen.contains e.born := by simp [leftOf]
    rcases run_next_at (P := P) w o.type b r last last seen ms last hg hgm hst.1 (Nat.le_refl _) with ⟨h0, hr⟩ | ⟨e, hel, w1, hw1, hr⟩
    · refine .inl ⟨?_, hexec _ _ (by rw [he]; exact hr)⟩
      have h1 := relKV_length hkv
      rw [← hleft] at h1
      have h2 : (leftOf ms seen).toList.length = 0 := by rw [Array.length_toList]; exact h0
      rw [h2] at h1
      exact List.eq_nil_of_length_eq_zero h1
    · rw [hleft] at hel
      obtain ⟨y, hy, k1, k2, k3⟩ := pick_rel hkv (hst.2.filter _) hel
      have hupd : Upd w b (.mapIter (some r) last (seen.push e.born) last) (ChangeMaps.setBlock w1 b (.mapIter (some r) last (seen.push e.born) last)) := by
        have hb : b < w.heap.size := by
          cases hlt : decide (b < w.heap.size) with
          | true => simpa using hlt
          | false => rw [Array.getElem?_eq_none (by simpa using hlt)] at hg; cases hg
        rcases hw1 with rfl | rfl
        · refine ⟨rfl, rfl, rfl, by simp [ChangeMaps.setBlock], fun k hk => ?_, ?_⟩
          · simp only [ChangeMaps.setBlock, Array.getElem?_setIfInBounds]
            rw [if_neg (fun e => hk e.symm)]
          · simp [ChangeMaps.setBlock, hb]
        · refine ⟨rfl, rfl, rfl, ?_, fun k hk => ?_, ?_⟩
          · show (w.heap.setIfInBounds b _).size = _
            simp
          · show (w.heap.setIfInBounds b _)[k]? = _
            rw [Array.getElem?_setIfInBounds, if_neg (fun e => hk e.symm)]
          · show (w.heap.setIfInBounds b _)[b]? = _
            simp [hb]
      obtain ⟨h1, h2⟩ := obs_turn (nx := s.ob.length) (ob' := .mit y.2 [y.1.1, y.1.2]) hn.ob hl rfl rfl hp hupd (fun hkeep => by
        simp only [obOk]
        refine ⟨some r, last, seen.push e.born, last, hupd.here, mitOk_keep hkeep ⟨hS, ms, last, hgm, hst, rfl, rfl, ?_, .inr ⟨e, (List.mem_filter.1 hel).1, by simp, ?_⟩⟩⟩
        · have : (ms.toList.filter fun x => !(seen.push e.born).contains x.born) = (ms.toList.filter fun x => !seen.contains x.born).filter fun x => x.born != e.born := by
            rw [List.filter_filter]
            congr 1
            funext x
            rw [Array.contains_push]
            by_cases h : x.born = e.born
            · simp [h]
            · have h' : (x.born == e.born) = false := by simpa using h
              have h'' : (e.born == x.born) = false := by simpa using fun q => h q.symm
              simp [h, bne, h', h'']
          rw [this]
          exact k3
        · simp only [relL]
          exact ⟨_, _, rfl, k1, _, _, rfl, k2, rfl⟩)
      refine .inr ⟨y, hy, .tuple #[.bool true, e.key, e.val], _, hexec _ _ (by rw [he]; exact hr), ?_, h1, Ext.refl _, fun id h => .inl h, h2⟩
      have hk2 := h2.keep hn.ob
      simp only [relTV, relTVs]
      exact ⟨_, rfl, _, _, rfl, by simp only [rel], _, _, rfl, rel_keep hk2 _ _ k1, _, _, rfl, rel_keep hk2 _ _ k2, rfl⟩

theorem frzNew_ok {w : World} {S : Nat → Prop} {π : Nat → Option Pl} {a : Act} {s : St} (hn : Now G us0 w S π a s) (i : Nat) : Goes G us0 w S π s a w (frzNew i s) := by
  unfold frzNew
  split
  · rename_i x hx
    cases hl : x.live with
    | true =>
      rw [cond_true]
      refine frz_ok hn fun j hj => ?_
      simp only [List.mem_singleton] at hj
      subst hj
      exact ⟨x, hx, hl⟩
    | false => rw [cond_false]; exact ⟨S, π, hn, Step.refl _ _ _⟩
  · exact ⟨S, π, hn, Step.refl _ _ _⟩
theorem allSome_cons {α : Type} {x : Option α} {l : List (Option α)} {ys : List α} (h : allSome (x :: l) = some ys) : ∃ y ys', ys = y :: ys' ∧ x = some y ∧ allSome l = some ys' := by
  cases x with
  | none => simp [allSome] at h
  | some y =>
    cases hl : allSome l with
    | none => simp [allSome, hl] at h
    | some ys' => simp [allSome, hl] at h; exact ⟨y, ys', h.symm, rfl, rfl⟩
theorem bs_fill {w : World} {S : Nat → Prop} {π : Nat → Option Pl} {a : Act} {ev : Operand → Option TV} (hev : evOk ev a w S π) : ∀ (parts : List (Nat × Operand)) (j : Nat) (tvs : List TV) (cells : Array Value), parts.map (·.1) = List.range' j parts.length → allSome (parts.map fun x => ev x.2) = some tvs → tvs.all TV.one = true → j + parts.length = cells.size →
    ∃ cells' us, Instr.fill (fun k => some (k * 1, 1)) cells (parts.map fun x => (x.1, a.eval x.2)) = some cells' ∧ cells'.toList = cells.toList.take j ++ us ∧ us.length = parts.length ∧ (∀ u ∈ us, u.oneCell' = true) ∧ relTVs w S π tvs us
  | [], j, tvs, cells, _, h2, _, hs => by
    simp only [List.map_nil, allSome, Option.some.injEq] at h2
    subst h2
    refine ⟨cells, [], by simp [Instr.fill], ?_, rfl, by simp, by simp only [relTVs]⟩
    simp only [List.length_nil, Nat.add_zero] at hs
    rw [hs, List.append_nil, ← Array.length_toList, List.take_length]
  | (k, x) :: parts, j, tvs, cells, h1, h2, h3, hs => by
    simp only [List.map_cons, List.length_cons, List.range'_succ, List.cons.injEq] at h1
    obtain ⟨rfl, h1⟩ := h1
    simp only [List.map_cons] at h2
    obtain ⟨tv, tvs', rfl, hx, h2'⟩ := allSome_cons h2
    simp only [List.all_cons, Bool.and_eq_true] at h3
    simp only [List.length_cons] at hs
    have hr := hev x tv hx
    have ho := relTV_one hr h3.1
    have hsz : (a.eval x).cells.size = 1 := by rw [oneCell_cells ho]; rfl
    obtain ⟨cells', hf1, hf2, hf3⟩ := fill_step (place := fun k => some (k * 1, 1)) (cells := cells) (rest := parts.map fun x => (x.1, a.eval x.2)) (i := k) rfl hsz (by omega)
    obtain ⟨cells'', us', g1, g2, g3, g4, g5⟩ := bs_fill hev parts (k + 1) tvs' cells' h1 h2' h3.2 (by omega)
    refine ⟨cells'', a.eval x :: us', by simp only [List.map_cons]; rw [hf1, g1], ?_, by simp [g3], ?_, ?_⟩
    · rw [g2, hf2, oneCell_cells ho]
      have hcl : cells.toList.length = cells.size := Array.length_toList
      rw [Nat.mul_one, List.take_append_of_le_length (by simp; omega)]
      have hlen : (List.take k cells.toList ++ #[a.eval x].toList).length = k + 1 := by simp; omega
      rw [← hlen, List.take_length]
      simp
    · intro q hq
      rcases List.mem_cons.1 hq with rfl | hq
      · exact ho
      · exact g4 q hq
    · simp only [relTVs]
      exact ⟨_, _, rfl, hr, g5⟩

theorem bs_ok {R : Type} (hT : TOk P T) {o : Oper} {s : St} {k : St → Foot → Option R} {r : R} {tvs : List TV} (hbs : bsOf T Γ (evS G s) o = some tvs)
    (h : k (s.put o.dst (.sl s.ob.length 0 tvs.length true) [] [.box tvs]) ⟨[], []⟩ = some r) {us0 : Rts} {w : World} {S : Nat → Prop} {π : Nat → Option Pl} {a : Act} (hn : Now G us0 w S π a s)
    (K : Act → World → Prop) (Q : Exit → Act → World → Prop) (hK : ∀ s' f a' w', k s' f = some r → Goes G us0 w S π s a' w' s' → K a' w') : o.wp P a w K Q := by
  unfold bsOf at hbs
  split at hbs
  case h_2 => cases hbs
  rename_i t n parts d hop hd
  cases hc : (Γ (2000000000 + d)).isSome with
  | false => rw [hc, cond_false] at hbs; cases hbs
  | true =>
    rw [hc, cond_true] at hbs
    split at hbs
    case h_2 => cases hbs
    rename_i sz by' e z hi
    split at hbs
    case h_2 => cases hbs
    rename_i ei hie
    split at hbs
    case h_2 => cases hbs
    rename_i tvs' hal
    split at hbs
    case isFalse => cases hbs
    rename_i hcs
    cases hbs
    obtain ⟨hsz1, hrange, hpos, hmax, hone⟩ := hcs
    have hu := (hT t _ hi).desc
    simp only [descOk] at hu
    have hty := hT e ei hie
    obtain ⟨zv, hz1, hz2, _, _, f, hf1, hf2, hf3, hf4⟩ := run_zeroValue hty
    have hpl : parts.toList.length = n := by have := congrArg List.length hrange; simpa using this
    have hzz : ∃ zs : Array Value, zs.size = n ∧ ∀ cells, Instr.fill (fun k => some (k * 1, 1)) zs (parts.toList.map fun x => (x.1, a.eval x.2)) = some cells → (execOp a.eval o).run P w = .ok (.value (.slice (some ⟨w.heap.size, 0, none⟩) n n)) (w.alloc (.cells cells e)) := by
      refine ⟨(Array.range (n * ei.size)).map (zv.cells[· % zv.cells.size]!), by simp [hsz1], fun cells hc => ?_⟩
      have := run_buildSlice (P := P) w t e n (parts.map fun x => (x.1, a.eval x.2)) cells f zv hu hf1 hf2 (by rw [hf3, hsz1]; omega) (by rw [hf3, hsz1]; omega) (by rw [hf3, hsz1]; rw [hsz1] at hc; simpa using hc)
      simp [execOp, hop, this]
    obtain ⟨zs, hzs, hrun⟩ := hzz
    obtain ⟨cells, us, g1, g2, g3, g4, g5⟩ := bs_fill hn.ev parts.toList 0 tvs zs (by rw [hrange, hpl]) hal hone (by rw [hzs, hpl, Nat.zero_add])
    simp only [List.take_zero, List.nil_append] at g2
    have hlen : tvs.length = n := by rw [relTVs_length g5, g3, hpl]
    obtain ⟨π', k1, k2, k3, k4, k5⟩ := obs_new (w' := w.alloc (.cells cells e)) (ob := .box tvs) (c := .cells cells e) hn.ob (hn.free 1) rfl rfl rfl rfl 0 n 1 n (by
      intro π' hext hnx hkeep
      simp only [obOk]
      refine ⟨by trivial, cells, e, (0, 0), heap_alloc_new w _, .inl rfl, ?_, ?_⟩
      · intro u hu'
        rw [g2] at hu'
        exact g4 u hu'
      · rw [g2]
        exact relTVs_keep hkeep hext _ _ g5)
    have hA : After w S π (fun i => s.ob[i]?) s.ob.length (.sl s.ob.length 0 tvs.length true) [] [.box tvs] (.slice (some ⟨w.heap.size, 0, none⟩) n n) (w.alloc (.cells cells e)) S π' := by
      refine ⟨?_, k1, k2, k3, k5⟩
      simp only [relTV]
      rw [hlen]
      exact .inr ⟨_, _, _, _, _, _, n, k4, rfl, Nat.le_refl _, .inr (by rw [Nat.zero_mul]), by omega, fun _ => rfl, by omega⟩
    unfold Oper.wp
    rw [hrun cells g1, Oper.upon_value]
    refine hK _ _ _ _ h ⟨S, π', hn.put (by rfl) hA, ?_⟩
    have := hA.step
    unfold St.own
    rw [put_look (by rfl)]
    exact this

theorem step_ok {R : Type} (hT : TOk P T) (hΓ : CalsOk P G Γ) {o : Oper} {s : St} {k : St → Foot → Option R} {r : R} (h : stepK T G Γ o s k = some r) :
    ∀ us0 w S π a, Now G us0 w S π a s → ∀ (K : Act → World → Prop) (Q : Exit → Act → World → Prop), (∀ s' f a' w', k s' f = some r → Goes G us0 w S π s a' w' s' → K a' w') → o.wp P a w K Q := by
  intro us0 w S π a hn K Q hK
  unfold stepK at h
  split at h
  · rename_i tvs hbs
    exact bs_ok hT hbs h hn K Q fun s' f a' w' h1 h2 => hK s' f a' w' h1 h2
  obtain ⟨S1, π1, hn1, hs1⟩ := frz_ok hn (frzOf_live hn o.op)
  have fin : ∀ a' w' s', Goes G us0 w S1 π1 (frzSt (frzOf (fun i => s.ob[i]?) (evS G s) o.op) s) a' w' s' → Goes G us0 w S π s a' w' s' := by
    rintro a' w' s' ⟨S2, π2, h1, h2⟩
    exact ⟨S2, π2, h1, hs1.trans h2⟩
  unfold stepK2 at h
  split at h
  · rename_i x hx
    obtain ⟨b, hex, hb⟩ := nil_ok hT hx hn1
    have hk : k ((frzSt (frzOf (fun i => s.ob[i]?) (evS G s) o.op) s).put o.dst (.val (.bool b)) [] []) ⟨[], []⟩ = some r := by
      cases h2 : x.2 with
      | false => rw [h2] at h; rw [hb h2]; exact h
      | true =>
        rw [h2] at h
        obtain ⟨h3, h4⟩ := meet_inv h
        cases b
        · exact h4
        · exact h3
    have hA : After w S1 π1 (fun i => (frzSt (frzOf (fun i => s.ob[i]?) (evS G s) o.op) s).ob[i]?) (frzSt (frzOf (fun i => s.ob[i]?) (evS G s) o.op) s).ob.length (.val (.bool b)) [] [] (.bool b) w S1 π1 := ⟨by simp only [relTV, rel], by rw [upd_nil]; exact hn1.ob, Ext.refl _, fun id h => .inl h, by rw [upd_nil]; exact Step.refl _ _ _⟩
    unfold Oper.wp
    rw [hex, Oper.upon_value]
    refine hK _ _ _ w hk (fin _ _ _ ⟨S1, π1, hn1.put (by rfl) hA, ?_⟩)
    have e : ∀ t : St, (t.put o.dst (.val (.bool b)) [] []).own π1 = t.own π1 := fun t => by simp only [St.own, St.put, setOb, List.append_nil]
    rw [e]
    exact Step.refl _ _ _
  split at h
  · rename_i x hx
    unfold Oper.wp
    rcases mit_ok (P := P) hx hn1 with ⟨h0, hr⟩ | ⟨y, hy, u, w', hr, hA⟩
    · rw [h0] at h
      rw [hr, Oper.upon_value]
      have hA : After w S1 π1 (fun i => (frzSt (frzOf (fun i => s.ob[i]?) (evS G s) o.op) s).ob[i]?) (frzSt (frzOf (fun i => s.ob[i]?) (evS G s) o.op) s).ob.length (.tuple [.val (.bool false)]) [] [] (.tuple #[.bool false]) w S1 π1 :=
        ⟨by simp only [relTV, relTVs]; exact ⟨_, rfl, _, _, rfl, by simp only [rel], rfl⟩, by rw [upd_nil]; exact hn1.ob, Ext.refl _, fun id h => .inl h, by rw [upd_nil]; exact Step.refl _ _ _⟩
      refine hK _ _ _ w h (fin _ _ _ ⟨S1, π1, hn1.put (by rfl) hA, ?_⟩)
      have e : ∀ t : St, (t.put o.dst (.tuple [.val (.bool false)]) [] []).own π1 = t.own π1 := fun t => by simp only [St.own, St.put, setOb, List.append_nil]
      rw [e]
      exact Step.refl _ _ _
    · have hne : x.2.isEmpty = false := by
        cases hx2 : x.2 with
        | nil => rw [hx2] at hy; simp [picks] at hy
        | cons _ _ => rfl
      rw [hne, cond_false] at h
      have hk := pickL_inv h y hy
      rw [hr, Oper.upon_value]
      have hup : (([(x.1, Ob.mit y.2 [y.1.1, y.1.2])] : List (Nat × Ob)).all fun z => decide (z.1 < (frzSt (frzOf (fun i => s.ob[i]?) (evS G s) o.op) s).ob.length)) = true := by
        simp only [List.all_cons, List.all_nil, Bool.and_true, decide_eq_true_eq]
        obtain ⟨_, hl⟩ := mitOf_inv hx
        exact (List.getElem?_eq_some_iff.1 hl).1
      refine hK _ _ _ w' hk (fin _ _ _ ⟨S1, π1, hn1.put hup hA, ?_⟩)
      have := hA.step
      unfold St.own
      rw [put_look hup]
      exact this
  split at h
  · rename_i x hx
    exact inl_ok hΓ hx h hn1 K Q fun tv s' a' w' h1 h2 => hK _ _ a' w' h1 (fin _ _ _ h2)
  · cases hro : roOf Γ o with
    | false =>
      rw [hro, cond_false] at h
      obtain ⟨s', f, h1, h2⟩ := step1_ok hT hΓ h
      exact h2 us0 w S1 π1 a hn1 K Q fun a' w' hg => hK s' f a' w' h1 (fin _ _ _ hg)
    | true =>
      rw [hro, cond_true] at h
      obtain ⟨s', f, h1, h2⟩ := step1_ok hT hΓ h
      refine h2 us0 w S1 π1 a hn1 K Q fun a' w' hg => hK _ f a' w' h1 (fin _ _ _ ?_)
      obtain ⟨S2, π2, g1, g2⟩ := hg
      obtain ⟨S3, π3, g3, g4⟩ := frzNew_ok g1 (frzSt (frzOf (fun i => s.ob[i]?) (evS G s) o.op) s).ob.length
      exact ⟨S3, π3, g3, g2.trans g4⟩

theorem Now.lit {w : World} {S : Nat → Prop} {π : Nat → Option Pl} {a : Act} {s : St} (h : Now G us0 w S π a s) {d : Nat} {b : Bool} (hd : a.tmps.getD d undef = .bool b) : Now G us0 w S π a { s with tm := s.tm.set d (.val (.bool b)) } := by
  refine ⟨h.df, by simpa using h.len, ?_, h.ob, h.pl, h.roots, h.places, h.go⟩
  intro i x hx
  simp only [List.getElem?_set] at hx
  by_cases e : d = i
  · subst e
    rw [if_pos rfl] at hx
    split at hx
    · cases hx; rw [hd]; simp only [relTV, rel]
    · cases hx
  · rw [if_neg e] at hx
    exact h.tm i x hx

theorem Goes.refl {w : World} {S : Nat → Prop} {π : Nat → Option Pl} {a : Act} {s : St} (h : Now G us0 w S π a s) : Goes G us0 w S π s a w s := ⟨S, π, h, Step.refl _ _ _⟩

theorem skip_ok {o : Oper} {w : World} {S : Nat → Prop} {π : Nat → Option Pl} {a : Act} {s : St} (h : Now G us0 w S π a s) : Now G us0 w S π (a.put o.dst undef) (skipOp o s) ∧ (skipOp o s).ob = s.ob := by
  have hA : After w S π (fun i => s.ob[i]?) s.ob.length (.tuple []) [] [] undef w S π := ⟨by simp only [relTV]; exact ⟨#[], rfl, by simp [relTVs]⟩, by rw [upd_nil]; exact h.ob, Ext.refl _, fun id h => .inl h, by rw [upd_nil]; exact Step.refl _ _ _⟩
  exact ⟨h.put (by rfl) hA, by simp [skipOp, St.put, setOb]⟩

/-- What stands behind a test that was left out is left out. -/
theorem unwanted {ops : Array Oper} {o : Oper} {j : Nat} {want : Bool} (hg : o.guard = some (j, want)) {d : Nat} (hd : (ops[j]?).bind (·.dst) = some d) {s : St} (hp : s.tm[d]? = some (.tuple [])) {w : World} {S : Nat → Prop} {π : Nat → Option Pl} {a : Act} (hn : Now G us0 w S π a s) : Region.wanted o (yielded ops a.tmps) = false := by
  have h1 := hn.tm d _ hp
  simp only [relTV] at h1
  obtain ⟨us, h1, h2⟩ := h1
  have hlt : d < a.tmps.size := by rw [← hn.len]; exact (List.getElem?_eq_some_iff.1 hp).1
  have h2 : a.tmps[d]? = some (.tuple us) := by
    rw [Array.getD_eq_getD_getElem?, Array.getElem?_eq_getElem hlt, Option.getD_some] at h1
    rw [Array.getElem?_eq_getElem hlt, h1]
  simp only [Region.wanted, hg, yielded, hd, Option.bind_some, h2]
  rfl

theorem ops_ok {R : Type} (hT : TOk P T) (hΓ : CalsOk P G Γ) {ops : Array Oper} : ∀ (l : List Oper) (n : Nat) (s : St) (fs : List Foot) (k : St → List Foot → Option R) (r : R), ops.toList.drop n = l → opsK T G Γ ops l s fs k = some r →
    ∀ us0 w S π a, Now G us0 w S π a s → ∀ (Q : Exit → Act → World → Prop), (∀ s' fs' a' w', k s' fs' = some r → Goes G us0 w S π s a' w' s' → Q .normal a' w') → wpOps P ops Q (List.range' n l.length) a w
  | [], n, s, fs, k, r, hl, h => by
    simp only [opsK] at h
    intro us0 w S π a hn Q hQ
    simp only [List.length_nil, List.range'_zero, wpOps]
    exact hQ s _ a w h (Goes.refl hn)
  | o :: rest, n, s, fs, k, r, hl, h => by
    have ho : ops[n]? = some o := by
      rw [← Array.getElem?_toList]
      have := congrArg (·[0]?) hl
      simpa using this
    have hrest : ops.toList.drop (n + 1) = rest := by
      have := congrArg List.tail hl
      simpa using this
    -- one that is done
    have done : ∀ (s0 : St), stepK T G Γ o s0 (fun s' f => opsK T G Γ ops rest s' (fs ++ [f]) k) = some r →
        ∀ us0 w S π a, Now G us0 w S π a s0 → ∀ (Q : Exit → Act → World → Prop), (∀ s' fs' a' w', k s' fs' = some r → Goes G us0 w S π s0 a' w' s' → Q .normal a' w') → o.wp P a w (wpOps P ops Q (List.range' (n + 1) rest.length)) Q := by
      intro s0 h us0 w S π a hn Q hQ
      refine step_ok hT hΓ h us0 w S π a hn _ _ fun s1 f a' w' h1 hg => ?_
      obtain ⟨S1, π1, hn1, hs1⟩ := hg
      refine ops_ok hT hΓ rest (n + 1) s1 _ k r hrest h1 us0 w' S1 π1 a' hn1 Q fun s' fs' a'' w'' h2 hg2 => hQ s' fs' a'' w'' h2 ?_
      obtain ⟨S2, π2, hn2, hs2⟩ := hg2
      exact ⟨S2, π2, hn2, hs1.trans hs2⟩
    -- one that is left out
    have left : ∀ (s0 : St), opsK T G Γ ops rest (skipOp o s0) (fs ++ [⟨[], []⟩]) k = some r →
        ∀ us0 w S π a, Now G us0 w S π a s0 → ∀ (Q : Exit → Act → World → Prop), (∀ s' fs' a' w', k s' fs' = some r → Goes G us0 w S π s0 a' w' s' → Q .normal a' w') → wpOps P ops Q (List.range' (n + 1) rest.length) (a.put o.dst undef) w := by
      intro s0 h us0 w S π a hn Q hQ
      obtain ⟨hn1, hob⟩ := skip_ok (o := o) hn
      refine ops_ok hT hΓ rest (n + 1) _ _ k r hrest h us0 w S π _ hn1 Q fun s' fs' a'' w'' h2 hg2 => hQ s' fs' a'' w'' h2 ?_
      obtain ⟨S2, π2, hn2, hs2⟩ := hg2
      refine ⟨S2, π2, hn2, ?_⟩
      unfold St.own at hs2 ⊢
      rwa [hob] at hs2
    simp only [opsK] at h
    simp only [List.length_cons, List.range'_succ]
    split at h
    · rename_i hg
      intro us0 w S π a hn Q hQ
      simp only [wpOps, ho, Region.wanted, hg, if_true]
      exact .inl (done s h us0 w S π a hn Q hQ)
    · rename_i j want hg
      split at h
      · rename_i d hd
        split at h
        · rename_i p hp
          obtain ⟨b, hb, h'⟩ := bind_inv h
          cases asB_inv hb
          have key : ∀ us0 w S π a, Now G us0 w S π a s → a.tmps.getD d undef = .bool b ∧ Region.wanted o (yielded ops a.tmps) = (b == want) := by
            intro us0 w S π a hn
            have h1 := hn.tm d _ hp
            simp only [relTV, rel] at h1
            have hlt : d < a.tmps.size := by rw [← hn.len]; exact (List.getElem?_eq_some_iff.1 hp).1
            refine ⟨h1, ?_⟩
            have h2 : a.tmps[d]? = some (.bool b) := by
              rw [Array.getD_eq_getD_getElem?, Array.getElem?_eq_getElem hlt, Option.getD_some] at h1
              rw [Array.getElem?_eq_getElem hlt, h1]
            simp only [Region.wanted, hg, yielded, hd, Option.bind_some, h2]
            cases b <;> cases want <;> rfl
          have fin : ∀ (s0 : St), s0 = { s with tm := s.tm.set d (.val (.bool b)) } → (if (b == want) = true then stepK T G Γ o s0 (fun s' f => opsK T G Γ ops rest s' (fs ++ [f]) k) else opsK T G Γ ops rest (skipOp o s0) (fs ++ [⟨[], []⟩]) k) = some r →
              ∀ us0 w S π a, Now G us0 w S π a s → ∀ (Q : Exit → Act → World → Prop), (∀ s' fs' a' w', k s' fs' = some r → Goes G us0 w S π s a' w' s' → Q .normal a' w') → wpOps P ops Q (n :: List.range' (n + 1) rest.length) a w := by
            intro s0 hs0 h us0 w S π a hn Q hQ
            obtain ⟨k1, k2⟩ := key us0 w S π a hn
            cases hbw : (b == want) with
            | true =>
              rw [hbw, if_pos rfl] at h
              simp only [wpOps, ho, k2, hbw, if_true]
              exact .inl (done s0 h us0 w S π a (by rw [hs0]; exact hn.lit k1) Q fun s' fs' a' w' hk hg => hQ s' fs' a' w' hk (by rw [hs0] at hg; exact hg))
            | false =>
              rw [hbw, if_neg (by simp)] at h
              simp only [wpOps, ho, k2, hbw, Bool.false_eq_true, if_false]
              exact left s0 h us0 w S π a (by rw [hs0]; exact hn.lit k1) Q fun s' fs' a' w' hk hg => hQ s' fs' a' w' hk (by rw [hs0] at hg; exact hg)
          refine fin _ rfl ?_
          cases b <;> cases want <;> simpa using h'
        · rename_i hp
          intro us0 w S π a hn Q hQ
          simp only [wpOps, ho, unwanted hg hd hp hn, Bool.false_eq_true, if_false]
          exact left s h us0 w S π a hn Q hQ
        · cases h
      · cases h

end
end Go.Proofs.YtpaifgipdhgfkaaGreatDoorV

/- The reading machine: operations that only reckon: what they yield hangs on no world. -/
namespace Go.Proofs.YtpaifgipdhgfkaaGreatDoorV
open Go Go.RowKit

/-- Whoever runs it comes to the same, in any world, and leaves that as it is. -/
def Fr {α : Type} (P : Program) (m : Sem α) : Prop := ∀ w v w1, m.run P w = .ok v w1 → w1 = w ∧ ∀ w', m.run P w' = .ok v w'
/-- It comes to nothing. -/
def Nev {α : Type} (P : Program) (m : Sem α) : Prop := ∀ w v w1, m.run P w ≠ .ok v w1

section
variable {P : Program}
theorem Fr.pure {α : Type} (v : α) : Fr P (Pure.pure v : Sem α) := fun w v' w1 h => by
  simp only [Sem.run_pure, Result.ok.injEq] at h
  obtain ⟨rfl, rfl⟩ := h
  exact ⟨rfl, fun w' => by simp only [Sem.run_pure]⟩
theorem Nev.fr {α : Type} {m : Sem α} (h : Nev P m) : Fr P m := fun w v w1 e => absurd e (h w v w1)
theorem Fr.bind {α β : Type} {m : Sem α} {f : α → Sem β} (h : Fr P m) (k : ∀ v, Fr P (f v)) : Fr P (m >>= f) := fun w v w1 e => by
  rw [Sem.run_bind] at e
  cases hm : m.run P w with
  | halt x w2 => rw [hm] at e; cases e
  | ok u w2 =>
    obtain ⟨rfl, h2⟩ := h w u w2 hm
    rw [hm, Result.andThen_ok] at e
    obtain ⟨h3, h4⟩ := k u _ v w1 e
    exact ⟨h3, fun w' => by rw [Sem.run_bind, h2 w', Result.andThen_ok, h4 w']⟩
theorem Nev.bind {α β : Type} {m : Sem α} {f : α → Sem β} (k : ∀ v, Nev P (f v)) : Nev P (m >>= f) := fun w v w1 e => by
  rw [Sem.run_bind] at e
  cases hm : m.run P w with
  | halt x w2 => rw [hm] at e; cases e
  | ok u w2 => rw [hm, Result.andThen_ok] at e; exact k u _ _ _ e
theorem Nev.bind_left {α β : Type} {m : Sem α} {f : α → Sem β} (k : Nev P m) : Nev P (m >>= f) := fun w v w1 e => by
  rw [Sem.run_bind] at e
  cases hm : m.run P w with
  | halt x w2 => rw [hm] at e; cases e
  | ok u w2 => exact k _ _ _ hm
theorem Nev.halt {α : Type} (h : Halt) : Nev P (Sem.halt h : Sem α) := fun w v w1 e => by simp [Sem.run] at e
theorem Nev.stuck {α : Type} (s : String) : Nev P (stuck s : Sem α) := Nev.halt _
theorem Nev.unsupported {α : Type} (s : Unsupported) : Nev P (unsupported s : Sem α) := Nev.halt _
theorem Nev.goPanic {α : Type} (v : Value) : Nev P (goPanic v : Sem α) := Nev.halt _
theorem Nev.runtimePanic {α : Type} (e : RuntimeError) : Nev P (runtimePanic e : Sem α) := by
  unfold Go.runtimePanic
  refine Nev.bind fun p => ?_
  cases e <;> first | exact Nev.goPanic _ | (refine Nev.bind fun _ => ?_; refine Nev.bind fun _ => ?_; exact Nev.goPanic _)
theorem Nev.boundsPanic {α : Type} (k : IntKind) (x y : Int) (c : BoundsCode) : Nev P (boundsPanic k x y c : Sem α) := by
  unfold Go.boundsPanic
  simp only
  split
  · exact Nev.bind fun _ => Nev.runtimePanic _
  · exact Nev.bind fun _ => Nev.runtimePanic _
theorem Fr.program : Fr P program := fun w v w1 h => by
  simp [Go.program, Sem.run] at h
  obtain ⟨rfl, rfl⟩ := h
  exact ⟨rfl, fun w' => by simp [Go.program, Sem.run]⟩
theorem Fr.underlying (t : TypeId) : Fr P (underlying t) := by
  unfold Go.underlying
  refine Fr.program.bind fun p => ?_
  split
  · exact Fr.pure _
  · exact (Nev.stuck _).fr
theorem Fr.typeInfo (t : TypeId) : Fr P (typeInfo t) := by
  unfold Go.typeInfo
  refine Fr.program.bind fun p => ?_
  split
  · exact Fr.pure _
  · exact (Nev.stuck _).fr
theorem Fr.sizeOf (t : TypeId) : Fr P (Go.sizeOf t) := by
  unfold Go.sizeOf
  exact (Fr.typeInfo t).bind fun _ => Fr.pure _
theorem Fr.asBool (v : Value) : Fr P (asBool v) := by
  unfold Go.asBool
  split
  · exact Fr.pure _
  · exact (Nev.stuck _).fr
theorem Fr.asIntOf (v : Value) : Fr P (asIntOf v) := by
  unfold Go.asIntOf
  split
  · exact Fr.pure _
  · exact (Nev.unsupported _).fr
  · exact (Nev.stuck _).fr
theorem Fr.sureAddr (v : Value) : Fr P (Instr.sureAddr v) := by
  unfold Instr.sureAddr
  split
  · exact Fr.pure _
  · exact (Nev.stuck _).fr
theorem Fr.extract (v : Value) (i : Nat) : Fr P (Instr.extract v i) := by
  unfold Instr.extract
  split
  · split
    · exact Fr.pure _
    · exact (Nev.stuck _).fr
  · exact (Nev.stuck _).fr
theorem Fr.indexAt (t : TypeId) (x i : Value) : Fr P (Instr.indexAt t x i) := by
  unfold Instr.indexAt
  refine (Fr.asIntOf i).bind fun ki => ?_
  obtain ⟨k, i⟩ := ki
  refine (Fr.underlying t).bind fun d => ?_
  have jp : ∀ (q : Option Addr × Nat × TypeId), Fr P ((match q with
        | (base, len, elem) => do
          let __do_lift ← Go.underlying t
          have tiny : Bool := decide (len ≤ 1) && match __do_lift with | TypeDesc.array len elem => true | x => false
          match base with
            | some a =>
              if 0 ≤ i ∧ i < ↑len then do
                let __do_lift ← Go.sizeOf elem
                Pure.pure (Value.pointer (some (a.add (i.toNat * __do_lift))))
              else
                if tiny = true then Go.unsupported (Unsupported.noEntry "op/indexAddr.an index out of range at an array of length 0 or 1 (ledger 616)")
                else Go.boundsPanic k i (↑len) BoundsCode.index
            | none => Go.boundsPanic k i 0 BoundsCode.index : Sem Value)) := by
    intro q
    obtain ⟨base, len, elem⟩ := q
    refine (Fr.underlying t).bind fun d' => ?_
    cases base with
    | none => exact (Nev.boundsPanic _ _ _ _).fr
    | some a =>
      simp only
      split
      · exact (Fr.sizeOf _).bind fun _ => Fr.pure _
      · repeat' split
        all_goals first | exact (Nev.unsupported _).fr | exact (Nev.boundsPanic _ _ _ _).fr
  simp only
  split
  · refine (Fr.sureAddr _).bind fun a => ?_
    refine (Fr.pure _).bind fun q => ?_
    exact jp q
  · refine (Fr.pure _).bind fun q => ?_
    exact jp q
  · exact (Nev.bind_left (Nev.stuck _)).fr
theorem Fr.sliceBound (v : Value) (n : Nat) (c : BoundsCode) : Fr P (Instr.sliceBound v n c) := by
  unfold Instr.sliceBound
  refine (Fr.asIntOf v).bind fun ki => ?_
  obtain ⟨k, i⟩ := ki
  simp only
  split
  · exact Fr.pure _
  · exact (Nev.boundsPanic _ _ _ _).fr
theorem Fr.sliceBounds (b : Bool) (len cap : Nat) (lo hi mx : Option Value) : Fr P (Instr.sliceBounds b len cap lo hi mx) := by
  have low : ∀ (m h : Nat) (c : BoundsCode), Fr P (match lo with
      | some v => do
        let l ← Instr.sliceBound v h c
        Pure.pure (l, h, m)
      | none => do
        let l ← Pure.pure 0
        Pure.pure (l, h, m) : Sem (Nat × Nat × Nat)) := by
    intro m h c
    cases lo with
    | none => exact (Fr.pure _).bind fun _ => Fr.pure _
    | some v => exact (Fr.sliceBound _ _ _).bind fun _ => Fr.pure _
  unfold Instr.sliceBounds
  simp only
  cases mx with
  | none =>
    simp only
    refine (Fr.pure _).bind fun m => ?_
    cases hi with
    | none => exact (Fr.pure _).bind fun h => low _ _ _
    | some v => exact (Fr.sliceBound _ _ _).bind fun h => low _ _ _
  | some u =>
    simp only
    refine (Fr.sliceBound _ _ _).bind fun m => ?_
    cases hi with
    | none => exact (Nev.bind_left (Nev.stuck _)).fr
    | some v => exact (Fr.sliceBound _ _ _).bind fun h => low _ _ _
theorem Fr.intBits (op : BinOp) (k : IntKind) (a b : Int) : Fr P (Op.intBits op k a b) := by
  unfold Op.intBits
  simp only
  split <;> first | exact Fr.pure _ | exact (Nev.stuck _).fr
theorem Fr.intArith (op : BinOp) (k : IntKind) (a b : Int) : Fr P (Op.intArith op k a b) := by
  unfold Op.intArith
  split <;> first | exact Fr.pure _ | exact (Nev.stuck _).fr
theorem Fr.intDiv (op : BinOp) (k : IntKind) (a b : Int) : Fr P (Op.intDiv op k a b) := by
  unfold Op.intDiv
  split
  · exact (Nev.runtimePanic _).fr
  · split <;> first | exact Fr.pure _ | exact (Nev.stuck _).fr
theorem Fr.shift (op : BinOp) (k : IntKind) (a : Int) (yk : IntKind) (b : Int) : Fr P (Op.shift op k a yk b) := by
  unfold Op.shift
  split
  · exact (Nev.runtimePanic _).fr
  · simp only
    split <;> first | exact Fr.pure _ | exact (Nev.stuck _).fr
theorem Fr.intCmp (op : BinOp) (a b : Int) : Fr P (Op.intCmp op a b) := by
  unfold Op.intCmp
  split <;> first | exact Fr.pure _ | exact (Nev.stuck _).fr
theorem Fr.unary (op : UnOp) (v : Value) : Fr P (Op.unary op v) := by
  unfold Op.unary
  split <;> first | exact Fr.pure _ | exact (Nev.unsupported _).fr | exact (Nev.stuck _).fr | exact Fr.intArith _ _ _ _ | exact Fr.intBits _ _ _ _
theorem Fr.binInt (op : BinOp) (t : TypeId) (k k' : IntKind) (a b : Int) : Fr P (binOp op t (.int k a) (.int k' b)) := by
  cases op <;> simp only [binOp]
  all_goals first
    | exact Fr.shift _ _ _ _ _
    | (split
       · exact (Nev.stuck _).fr
       · first | exact Fr.intArith _ _ _ _ | exact Fr.intDiv _ _ _ _ | exact Fr.intBits _ _ _ _ | exact Fr.intCmp _ _ _)
theorem Fr.guardInt (op : BinOp) (t : TypeId) (x y : Operand) (k k' : IntKind) (a b : Int) : Fr P (eqGuard op t x y (.int k a) (.int k' b)) := by
  unfold eqGuard
  simp only
  split <;> exact Fr.pure _
theorem Fr.slice (t : TypeId) (x : Value) (lo hi mx : Option Value) (hd : ∀ d, P.underlying t = some d → (d = .string ∨ ∃ e, d = .slice e)) : Fr P (Instr.sliceAt t x lo hi mx) := by
  have hu : ∀ {β : Type} {f : TypeDesc → Sem β}, (∀ d, (d = .string ∨ ∃ e, d = .slice e) → Fr P (f d)) → Fr P (Go.underlying t >>= f) := by
    intro β f hf
    cases h : P.underlying t with
    | none =>
      refine (Nev.bind_left ?_).fr
      intro w v w1 e
      unfold Go.underlying at e
      rw [Sem.run_bind] at e
      simp [Go.program, Sem.run, h, Result.andThen, Go.stuck] at e
    | some d =>
      intro w v w1 e
      have hr : ∀ w, (Go.underlying t).run P w = .ok d w := fun w => by
        unfold Go.underlying
        rw [Sem.run_bind]
        simp [Go.program, Sem.run, h, Result.andThen, Sem.run_pure]
      rw [Sem.run_bind, hr, Result.andThen_ok] at e
      obtain ⟨h1, h2⟩ := hf d (hd d h) _ _ _ e
      exact ⟨h1, fun w' => by rw [Sem.run_bind, hr, Result.andThen_ok, h2]⟩
  unfold Instr.sliceAt
  refine hu fun d hd' => ?_
  have : Fr P (Instr.slice t x lo hi mx) := by
    unfold Instr.slice
    refine hu fun d hd' => ?_
    rcases hd' with rfl | ⟨e, rfl⟩
    · cases x <;> simp only
      case string s =>
        split
        · exact (Nev.bind_left (Nev.stuck _)).fr
        · exact (Fr.sliceBounds _ _ _ _ _ _).bind fun _ => Fr.pure _
      all_goals exact (Nev.stuck _).fr
    · cases x <;> simp only
      case slice a len cap => exact (Fr.sliceBounds _ _ _ _ _ _).bind fun _ => (Fr.sizeOf _).bind fun _ => Fr.pure _
      all_goals exact (Nev.stuck _).fr
  rcases hd' with rfl | ⟨e, rfl⟩ <;> exact this
/-- What runs so yields a value, whatever the world. -/
def FrV (P : Program) (m : Sem Next) : Prop := Fr P m ∧ ∀ w n w1, m.run P w = .ok n w1 → ∃ u, n = .value u
theorem FrV.v {m : Sem Value} (h : Fr P m) : FrV P (m >>= fun x => Pure.pure (Next.value x)) := by
  refine ⟨h.bind fun _ => Fr.pure _, fun w n w1 e => ?_⟩
  rw [Sem.run_bind] at e
  cases hm : m.run P w with
  | halt x w2 => rw [hm] at e; cases e
  | ok u w2 =>
    rw [hm, Result.andThen_ok, Sem.run_pure] at e
    cases e
    exact ⟨_, rfl⟩
theorem FrV.pure (u : Value) : FrV P (Pure.pure (Next.value u) : Sem Next) := ⟨Fr.pure _, fun w n w1 e => by rw [Sem.run_pure] at e; cases e; exact ⟨_, rfl⟩⟩
theorem FrV.of_run {m : Sem Next} {u : Value} (h : ∀ w, m.run P w = .ok (.value u) w) : FrV P m :=
  ⟨fun w v w1 e => (by rw [h] at e; cases e; exact ⟨rfl, h⟩), fun w n w1 e => (by rw [h] at e; cases e; exact ⟨_, rfl⟩)⟩

variable {T : TypeId → Option TI} {look : Nat → Option Ob} {nx : Nat} {ev : Operand → Option TV} {Γ : FuncId → Option Cal}

theorem pure_fr (hT : TOk P T) {o : Oper} {v : TV} {up : List (Nat × Ob)} {nw : List Ob} {rd : List Nat} {a : Act} {w : World} {S : Nat → Prop} {π : Nat → Option Pl} (hp : pureB T o = true) (hev : evOk ev a w S π)
    (h : opK T Γ look nx ev o.op o.type ret4 = some (v, up, nw, rd)) : FrV P (execOp a.eval o) := by
  unfold pureB at hp
  split at hp
  case h_1 | h_2 => rename_i x ho; simp only [execOp, ho]; exact FrV.pure _
  case h_3 =>
    rename_i c x y ho
    simp only [execOp, ho]
    refine ⟨(Fr.asBool _).bind fun _ => Fr.pure _, fun w n w1 e => ?_⟩
    rw [Sem.run_bind] at e
    cases hm : (asBool (a.eval c)).run P w with
    | halt x w2 => rw [hm] at e; cases e
    | ok u w2 =>
      rw [hm, Result.andThen_ok, Sem.run_pure] at e
      cases e
      exact ⟨_, rfl⟩
  case h_4 => rename_i x i ho; simp only [execOp, ho]; exact FrV.v (Fr.extract _ _)
  case h_5 => rename_i t x i ho; simp only [execOp, ho]; exact FrV.v (Fr.indexAt _ _ _)
  case h_6 =>
    rename_i t x f ho
    rw [ho] at h
    simp only [opK] at h
    split at h
    · rename_i u hx
      have hv := hev x _ hx
      unfold fieldAddrK at h
      split at h
      · rename_i sz by' fs z hi
        split at h
        · rename_i ft fo hf
          split at h
          · cases h
          · rename_i hsz
            obtain ⟨F, hu, fd, hF, rfl, rfl⟩ := field_at hT hi rfl hf
            obtain ⟨i, hti, his⟩ := tsize_some hsz
            have hrun : ∀ (b o' : Nat), a.eval x = .pointer (some ⟨b, o', none⟩) → ∀ w, (execOp a.eval o).run P w = .ok (.value (.pointer (some ⟨b, o' + fd.offset, none⟩))) w := by
              intro b o' he w
              have hs := run_sizeOf (hT _ i hti) w
              have hne : i.size ≠ 0 := by omega
              simp [execOp, ho, Instr.fieldAt, run_underlying hu, hF, he, Instr.sureAddr, fieldPlace, hs, hne, Addr.add_lit]
            split at h
            · simp only [relTV] at hv
              obtain ⟨b, s, c, z, l, hp, he⟩ := hv
              exact FrV.of_run (hrun _ _ he)
            · simp only [relTV] at hv
              obtain ⟨b, s, c, z, l, hp, he⟩ := hv
              exact FrV.of_run (hrun _ _ he)
            · simp only [relTV, rel] at hv
              obtain ⟨b, o', he, _⟩ := hv
              exact FrV.of_run (hrun _ _ he)
            · cases h
        · cases h
      · cases h
    · cases h
  case h_7 =>
    rename_i t x lo hi mx ho
    simp only [execOp, ho]
    refine FrV.v (Fr.slice _ _ _ _ _ fun d hd => ?_)
    split at hp
    · rename_i hi
      have := (hT _ _ hi).desc
      simp only [descOk] at this
      rw [this] at hd; cases hd; exact .inl rfl
    · rename_i hi
      have := (hT _ _ hi).desc
      simp only [descOk] at this
      rw [this] at hd; cases hd; exact .inr ⟨_, rfl⟩
    · cases hp
  case h_8 => rename_i op t x ho; simp only [execOp, ho]; exact FrV.v (Fr.unary _ _)
  case h_9 =>
    rename_i op xt x y yt ho
    rw [ho] at h
    simp only [opK] at h
    split at hp
    case h_2 => cases hp
    rename_i sz by' ik z hi
    split at h
    · rename_i u u' hx hy
      unfold binK at h
      rw [hi] at h
      simp only at h
      have hvx := hev x _ hx
      have hvy := hev y _ hy
      have key : ∃ k a1 k' b1, a.eval x = .int k a1 ∧ a.eval y = .int k' b1 := by
        split at h
        · rename_i p q
          simp only [relTV] at hvx hvy
          split at h
          · split at h
            · obtain ⟨a1, ha, h'⟩ := bind_inv h
              obtain ⟨b1, hb, _⟩ := bind_inv h'
              cases asI_inv ha; cases asI_inv hb
              simp only [rel] at hvx hvy
              exact ⟨_, _, _, _, hvx, hvy⟩
            · cases h
          · split at h
            · obtain ⟨a1, ha, h'⟩ := bind_inv h
              obtain ⟨b1, hb, _⟩ := bind_inv h'
              cases asI_inv ha; cases asI_inv hb
              simp only [rel] at hvx hvy
              exact ⟨_, _, _, _, hvx, hvy⟩
            · cases h
          · obtain ⟨a1, ha, h'⟩ := bind_inv h
            obtain ⟨b1, hb, _⟩ := bind_inv h'
            cases asI_inv ha; cases asI_inv hb
            simp only [rel] at hvx hvy
            exact ⟨_, _, _, _, hvx, hvy⟩
        · cases h
      obtain ⟨k, a1, k', b1, e1, e2⟩ := key
      simp only [execOp, ho, e1, e2]
      exact FrV.v ((Fr.guardInt _ _ _ _ _ _ _ _).bind fun _ => Fr.binInt _ _ _ _ _ _)
    · cases h
  case h_10 =>
    rename_i c ho
    rw [ho] at h
    simp only [opK] at h
    split at hp
    case h_2 => cases hp
    rename_i t ts hc ht
    rw [hc, ht] at h
    cases hx : allSome (c.args.toList.map ev) with
    | none => rw [hx] at h; cases h
    | some xs =>
      rw [hx] at h
      cases xs with
      | nil => cases h
      | cons x xs =>
        cases xs with
        | cons => cases h
        | nil =>
          simp only at h
          obtain ⟨X, hX, hevX⟩ := list_one hx
          have hX' := arr_one hX
          have ht' := arr_head ht
          have hv := hev X _ hevX
          have hexec : ∀ (r : Value), (∀ ty w, (Builtin.len_ c.argTypes ty #[a.eval X]).run P w = .ok r w) → FrV P (execOp a.eval o) := by
            intro r hr
            refine FrV.of_run (u := r) fun w => ?_
            simp [execOp, ho, resolve, hc, hX', invoke, builtin, hr]
          unfold lenK at h
          split at hp
          · rename_i sz by' z hi
            have hu := (hT t _ hi).desc
            simp only [descOk] at hu
            rw [hi] at h
            simp only at h
            split at h
            · rename_i p
              obtain ⟨s, hs, h'⟩ := bind_inv h
              cases asS_inv hs
              simp only [relTV, rel] at hv
              exact hexec (.int .i64 s.size) fun ty w => by rw [hv]; simp [Builtin.len_, ht', run_underlying hu, goInt]
            · cases h
          · rename_i sz by' e z hi
            have hu := (hT t _ hi).desc
            simp only [descOk] at hu
            have hsl : ∀ A (n cap : Nat), a.eval X = .slice A n cap → FrV P (execOp a.eval o) := by
              intro A n cap he
              exact hexec (.int .i64 n) fun ty w => by rw [he]; simp [Builtin.len_, ht', run_underlying hu, goInt]
            rw [hi] at h
            simp only at h
            split at h
            · rename_i p
              obtain ⟨es, hs, h'⟩ := bind_inv h
              cases asFs_inv hs
              simp only [relTV, rel] at hv
              rcases hv with ⟨⟨A, he⟩, rfl⟩ | ⟨b, s, cap, sz', he, _⟩
              · exact hsl _ _ _ he
              · exact hsl _ _ _ he
            · simp only [relTV] at hv
              rcases hv with ⟨hp, he⟩ | ⟨b, s, c', z', l', ad, hp, he, _⟩
              · exact hsl _ _ _ he
              · exact hsl _ _ _ he
            · simp only [relTV] at hv
              rcases hv with ⟨_, he, _, rfl⟩ | ⟨b, s, c', z', l', ad, cv, hp, he, _⟩
              · exact hsl _ _ _ he
              · exact hsl _ _ _ he
            · simp only [relTV] at hv
              exact hsl _ _ _ hv
            · cases h
          · cases hp
  case h_11 =>
    rename_i x ho
    rw [ho] at h
    simp only [opK] at h
    split at h
    · rename_i i j hx
      have hv := hev x _ hx
      simp only [relTV] at hv
      obtain ⟨b, s, c, z, l, _, he⟩ := hv
      exact FrV.of_run (u := a.eval x) fun w => by simp [execOp, ho, he]
    · rename_i i j m hx
      have hv := hev x _ hx
      simp only [relTV] at hv
      obtain ⟨b, s, c, z, l, _, he⟩ := hv
      exact FrV.of_run (u := a.eval x) fun w => by simp [execOp, ho, he]
    · rename_i cs off hx
      have hv := hev x _ hx
      simp only [relTV, rel] at hv
      obtain ⟨b, s, he, _⟩ := hv
      exact FrV.of_run (u := a.eval x) fun w => by simp [execOp, ho, he]
    · rename_i f cs hx
      have hv := hev x _ hx
      simp only [relTV, rel] at hv
      obtain ⟨us, he, _⟩ := hv
      exact FrV.of_run (u := a.eval x) fun w => by simp [execOp, ho, he]
    · rename_i f cs hx
      have hv := hev x _ hx
      simp only [relTV] at hv
      obtain ⟨us, he, _⟩ := hv
      exact FrV.of_run (u := a.eval x) fun w => by simp [execOp, ho, he]
    · cases h
  case h_12 => cases hp
end
end Go.Proofs.YtpaifgipdhgfkaaGreatDoorV

/- The reading machine: regions whose order is drawn. -/
namespace Go.Proofs.YtpaifgipdhgfkaaGreatDoorV
open Go Go.RowKit

section
variable {P : Program} {T : TypeId → Option TI} {G : Nat → Option (List PV)} {Γ : FuncId → Option Cal}

theorem Goes.trans {us0 : Rts} {w : World} {S : Nat → Prop} {π : Nat → Option Pl} {s s1 s' : St} {a' : Act} {w1 w' : World} {S1 : Nat → Prop} {π1 : Nat → Option Pl} (h : Step w S (s.own π) w1 S1 (s1.own π1)) (k : Goes G us0 w1 S1 π1 s1 a' w' s') : Goes G us0 w S π s a' w' s' := by
  obtain ⟨S2, π2, h1, h2⟩ := k
  exact ⟨S2, π2, h1, h.trans h2⟩

theorem meet_self {R : Type} (x : Option R) : meet x x = x := by
  unfold meet
  rw [if_pos rfl]
theorem meetAll_inv {R : Type} {r : R} : ∀ {l : List (Option R)}, meetAll l = some r → ∀ x ∈ l, x = some r
  | [], h, _, _ => by cases h
  | [x], h, y, hy => by
    simp only [List.mem_singleton] at hy
    subst hy
    exact h
  | x :: y :: l, h, z, hz => by
    simp only [meetAll] at h
    obtain ⟨h1, h2⟩ := meet_inv h
    simp only [List.mem_cons] at hz
    rcases hz with rfl | hz
    · exact h1
    · exact meetAll_inv h2 z (by simpa using hz)

/-- Memory that is to be read is as it was. -/
def Held (S : Nat → Prop) (w0 w : World) : Prop := ∀ b, S b → w.heap[b]? = w0.heap[b]?

theorem pureS_op4 {s : St} {o : Oper} (hp : pureS T G s o = true) : frzOf (fun i => s.ob[i]?) (evS G s) o.op = [] ∧ inlOf Γ (evS G s) o.op = none ∧ nilOf T (fun i => s.ob[i]?) (evS G s) o.op = none ∧ mitOf (fun i => s.ob[i]?) (evS G s) o.op = none := by
  unfold pureS at hp
  split at hp
  · rename_i t x ho
    rw [ho]
    exact ⟨rfl, rfl, rfl, rfl⟩
  · unfold pureB at hp
    split at hp
    case h_9 =>
      rename_i op xt x y yt ho
      rw [ho]
      split at hp
      · rename_i hi
        refine ⟨rfl, rfl, ?_, rfl⟩
        unfold nilOf
        split
        · rename_i heq
          cases heq
          rw [hi]
          cases op <;> rfl
        · rfl
      · cases hp
    case h_10 =>
      rename_i c ho
      rw [ho]
      split at hp
      · rename_i hc _
        exact ⟨rfl, by simp only [inlOf, hc], rfl, rfl⟩
      · cases hp
    all_goals first | (rename_i ho; rw [ho]; exact ⟨rfl, rfl, rfl, rfl⟩) | cases hp
theorem pureS_op {s : St} {o : Oper} (hp : pureS T G s o = true) : frzOf (fun i => s.ob[i]?) (evS G s) o.op = [] ∧ inlOf Γ (evS G s) o.op = none ∧ nilOf T (fun i => s.ob[i]?) (evS G s) o.op = none ∧ mitOf (fun i => s.ob[i]?) (evS G s) o.op = none ∧ roOf Γ o = false := by
  obtain ⟨h1, h2, h3, h4⟩ := pureS_op4 (Γ := Γ) hp
  refine ⟨h1, h2, h3, h4, ?_⟩
  unfold roOf
  split
  · rename_i hop hd
    unfold pureS pureB at hp
    rw [hop] at hp
    simp at hp
  · rfl

theorem pureS_ok (hT : TOk P T) {o : Oper} {s : St} {v : TV} {up : List (Nat × Ob)} {nw : List Ob} {rd : List Nat} {us0 : Rts} {a : Act} {w : World} {S : Nat → Prop} {π : Nat → Option Pl} (hp : pureS T G s o = true) (hn : Now G us0 w S π a s)
    (h : opK T Γ (fun i => s.ob[i]?) s.ob.length (evS G s) o.op o.type ret4 = some (v, up, nw, rd)) (hh : ∃ n w1, (execOp a.eval o).run P w = .ok n w1) :
    ∃ u, ∀ w', Held S w w' → (execOp a.eval o).run P w' = .ok (.value u) w' := by
  unfold pureS at hp
  split at hp
  · rename_i t x ho
    rw [ho] at h
    simp only [opK] at h
    split at hp
    · rename_i cs off hx
      rw [hx] at h
      cases hi : T t with
      | none => rw [hi] at h; simp only [reduceCtorEq] at h
      | some i =>
        rw [hi] at h
        simp only at h
        exact load_held hT ho hx (by rw [hi]; rfl) h hn.ev
    · cases hp
  · obtain ⟨hf1, hf2⟩ := pure_fr hT hp hn.ev h
    obtain ⟨n, w1, hr⟩ := hh
    obtain ⟨u, rfl⟩ := hf2 _ _ _ hr
    exact ⟨u, fun w' _ => (hf1 _ _ _ hr).2 w'⟩

/-- A world has grown: what was there is as it was. -/
def Gr (w w' : World) : Prop := w'.os = w.os ∧ w'.tape = w.tape ∧ w'.output = w.output ∧ w.heap.size ≤ w'.heap.size ∧ ∀ b, b < w.heap.size → w'.heap[b]? = w.heap[b]?
theorem Gr.refl (w : World) : Gr w w := ⟨rfl, rfl, rfl, Nat.le_refl _, fun _ _ => rfl⟩
theorem Gr.trans {w w1 w2 : World} (h : Gr w w1) (k : Gr w1 w2) : Gr w w2 :=
  ⟨k.1.trans h.1, k.2.1.trans h.2.1, k.2.2.1.trans h.2.2.1, Nat.le_trans h.2.2.2.1 k.2.2.2.1, fun b hb => (k.2.2.2.2 b (Nat.lt_of_lt_of_le hb h.2.2.2.1)).trans (h.2.2.2.2 b hb)⟩
theorem Gr.step {w w' : World} (h : Gr w w') (S O : Nat → Prop) : Step w S O w' S O :=
  ⟨h.1, h.2.1, h.2.2.1, h.2.2.2.1, fun b hb _ => h.2.2.2.2 b hb, fun _ h => h, fun _ h => .inl h, fun _ h => .inl h⟩
/-- Memory that is to be read is there, as it was. -/
def HeldG (S : Nat → Prop) (w0 w : World) : Prop := ∀ b, S b → b < w.heap.size ∧ w.heap[b]? = w0.heap[b]?
theorem HeldG.held {S : Nat → Prop} {w0 w : World} (h : HeldG S w0 w) : Held S w0 w := fun b hb => (h b hb).2
theorem HeldG.grow {S : Nat → Prop} {w0 w w' : World} (h : HeldG S w0 w) (g : Gr w w') : HeldG S w0 w' := fun b hb => ⟨Nat.lt_of_lt_of_le (h b hb).1 g.2.2.2.1, (g.2.2.2.2 b (h b hb).1).trans (h b hb).2⟩
theorem HeldG.keep {S : Nat → Prop} {w0 w : World} (h : HeldG S w0 w) : Keep w0 S w S := ⟨fun b hb => (h b hb).2, fun _ h => h⟩
theorem Now.grow {us0 : Rts} {w w' : World} {S : Nat → Prop} {π : Nat → Option Pl} {a : Act} {s : St} (hn : Now G us0 w S π a s) (g : Gr w w') : Now G us0 w' S π a s := by
  have hk : Keep w S w' S := ⟨fun b hb => g.2.2.2.2 b (hn.ob.st b hb), fun _ h => h⟩
  refine ⟨hn.df, hn.len, fun i v hv => relTV_keep hk (Ext.refl _) _ _ (hn.tm i v hv), ?_, hn.pl, relTVs_keep hk (Ext.refl _) _ _ hn.roots, hn.places, hn.go.keep hk⟩
  refine ⟨fun id o h => ?_, hn.ob.apart, fun b hb => ⟨(hn.ob.out b hb).1, Nat.lt_of_lt_of_le (hn.ob.out b hb).2 g.2.2.2.1⟩, fun b hb => Nat.lt_of_lt_of_le (hn.ob.st b hb) g.2.2.2.1⟩
  obtain ⟨pl, h1, h2⟩ := hn.ob.ok id o h
  exact ⟨pl, h1, obOk_keep hk (Ext.refl _) o pl (fun hl b hb => g.2.2.2.2 b (hn.ob.out b ⟨id, o, pl, h, hl, h1, hb⟩).2) h2⟩

/-- What an operation that only asks does, wherever it stands: one value, whatever the world; the world has at most grown. -/
def Asked (P : Program) (v : Value) (w : World) : Result Next → Prop
  | .ok (.value u) w' => u = v ∧ Gr w w'
  | .ok (.enter f as) w' => Calls P f as w' fun e w'' => e = .returned v ∧ Gr w w''
  | _ => False
def YieldsG (P : Program) (ops : Array Oper) (S : World → Prop) (o : Oper) (v : Value) (a : Act) : Prop :=
  (Region.wanted o (yielded ops a.tmps) = true ∧ ∀ w, S w → Asked P v w ((execOp a.eval o).run P w)) ∨ (Region.wanted o (yielded ops a.tmps) = false ∧ v = undef)
theorem YieldsG.go {ops : Array Oper} {S : World → Prop} {Q : Exit → Act → World → Prop} {i : Nat} {o : Oper} {v : Value} {a : Act} (hi : ops[i]? = some o) (hy : YieldsG P ops S o v a)
    {K : Act → World → Prop} {w : World} (hS : S w) (h : ∀ w', Gr w w' → K (a.put o.dst v) w') : wpOp P ops Q i K a w := by
  unfold wpOp
  simp only [hi]
  rcases hy with ⟨hw, hv⟩ | ⟨hw, rfl⟩
  · simp only [hw, if_true]
    refine .inl ?_
    unfold Oper.wp
    have := hv w hS
    unfold Asked at this
    split at this
    · rename_i e
      rw [e, Oper.upon_value, this.1]
      exact h _ this.2
    · rename_i e
      rw [e, Oper.upon_enter]
      refine this.mono fun e w'' ⟨h1, h2⟩ => ?_
      subst h1
      exact h _ h2
    · exact this.elim
  · simp only [hw, Bool.false_eq_true, if_false]
    exact h _ (Gr.refl _)
/-- Two states in which an operation does the same. -/
def Alike2 (ops : Array Oper) (o : Oper) (a a' : Act) : Prop := execOp a'.eval o = execOp a.eval o ∧ Region.wanted o (yielded ops a'.tmps) = Region.wanted o (yielded ops a.tmps)
theorem YieldsG.same {ops : Array Oper} {S : World → Prop} {o : Oper} {v : Value} {a a' : Act} (hy : YieldsG P ops S o v a) (h : Alike2 ops o a a') : YieldsG P ops S o v a' := by
  unfold YieldsG
  rw [h.1, h.2]
  exact hy
/-- An operation apart from another: a value that the other has left makes no difference. -/
theorem wpOp_behind {ops : Array Oper} {Q : Exit → Act → World → Prop} {j : Nat} {oi oj : Oper} {v : Value} (hj : ops[j]? = some oj) (hap : oi.apart ops oj = true) (hs : ∀ (j : Nat) (o : Oper) cs b, ops[j]? = some o → o.op ≠ .select cs b) {i : Nat} (hi : ops[i]? = some oi)
    (hQ : ∀ c a w, ¬ Q (.panic c) a w) {K : Act → World → Prop} {a : Act} {w : World} (h : wpOp P ops Q j K (a.put oi.dst v) w) : wpOp P ops Q j (fun a' w' => Alike2 ops oi a a' ∧ K (a'.put oi.dst v) w') a w := by
  obtain ⟨p1, p2, p3⟩ := Oper.apart_spec hap
  have eo : execOp (a.put oi.dst v).eval oj = execOp a.eval oj := execOp_put oj (fun cs b => hs j oj cs b hj) a oi.dst v p1
  have sm : ∀ u, Alike2 ops oi a (a.put oj.dst u) := fun u => ⟨execOp_put oi (fun cs b => hs i oi cs b hi) a oj.dst u p3, wanted_put oi a oj.dst u p3⟩
  have fin : ∀ u w', K ((a.put oi.dst v).put oj.dst u) w' → Alike2 ops oi a (a.put oj.dst u) ∧ K ((a.put oj.dst u).put oi.dst v) w' := fun u w' hk => ⟨sm u, by rw [← Act.put_comm a v u p2]; exact hk⟩
  unfold wpOp at h ⊢
  rw [hj] at h ⊢
  simp only at h ⊢
  rw [wanted_put oj a oi.dst v p1] at h
  cases hw : Region.wanted oj (yielded ops a.tmps) with
  | false =>
    rw [hw] at h
    simp only [Bool.false_eq_true, if_false] at h ⊢
    exact fin _ _ h
  | true =>
    rw [hw] at h
    simp only [if_true] at h ⊢
    refine h.imp (fun h => ?_) fun h => ⟨by have := h.1; unfold Oper.asks at this ⊢; rwa [eo] at this, h.2⟩
    unfold Oper.wp at h ⊢
    rw [eo] at h
    cases hr : (execOp a.eval oj).run P w with
    | halt x w' =>
      rw [hr] at h
      cases x with
      | panic u => rw [Oper.upon_panic] at h; exact absurd h (hQ _ _ _)
      | _ => exact h
    | ok n w' =>
      rw [hr] at h
      cases n with
      | value u => exact fin u w' h
      | skip => exact fin _ w' h
      | defer d =>
        rw [Oper.upon_defer] at h ⊢
        have hd : Alike2 ops oi a ({ a with defers := d :: a.defers }.put oj.dst undef) := by
          have h1 := sm undef
          exact ⟨(execOp_put oi (fun cs b => hs i oi cs b hi) _ oj.dst undef p3).trans rfl, (wanted_put oi _ oj.dst undef p3).trans rfl⟩
        refine ⟨hd, ?_⟩
        rw [Act.put_defers, Act.put_comm _ v undef p2] at h
        exact h
      | enter f as =>
        rw [Oper.upon_enter] at h ⊢
        refine h.mono fun e w'' he => ?_
        cases e with
        | returned u => exact fin u w'' he
        | panicked c => exact absurd he (hQ _ _ _)
        | outgrown => exact he
      | row r as =>
        rw [Oper.upon_row] at h ⊢
        exact Rows.mono h fun u w'' he => fin u w'' he
      | _ => exact h

/-- Whatever order is picked from here on; behind each operation the world may have grown. -/
def wpAnyG (P : Program) (md : Region.Mode) (ops : Array Oper) (Q : Exit → Act → World → Prop) (S : World → Prop) : Nat → Array Bool → Act → World → Prop
  | 0, listed, a, w => Region.ready md ops listed = [] ∧ Q .normal a w
  | n + 1, listed, a, w => (Region.ready md ops listed = [] → Q .normal a w) ∧ ∀ i ∈ Region.ready md ops listed, wpOp P ops Q i (fun a' w' => S w' ∧ ∀ w'', Gr w' w'' → wpAnyG P md ops Q S n (listed.setIfInBounds i true) a' w'') a w
theorem wpAnyG_any {ops : Array Oper} {md : Region.Mode} {Q : Exit → Act → World → Prop} {S : World → Prop} : ∀ (n : Nat) (listed : Array Bool) (a : Act) (w : World), wpAnyG P md ops Q S n listed a w → wpAny P md ops Q n listed a w
  | 0, _, _, _, h => h
  | n + 1, _, _, _, h => ⟨h.1, fun i hi => wpOp_mono (fun a' w' h' => wpAnyG_any n _ a' w' (h'.2 w' (Gr.refl _))) (h.2 i hi)⟩
theorem wpAnyG_mono {ops : Array Oper} {md : Region.Mode} {Q : Exit → Act → World → Prop} {S S' : World → Prop} (hh : ∀ w, S w → S' w) : ∀ (n : Nat) (listed : Array Bool) (a : Act) (w : World), wpAnyG P md ops Q S n listed a w → wpAnyG P md ops Q S' n listed a w
  | 0, _, _, _, h => h
  | n + 1, _, _, _, h => ⟨h.1, fun i hi => wpOp_mono (fun a' w' h2 => ⟨hh _ h2.1, fun w'' hg => wpAnyG_mono hh n _ a' w'' (h2.2 w'' hg)⟩) (h.2 i hi)⟩
theorem wpAnyG_done {ops : Array Oper} {md : Region.Mode} {Q : Exit → Act → World → Prop} {S : World → Prop} {listed : Array Bool} {a : Act} {w : World} (hr : Region.ready md ops listed = []) (h : Q .normal a w) : ∀ n, wpAnyG P md ops Q S n listed a w
  | 0 => ⟨hr, h⟩
  | _ + 1 => ⟨fun _ => h, by rw [hr]; simp⟩
/-- One that only asks may come first. -/
theorem wpAnyG_first {ops : Array Oper} {md : Region.Mode} {Q : Exit → Act → World → Prop} {S : World → Prop} (hSg : ∀ w w', S w → Gr w w' → S w') (hQ : ∀ c a w, ¬ Q (.panic c) a w) {i : Nat} {oi : Oper} {v : Value} (hi : ops[i]? = some oi)
    (hs : ∀ (j : Nat) (o : Oper) cs b, ops[j]? = some o → o.op ≠ .select cs b) : ∀ (n : Nat) (listed : Array Bool) (a : Act) (w : World),
      (∀ j oj, ops[j]? = some oj → j ≠ i → listed.getD j true = false → (∀ e ∈ oj.after, Region.binds md e = true → e.on ≠ i) → oi.apart ops oj = true) →
      i ∈ Region.ready md ops listed → YieldsG P ops S oi v a → S w → (∀ w1, Gr w w1 → wpAnyG P md ops Q S n (listed.setIfInBounds i true) (a.put oi.dst v) w1) → wpAnyG P md ops Q S (n + 1) listed a w := by
  intro n
  induction n with
  | zero =>
    intro listed a w _ hr hy hS H
    refine ⟨fun h => (by rw [h] at hr; cases hr), fun j hj => ?_⟩
    by_cases e : j = i
    · subst e
      exact hy.go hi hS fun w' hg => ⟨hSg w w' hS hg, fun w'' hg' => H w'' (hg.trans hg')⟩
    · have := ready_mono hj e
      rw [(H w (Gr.refl _)).1] at this
      cases this
  | succ n ih =>
    intro listed a w hf hr hy hS H
    refine ⟨fun h => (by rw [h] at hr; cases hr), fun j hj => ?_⟩
    by_cases e : j = i
    · subst e
      exact hy.go hi hS fun w' hg => ⟨hSg w w' hS hg, fun w'' hg' => H w'' (hg.trans hg')⟩
    · have h1 := (H w (Gr.refl _)).2 j (ready_mono hj e)
      obtain ⟨hun, oj, hoj, hall⟩ := mem_ready.1 hj
      have hno : ∀ e ∈ oj.after, Region.binds md e = true → e.on ≠ i := fun d hd hb heq => by
        have g1 := hall d hd hb
        have g0 := (mem_ready.1 hr).1
        rw [heq] at g1
        simp only [Array.getD_eq_getD_getElem?] at g0 g1
        cases hl : listed[i]? with
        | none => rw [hl] at g1; cases g1
        | some b => rw [hl] at g0 g1; simp only [Option.getD_some] at g0 g1; rw [g0] at g1; cases g1
      have h2 := wpOp_behind hoj (hf j oj hoj e hun hno) hs hi hQ h1
      refine wpOp_mono (fun a' w' h3 => ⟨h3.2.1, fun w'' hg => ?_⟩) h2
      refine ih (listed.setIfInBounds j true) a' w'' (fun k ok hk hki huk hnk => hf k ok hk hki ?_ hnk) (ready_mono hr (Ne.symm e)) (hy.same h3.1) (hSg _ _ h3.2.1 hg) fun w1 hg1 => ?_
      · by_cases hjk : j = k
        · subst hjk; exact hun
        · rw [getD_set_ne true hjk] at huk; exact huk
      · rw [Array.setIfInBounds_comm _ _ e]
        exact h3.2.2 w1 (hg.trans hg1)

/-- What a question comes to. -/
theorem calm_call {Γ : FuncId → Option Cal} {look : Nat → Option Ob} {nx : Nat} {g : FuncId} {ct : Ctr} {args : List TV} {ty : TypeId} {v : TV} {up : List (Nat × Ob)} {nw : List Ob} {rd : List Nat} (hg : Γ g = some (.ctr ct)) (hb : baseT T ty = true) (ha : args.all isVal = true) (h1 : ct.scal = true) (h2 : ct.modes.all Option.isNone = true) (h3 : isD ct.res = true)
    (h : callK Γ look nx g args (resK T ty ret4) = some (v, up, nw, rd)) : up = [] ∧ nw = [] ∧ (∃ p u, v = .val p ∧ ∀ w S x, rel w S p x ↔ x = u) ∧ callK Γ (fun _ => none) 0 g args (resK T ty ret4) = some (v, [], [], []) := by
  have hgat : ∀ (look : Nat → Option Ob) (ms : List (Option (Shp × Bool))) (as : List TV), ms.all Option.isNone = true → as.all isVal = true → ∀ a, gather look ms as = some a → a.lins = [] ∧ a.lent = [] ∧ gather (fun _ => none) ms as = some a := by
    intro look ms
    induction ms with
    | nil =>
      intro as _ _ a ha
      cases as with
      | nil => simp only [gather] at ha ⊢; cases ha; exact ⟨rfl, rfl, rfl⟩
      | cons => simp [gather] at ha
    | cons m ms ih =>
      intro as hm has a ha
      cases as with
      | nil => cases m <;> simp [gather] at ha
      | cons x as =>
        simp only [List.all_cons, Bool.and_eq_true] at hm has
        cases m with
        | some => cases hm.1
        | none =>
          cases x <;> simp only [isVal, Bool.false_eq_true, false_and] at has
          rename_i p
          simp only [gather, reify] at ha ⊢
          cases hq : gather look ms as with
          | none => rw [hq] at ha; cases ha
          | some b =>
            rw [hq] at ha
            cases ha
            obtain ⟨i1, i2, i3⟩ := ih as hm.2 has.2 b hq
            rw [i3]
            exact ⟨i1, by simpa using i2, rfl⟩
  unfold callK at h ⊢
  rw [hg] at h ⊢
  simp only at h ⊢
  cases ha' : gather look ct.modes args with
  | none => rw [ha'] at h; cases h
  | some a =>
    obtain ⟨l1, l2, l3⟩ := hgat look ct.modes args h2 ha a ha'
    rw [ha'] at h
    rw [l3]
    simp only [l1, l2, List.flatMap_nil, noDup, List.all_nil, Bool.and_self, if_true, h1, List.append_nil, List.nil_append, outsK] at h ⊢
    cases hD : ct.D a.ps with
    | none => rw [hD] at h; cases h
    | some y =>
      rw [hD] at h
      simp only [Option.bind_some] at h ⊢
      cases hR : ct.res <;> rw [hR] at h h3 <;> simp only [isD, Bool.false_eq_true] at h3
      simp only [impK, resK, List.length_nil, Nat.add_zero, List.append_nil] at h ⊢
      have hv : up = [] ∧ nw = [] ∧ rd = [] ∧ ∃ p u, v = .val p ∧ ∀ w S x, rel w S p x ↔ x = u := by
        unfold baseT at hb
        unfold coeK at h
        split at hb
        · rename_i hT
          rw [hT] at h
          simp only at h
          obtain ⟨n, hn, hk⟩ := bind_inv h
          cases hk
          exact ⟨rfl, rfl, rfl, _, .int _ n, rfl, fun w S x => by simp only [rel]; exact Iff.rfl⟩
        · rename_i hT
          rw [hT] at h
          simp only at h
          obtain ⟨n, hn, hk⟩ := bind_inv h
          cases hk
          exact ⟨rfl, rfl, rfl, _, .bool n, rfl, fun w S x => by simp only [rel]⟩
        · rename_i hT
          rw [hT] at h
          simp only at h
          obtain ⟨n, hn, hk⟩ := bind_inv h
          cases hk
          exact ⟨rfl, rfl, rfl, _, .string n, rfl, fun w S x => by simp only [rel]⟩
        · cases hb
      obtain ⟨rfl, rfl, rfl, hv⟩ := hv
      exact ⟨rfl, rfl, hv, h⟩

theorem calmS_inv {Γ : FuncId → Option Cal} {s : St} {o : Oper} (h : calmS T G Γ s o = true) : ∃ c f args g ct, o.op = .call c ∧ c.callee = .value f ∧ allSome (c.args.toList.map (evS G s)) = some args ∧ evS G s f = some (.val (.fn (.func g) [])) ∧ Γ g = some (.ctr ct) ∧
    baseT T o.type = true ∧ args.all isVal = true ∧ ct.scal = true ∧ ct.modes.all Option.isNone = true ∧ isD ct.res = true := by
  unfold calmS at h
  split at h
  case h_2 => cases h
  rename_i c ho
  split at h
  case h_2 => cases h
  rename_i f hc
  split at h
  case h_2 => cases h
  rename_i args g ha hf
  split at h
  case h_2 => cases h
  rename_i ct hg
  simp only [Bool.and_eq_true] at h
  exact ⟨c, f, args, g, ct, ho, hc, ha, hf, hg, h.1.1.1.1, h.1.1.1.2, h.1.1.2, h.1.2, h.2⟩
theorem relTVs_val_keep {w w' : World} {S : Nat → Prop} {π π' : Nat → Option Pl} (hk : Keep w S w' S) : ∀ (args : List TV) (us : List Value), args.all isVal = true → relTVs w S π args us → relTVs w' S π' args us
  | [], us, _, h => by simp only [relTVs] at h ⊢; exact h
  | t :: args, us, ha, h => by
    simp only [List.all_cons, Bool.and_eq_true] at ha
    cases t <;> simp only [isVal, Bool.false_eq_true, false_and] at ha
    rename_i p
    simp only [relTVs] at h ⊢
    obtain ⟨u, us', rfl, h1, h2⟩ := h
    exact ⟨u, us', rfl, by simp only [relTV] at h1 ⊢; exact rel_keep hk _ _ h1, relTVs_val_keep hk args us' ha.2 h2⟩
theorem calm_ok (hΓ : CalsOk P G Γ) {o : Oper} {s : St} {v : TV} {up : List (Nat × Ob)} {nw : List Ob} {rd : List Nat} {us0 : Rts} {a : Act} {w : World} {S : Nat → Prop} {π : Nat → Option Pl} (hp : calmS T G Γ s o = true) (hn : Now G us0 w S π a s)
    (h : opK T Γ (fun i => s.ob[i]?) s.ob.length (evS G s) o.op o.type ret4 = some (v, up, nw, rd)) :
    up = [] ∧ nw = [] ∧ ∃ u, relTV w S π v u ∧ ∀ w', HeldG S w w' → Asked P u w' ((execOp a.eval o).run P w') := by
  obtain ⟨c, f, args, g, ct, ho, hc, ha, hf, hg, hb, hv, h1, h2, h3⟩ := calmS_inv hp
  have hcall : callK Γ (fun i => s.ob[i]?) s.ob.length g args (resK T o.type ret4) = some (v, up, nw, rd) := by
    rw [ho] at h
    simp only [opK, hc, ha, hf, List.map_nil, List.append_nil] at h
    exact h
  obtain ⟨rfl, rfl, ⟨p, u, rfl, hu⟩, hcall'⟩ := calm_call hg hb hv h1 h2 h3 hcall
  refine ⟨rfl, rfl, u, by simp only [relTV]; exact (hu _ _ _).2 rfl, fun w' hh => ?_⟩
  have hrel := relTVs_val_keep (π' := fun _ => none) hh.keep _ _ hv (evOk_all hn.ev ha)
  have hfun : a.eval f = .func (.func g) #[] #[] := by
    have := hn.ev f _ hf
    simp only [relTV, rel] at this
    obtain ⟨us, h4, h5⟩ := this
    simp only [relL] at h5
    rw [h4]
    congr 1
    exact Array.ext' h5
  have happ := apply_ok (w := w') (S := S) (π := fun _ => none) hg (hΓ.ctr g ct hg) hcall' (hn.go.keep hh.keep) hrel
    ⟨fun id o h => (by cases h), fun i j oi oj pi pj b h => (by cases h), fun b ⟨id, o, pl, h, _⟩ => (by cases h), fun b hb => (hh b hb).1⟩ (fun j hj => (by cases hj))
  have hexec : (execOp a.eval o).run P w' = (callFunc g (c.args.map a.eval)).run P w' := by
    simp [execOp, ho, resolve, hc, hfun, Deferred.ofValue, invoke]
  have harr : (c.args.toList.map a.eval).toArray = c.args.map a.eval := by
    apply Array.ext'
    simp
  rw [harr] at happ
  rw [hexec]
  have fin : ∀ u' w'', (∃ S' π', After w' S (fun _ => none) (fun _ => none) 0 (.val p) [] [] u' w'' S' π') → u' = u ∧ Gr w' w'' := by
    rintro u' w'' ⟨S', π', hA⟩
    have hr := hA.v
    simp only [relTV] at hr
    exact ⟨(hu _ _ _).1 hr, hA.step.os, hA.step.tape, hA.step.output, hA.step.size, fun b hb => hA.step.same b hb fun ⟨id, o, pl, h, _⟩ => (by cases h)⟩
  unfold Applies at happ
  unfold Asked
  split at happ
  · rename_i e
    rw [e]
    exact happ.mono fun e w'' ⟨u', h1, h2⟩ => by
      obtain ⟨rfl, hg⟩ := fin _ _ h2
      exact ⟨h1, hg⟩
  · rename_i e
    rw [e]
    obtain ⟨e', hg⟩ := fin _ _ happ
    exact ⟨e', hg⟩
  · exact happ.elim

/-- What a step behind a test comes to. -/
theorem gK_ok {R : Type} (hT : TOk P T) (hΓ : CalsOk P G Γ) {ops : Array Oper} {i : Nat} {o : Oper} (ho : ops[i]? = some o) {s : St} {k : St → Option R} {r : R} (h : gK T G Γ ops o s k = some r) :
    ∀ us0 w S π a, Now G us0 w S π a s → (∀ (Q : Exit → Act → World → Prop) (K : Act → World → Prop), (∀ s' a' w', k s' = some r → Goes G us0 w S π s a' w' s' → K a' w') → wpOp P ops Q i K a w) ∧
      (firstS T G Γ s o = true → ∃ s' u, k s' = some r ∧ YieldsG P ops (HeldG S w) o u a ∧ Goes G us0 w S π s (a.put o.dst u) w s') := by
  -- the step itself
  have go : ∀ s0, stepK T G Γ o s0 (fun s' _ => k s') = some r → ∀ us0 w S π a, Now G us0 w S π a s0 → (∀ (Q : Exit → Act → World → Prop) (K : Act → World → Prop), (∀ s' a' w', k s' = some r → Goes G us0 w S π s0 a' w' s' → K a' w') → o.wp P a w K Q) ∧
      (firstS T G Γ s0 o = true → ∃ s' u, k s' = some r ∧ (∀ w', HeldG S w w' → Asked P u w' ((execOp a.eval o).run P w')) ∧ Goes G us0 w S π s0 (a.put o.dst u) w s') := by
    intro s0 h0 us0 w S π a hn
    refine ⟨fun Q K hK => step_ok hT hΓ h0 us0 w S π a hn K Q fun s' _ a' w' h1 h2 => hK s' a' w' h1 h2, fun hp => ?_⟩
    have e12 : frzOf (fun i => s0.ob[i]?) (evS G s0) o.op = [] ∧ inlOf Γ (evS G s0) o.op = none ∧ nilOf T (fun i => s0.ob[i]?) (evS G s0) o.op = none ∧ mitOf (fun i => s0.ob[i]?) (evS G s0) o.op = none ∧ roOf Γ o = false := by
      unfold firstS at hp
      simp only [Bool.or_eq_true] at hp
      rcases hp with hp | hp
      · exact pureS_op hp
      · obtain ⟨c, f, args, g, ct, ho, hc, ha, hf, hg, _⟩ := calmS_inv hp
        rw [ho]
        refine ⟨rfl, ?_, rfl, rfl, by unfold roOf; rw [ho]⟩
        simp only [inlOf, hc, ha, hf, hg]
    obtain ⟨e1, e2, e3, e4, e5⟩ := e12
    have e6 : bsOf T Γ (evS G s0) o = none := by
      unfold bsOf
      split
      · rename_i t n parts d hop hd
        unfold firstS pureS pureB calmS at hp
        rw [hop] at hp
        simp at hp
      · rfl
    unfold stepK at h0
    rw [e6] at h0
    simp only at h0
    rw [e1] at h0
    simp only [frzSt, List.isEmpty_nil, cond_true] at h0
    unfold stepK2 at h0
    rw [e3] at h0
    simp only at h0
    rw [e4] at h0
    simp only at h0
    rw [e2] at h0
    simp only at h0
    rw [e5, cond_false] at h0
    unfold stepK1 at h0
    rw [opK_nat] at h0
    obtain ⟨⟨v, up, nw, rd⟩, h1, h2⟩ := bind_inv h0
    simp only [unc] at h2
    cases hup : (up.all fun x => decide (x.1 < s0.ob.length)) with
    | false => rw [hup] at h2; cases h2
    | true =>
      rw [hup] at h2
      simp only [cond_true] at h2
      have fin : ∀ u w' S' π', After w S π (fun i => s0.ob[i]?) s0.ob.length v up nw u w' S' π' → Goes G us0 w S π s0 (a.put o.dst u) w' (s0.put o.dst v up nw) := fun u w' S' π' hA => ⟨S', π', hn.put hup hA, by
        have := hA.step
        unfold St.own
        rw [put_look hup]
        exact this⟩
      unfold firstS at hp
      simp only [Bool.or_eq_true] at hp
      rcases hp with hp | hp
      case inr =>
        obtain ⟨rfl, rfl, u, hu, hask⟩ := calm_ok hΓ hp hn h1
        exact ⟨_, u, h2, hask, fin u w S π ⟨hu, by rw [upd_nil]; exact hn.ob, Ext.refl _, fun id h => .inl h, by rw [upd_nil]; exact Step.refl _ _ _⟩⟩
      have hw := op_ok hT hΓ.ctr h1 a w S π hn.go hn.ev hn.ob (hn.free _) (fun a' w' => Goes G us0 w S π s0 a' w' (s0.put o.dst v up nw)) (fun _ _ _ => False) fun u w' S' π' hA => fin u w' S' π' hA
      unfold Oper.wp at hw
      have hh : ∃ n w1, (execOp a.eval o).run P w = .ok n w1 := by
        cases hr : (execOp a.eval o).run P w with
        | ok n w1 => exact ⟨n, w1, rfl⟩
        | halt x w1 =>
          rw [hr] at hw
          cases x <;> simp only [Oper.upon] at hw
      obtain ⟨u, hu⟩ := pureS_ok hT hp hn h1 hh
      rw [hu w fun _ _ => rfl, Oper.upon_value] at hw
      exact ⟨_, u, h2, fun w' hh => (by rw [hu w' hh.held]; exact ⟨rfl, Gr.refl _⟩), hw⟩
  intro us0 w S π a hn
  unfold gK at h
  split at h
  · rename_i hg
    obtain ⟨g1, g2⟩ := go s h us0 w S π a hn
    have hw : Region.wanted o (yielded ops a.tmps) = true := by simp [Region.wanted, hg]
    refine ⟨fun Q K hK => ?_, fun hp => ?_⟩
    · unfold wpOp
      simp only [ho, hw, if_true]
      exact .inl (g1 Q K hK)
    · obtain ⟨s', u, h2, h3, h4⟩ := g2 hp
      exact ⟨s', u, h2, .inl ⟨hw, h3⟩, h4⟩
  · rename_i j want hg
    split at h
    case h_2 => cases h
    rename_i d hd
    split at h
    case h_3 => cases h
    case h_2 =>
      rename_i hp0
      have hw := unwanted hg hd hp0 hn
      obtain ⟨hn1, hob⟩ := skip_ok (o := o) hn
      have hg1 : Goes G us0 w S π s (a.put o.dst undef) w (skipOp o s) := by
        refine ⟨S, π, hn1, ?_⟩
        have e : St.own (skipOp o s) π = s.own π := by unfold St.own; rw [hob]
        rw [e]
        exact Step.refl _ _ _
      refine ⟨fun Q K hK => ?_, fun hp => ⟨_, undef, h, .inr ⟨hw, rfl⟩, hg1⟩⟩
      unfold wpOp
      simp only [ho, hw, Bool.false_eq_true, if_false]
      exact hK _ _ _ h hg1
    rename_i p hp0
    obtain ⟨b, hb, h'⟩ := bind_inv h
    cases asB_inv hb
    have hval : a.tmps.getD d undef = .bool b ∧ Now G us0 w S π a { s with tm := s.tm.set d (.val (.bool b)) } := by
      have h1 := hn.tm d _ hp0
      simp only [relTV, rel] at h1
      exact ⟨h1, hn.lit h1⟩
    have hwant : Region.wanted o (yielded ops a.tmps) = (b == want) := by
      have h1 := hval.1
      have hsz : d < a.tmps.size := by
        rw [← hn.len]
        exact (List.getElem?_eq_some_iff.1 hp0).1
      have h2 : a.tmps[d]? = some (.bool b) := by
        rw [Array.getD_eq_getD_getElem?, Array.getElem?_eq_getElem hsz, Option.getD_some] at h1
        rw [Array.getElem?_eq_getElem hsz, h1]
      simp only [Region.wanted, hg, yielded, hd, Option.bind_some, h2]
      cases b <;> cases want <;> rfl
    have hset : s.tm.set d (.val (.bool b)) = s.tm := by
      obtain ⟨hlt, he⟩ := List.getElem?_eq_some_iff.1 hp0
      rw [← he]
      exact List.set_getElem_self hlt
    have hs : ({ s with tm := s.tm.set d (.val (.bool b)) } : St) = s := by rw [hset]
    have taken : ∀ (h : stepK T G Γ o { s with tm := s.tm.set d (.val (.bool b)) } (fun s' _ => k s') = some r) (hbw : b = want), (∀ (Q : Exit → Act → World → Prop) (K : Act → World → Prop), (∀ s' a' w', k s' = some r → Goes G us0 w S π s a' w' s' → K a' w') → wpOp P ops Q i K a w) ∧
        (firstS T G Γ s o = true → ∃ s' u, k s' = some r ∧ YieldsG P ops (HeldG S w) o u a ∧ Goes G us0 w S π s (a.put o.dst u) w s') := by
      intro h hbw
      rw [hs] at h
      obtain ⟨g1, g2⟩ := go _ h us0 w S π a hn
      have hw : Region.wanted o (yielded ops a.tmps) = true := by rw [hwant, hbw]; simp
      refine ⟨fun Q K hK => ?_, fun hp => ?_⟩
      · unfold wpOp
        simp only [ho, hw, if_true]
        exact .inl (g1 Q K hK)
      · obtain ⟨s', u, h2, h3, h4⟩ := g2 hp
        exact ⟨s', u, h2, .inl ⟨hw, h3⟩, h4⟩
    have left : ∀ (h : k (skipOp o { s with tm := s.tm.set d (.val (.bool b)) }) = some r) (hbw : b ≠ want), (∀ (Q : Exit → Act → World → Prop) (K : Act → World → Prop), (∀ s' a' w', k s' = some r → Goes G us0 w S π s a' w' s' → K a' w') → wpOp P ops Q i K a w) ∧
        (firstS T G Γ s o = true → ∃ s' u, k s' = some r ∧ YieldsG P ops (HeldG S w) o u a ∧ Goes G us0 w S π s (a.put o.dst u) w s') := by
      intro h hbw
      rw [hs] at h
      have hw : Region.wanted o (yielded ops a.tmps) = false := by rw [hwant]; simpa using hbw
      obtain ⟨hn1, hob⟩ := skip_ok (o := o) hn
      have hg1 : Goes G us0 w S π s (a.put o.dst undef) w (skipOp o s) := by
        refine ⟨S, π, hn1, ?_⟩
        have e : St.own (skipOp o s) π = s.own π := by unfold St.own; rw [hob]
        rw [e]
        exact Step.refl _ _ _
      refine ⟨fun Q K hK => ?_, fun hp => ⟨_, undef, h, .inr ⟨hw, rfl⟩, hg1⟩⟩
      unfold wpOp
      simp only [ho, hw, Bool.false_eq_true, if_false]
      exact hK _ _ _ h hg1
    cases b with
    | true =>
      simp only [cond_true] at h'
      cases want with
      | true => simp only [cond_true] at h'; exact taken h' rfl
      | false => simp only [cond_false] at h'; exact left h' (by simp)
    | false =>
      simp only [cond_false] at h'
      cases want with
      | true => simp only [cond_true] at h'; exact left h' (by simp)
      | false => simp only [cond_false] at h'; exact taken h' rfl

/-- Whatever order is picked. -/
theorem anyK_ok {R : Type} (hT : TOk P T) (hΓ : CalsOk P G Γ) {ops : Array Oper} (hs : Region.noSelect ops = true) : ∀ (n : Nat) (listed : Array Bool) (s : St) (k : St → Option R) (r : R), anyK T G Γ ops n listed s k = some r →
    ∀ us0 w S π a, Now G us0 w S π a s → ∀ (S0 : Nat → Prop) (w0 : World), (∀ b, S0 b → S b) → HeldG S0 w0 w → ∀ (Q : Exit → Act → World → Prop), (∀ c a w, ¬ Q (.panic c) a w) → (∀ s', k s' = some r → ∀ a' w', Goes G us0 w S π s a' w' s' → Q .normal a' w') → wpAnyG P .any ops Q (HeldG S0 w0) n listed a w
  | 0, listed, s, k, r, h, us0, w, S, π, a, hn, S0, w0, hS0, hw0, Q, _, hQ => by
    simp only [anyK] at h
    cases hr : Region.ready .any ops listed with
    | nil => rw [hr] at h; simp only [List.isEmpty_nil, cond_true] at h; exact ⟨hr, hQ s h a w (Goes.refl hn)⟩
    | cons x xs => rw [hr] at h; simp only [List.isEmpty_cons, cond_false] at h; cases h
  | n + 1, listed, s, k, r, h, us0, w, S, π, a, hn, S0, w0, hS0, hw0, Q, hP, hQ => by
    simp only [anyK] at h
    split at h
    · rename_i hr
      exact wpAnyG_done hr (hQ s h a w (Goes.refl hn)) _
    · rename_i i0 is hr
      split at h
      · rename_i i hf
        split at h
        case h_2 => cases h
        rename_i o ho
        have hmem : i ∈ Region.ready .any ops listed := by rw [hr]; exact List.mem_of_find?_eq_some hf
        have hprop := List.find?_some hf
        simp only [Bool.and_eq_true, ho] at hprop
        obtain ⟨_, g2⟩ := gK_ok hT hΓ ho h us0 w S π a hn
        obtain ⟨s1, u, h1, hy, hg⟩ := g2 hprop.2
        obtain ⟨S1, π1, hn1, hs1⟩ := hg
        refine wpAnyG_mono (S := HeldG S w) (fun w' hw' b hb => ⟨(hw' b (hS0 b hb)).1, (hw' b (hS0 b hb)).2.trans (hw0 b hb).2⟩) _ _ _ _ ?_
        refine wpAnyG_first (fun _ _ h g => HeldG.grow h g) hP ho (fun j oj cs b hj => Region.noSelect_spec hs j oj cs b hj) n listed a w (Region.free_spec ho hprop.1) hmem hy (fun b hb => ⟨hn.ob.st b hb, rfl⟩) fun w1 hg1 => ?_
        have hst : Step w S (s.own π) w1 S1 (s1.own π1) := hs1.trans (hg1.step _ _)
        exact anyK_ok hT hΓ hs n _ s1 k r h1 us0 w1 S1 π1 _ (hn1.grow hg1) S w hs1.sub (fun b hb => ⟨Nat.lt_of_lt_of_le (hn.ob.st b hb) hg1.2.2.2.1, hg1.2.2.2.2 b (hn.ob.st b hb)⟩) Q hP fun s' hk a' w' hg' => hQ s' hk a' w' (Goes.trans hst hg')
      · refine ⟨fun h0 => (by rw [hr] at h0; cases h0), fun i hi => ?_⟩
        have hx := meetAll_inv h _ (List.mem_map.2 ⟨i, by rw [← hr]; exact hi, rfl⟩)
        split at hx
        case h_2 => cases hx
        rename_i o ho
        obtain ⟨g1, _⟩ := gK_ok hT hΓ ho hx us0 w S π a hn
        refine g1 Q _ fun s1 a' w' h1 hg => ?_
        obtain ⟨S1, π1, hn1, hs1⟩ := hg
        have hk := hs1.keep hn.ob
        have hH : HeldG S0 w0 w' := fun b hb => ⟨Nat.lt_of_lt_of_le (hw0 b hb).1 hs1.size, (hk.same b (hS0 b hb)).trans (hw0 b hb).2⟩
        refine ⟨hH, fun w'' hg => ?_⟩
        exact anyK_ok hT hΓ hs n _ s1 k r h1 us0 w'' S1 π1 a' (hn1.grow hg) S0 w0 (fun b hb => hs1.sub b (hS0 b hb)) (hH.grow hg) Q hP fun s' hk a'' w3 hg' => hQ s' hk a'' w3 (Goes.trans (hs1.trans (hg.step _ _)) hg')

end
end Go.Proofs.YtpaifgipdhgfkaaGreatDoorV

/- The reading machine: code, loops. -/
namespace Go.Proofs.YtpaifgipdhgfkaaGreatDoorV
open Go Go.RowKit

def exOf : Ex → Exit | .normal => .normal | .exit i => .exit i | .ret => .ret

/-- Code comes from one state to some of those that what follows answers 'r' of. -/
def CodeOk {R : Type} (P : Program) (G : Nat → Option (List PV)) (c : Code) (s : St) (k : Ex → St → Option R) (r : R) : Prop :=
  ∀ us0 w S π a, Now G us0 w S π a s → ∀ (Q : Exit → Act → World → Prop), (∀ e s', k e s' = some r → ∀ a' w', Goes G us0 w S π s a' w' s' → Q (exOf e) a' w') → c.wp P Q a w

/-- From within a loop. -/
def InLoop (P : Program) (c : Code) (Q : Exit → Act → World → Prop) (a : Act) (w : World) : Prop :=
  ∀ (b : Frame) (k : List Item) (cs : List Frame), ∃ e a' w', Q e a' w' ∧ Arrives P (lone (b.at a (.code c :: .inLoop c :: k)) cs w) b k cs e a' w'

theorem inLoop_round {P : Program} {c : Code} {Q : Exit → Act → World → Prop} {a : Act} {w : World} (h : c.wp P (Exit.then (InLoop P c Q) Q) a w) : InLoop P c Q a w := by
  intro b k cs
  obtain ⟨e, a₁, w₁, hq, harr⟩ := h b (.inLoop c :: k) cs
  cases e with
  | normal =>
    obtain ⟨e₂, a₂, w₂, hq₂, harr₂⟩ := hq b k cs
    exact ⟨e₂, a₂, w₂, hq₂, .of_steps (Steps.trans harr (.one step_inLoop)) harr₂⟩
  | exit id => exact ⟨_, a₁, w₁, hq, .pass (x := .inLoop c) rfl (fun _ _ => .inl (by simp)) harr⟩
  | goto l => exact ⟨_, a₁, w₁, hq, .pass (x := .inLoop c) rfl (fun _ _ => .inl (by simp)) harr⟩
  | ret => exact ⟨_, a₁, w₁, hq, .pass (x := .inLoop c) rfl (fun _ _ => .inl (by simp)) harr⟩
  | panic ch => exact ⟨_, a₁, w₁, hq, .pass (x := .inLoop c) rfl (fun _ _ => .inl (by simp)) harr⟩
  | outgrown => exact ⟨_, a₁, w₁, hq, .pass (x := .inLoop c) rfl (fun _ _ => .inl (by simp)) harr⟩
theorem inLoop_loop {P : Program} {c : Code} {Q : Exit → Act → World → Prop} {a : Act} {w : World} (h : InLoop P c Q a w) : (Code.loop c).wp P Q a w := by
  intro b k cs
  obtain ⟨e, a', w', hq, harr⟩ := h b k cs
  exact ⟨e, a', w', hq, .of_steps (.one step_loop) harr⟩

def LoopOk {R : Type} (P : Program) (G : Nat → Option (List PV)) (c : Code) (s : St) (k : Ex → St → Option R) (r : R) : Prop :=
  ∀ us0 w S π a, Now G us0 w S π a s → ∀ (Q : Exit → Act → World → Prop), (∀ e s', k e s' = some r → ∀ a' w', Goes G us0 w S π s a' w' s' → Q (exOf e) a' w') → InLoop P c Q a w
structure LoopsOk (P : Program) (G : Nat → Option (List PV)) (Λ : Loops) (d : Code) : Prop where
  lp : ∀ c ∈ loopsOf d, ∀ (s : St) (R : Type) (k : Ex → St → Option R) (r : R), Λ.lp c s R k = some r → LoopOk P G c s k r
  jn : ∀ c ∈ joinsOf d, ∀ (s : St) (R : Type) (k : Ex → St → Option R) (r : R), Λ.jn c s R k = some r → CodeOk P G c s k r
theorem LoopsOk.sub {P : Program} {G : Nat → Option (List PV)} {Λ : Loops} {d c : Code} (h : LoopsOk P G Λ d) (h1 : ∀ x ∈ loopsOf c, x ∈ loopsOf d) (h2 : ∀ x ∈ joinsOf c, x ∈ joinsOf d) : LoopsOk P G Λ c := ⟨fun x hx => h.lp x (h1 x hx), fun x hx => h.jn x (h2 x hx)⟩
theorem LoopsOk.seqL {P : Program} {G : Nat → Option (List PV)} {Λ : Loops} {a b : Code} (h : LoopsOk P G Λ (.seq a b)) : LoopsOk P G Λ a := h.sub (fun x hx => by simp only [loopsOf, List.mem_append]; exact .inl hx) (fun x hx => by simp only [joinsOf, List.mem_cons, List.mem_append]; exact .inr (.inl hx))
theorem LoopsOk.seqR {P : Program} {G : Nat → Option (List PV)} {Λ : Loops} {a b : Code} (h : LoopsOk P G Λ (.seq a b)) : LoopsOk P G Λ b := h.sub (fun x hx => by simp only [loopsOf, List.mem_append]; exact .inr hx) (fun x hx => by simp only [joinsOf, List.mem_cons, List.mem_append]; exact .inr (.inr hx))
theorem LoopsOk.condL {P : Program} {G : Nat → Option (List PV)} {Λ : Loops} {t : Operand} {a b : Code} (h : LoopsOk P G Λ (.cond t a b)) : LoopsOk P G Λ a := h.sub (fun x hx => by simp only [loopsOf, List.mem_append]; exact .inl hx) (fun x hx => by simp only [joinsOf, List.mem_append]; exact .inl hx)
theorem LoopsOk.condR {P : Program} {G : Nat → Option (List PV)} {Λ : Loops} {t : Operand} {a b : Code} (h : LoopsOk P G Λ (.cond t a b)) : LoopsOk P G Λ b := h.sub (fun x hx => by simp only [loopsOf, List.mem_append]; exact .inr hx) (fun x hx => by simp only [joinsOf, List.mem_append]; exact .inr hx)
theorem LoopsOk.block {P : Program} {G : Nat → Option (List PV)} {Λ : Loops} {i : Nat} {a : Code} (h : LoopsOk P G Λ (.block i a)) : LoopsOk P G Λ a := h.sub (fun x hx => by simpa only [loopsOf] using hx) (fun x hx => by simpa only [joinsOf] using hx)
theorem LoopsOk.loop {P : Program} {G : Nat → Option (List PV)} {Λ : Loops} {a : Code} (h : LoopsOk P G Λ (.loop a)) : LoopsOk P G Λ a := h.sub (fun x hx => by simp only [loopsOf, List.mem_cons]; exact .inr hx) (fun x hx => by simpa only [joinsOf] using hx)

/-- A state is made even. -/
def NormOk {E : Type} (G : Nat → Option (List PV)) (norm : Code → E → St → St) : Prop :=
  ∀ c e us0 w S π a s, Now G us0 w S π a s → ∃ π', Now G us0 w S π' a (norm c e s) ∧ ∀ b, (norm c e s).own π' b → s.own π b

section
variable {P : Program} {T : TypeId → Option TI} {G : Nat → Option (List PV)} {Γ : FuncId → Option Cal}

theorem run_ok {R : Type} (hm : P.follows .mixedOrders = true) (hT : TOk P T) (hΓ : CalsOk P G Γ) {Λ : Loops} : ∀ (c : Code) (_ : LoopsOk P G Λ c) (s : St) (k : Ex → St → Option R) (r : R), run T G Γ Λ c s k = some r → CodeOk P G c s k r
  | .skip, _, s, k, r, h => by
    simp only [run] at h
    exact fun us0 w S π a hn Q hQ => wp_skip (hQ .normal s h a w (Goes.refl hn))
  | .region id ops false, _, s, k, r, h => by
    simp only [run] at h
    refine fun us0 w S π a hn Q hQ => wp_region ?_
    have := ops_ok hT hΓ ops.toList 0 s [] _ r rfl h us0 w S π a hn Q fun s' _ a' w' h1 hg => hQ .normal s' h1 a' w' hg
    rw [List.range_eq_range']
    simpa using this
  | .region id ops true, _, s, k, r, h => by
    simp only [run] at h
    cases hs : Region.noSelect ops with
    | false => rw [hs] at h; cases h
    | true =>
      rw [hs, cond_true] at h
      intro us0 w S π a hn Q hQ
      refine wp_mono (Q := fun e a w => (∀ c, e ≠ .panic c) ∧ Q e a w) (wp_region_any hm (wpAnyG_any (S := HeldG S w) _ _ _ _ ?_)) fun e a w h => h.2
      have hk : Keep w S { w with drawn := w.drawn + 1 } S := ⟨fun _ _ => rfl, fun _ h => h⟩
      have hn' : Now G us0 { w with drawn := w.drawn + 1 } S π a s := by
        refine ⟨hn.df, hn.len, fun i v hv => relTV_keep hk (Ext.refl _) _ _ (hn.tm i v hv), ?_, hn.pl, relTVs_keep hk (Ext.refl _) _ _ hn.roots, hn.places, hn.go.keep hk⟩
        exact ⟨fun id o h => (by obtain ⟨pl, h1, h2⟩ := hn.ob.ok id o h; exact ⟨pl, h1, obOk_keep hk (Ext.refl _) o pl (fun _ _ _ => rfl) h2⟩), hn.ob.apart, hn.ob.out, hn.ob.st⟩
      refine anyK_ok hT hΓ hs _ _ s _ r h us0 _ S π a hn' S w (fun _ h => h) (fun b hb => ⟨hn.ob.st b hb, rfl⟩) _ (fun c a w h => h.1 c rfl) fun s' hk' a' w' hg => ⟨fun c hc => (by cases hc), hQ .normal s' hk' a' w' ?_⟩
      exact Goes.trans (w1 := { w with drawn := w.drawn + 1 }) (S1 := S) (π1 := π) (s1 := s) ⟨rfl, rfl, rfl, Nat.le_refl _, fun _ _ _ => rfl, fun _ h => h, fun _ h => .inl h, fun _ h => .inl h⟩ hg
  | .seq x y, hΛ, s, k, r, h => by
    simp only [run] at h
    have h1 := run_ok hm hT hΓ x hΛ.seqL s _ r h
    intro us0 w S π a hn Q hQ
    refine wp_seq (h1 us0 w S π a hn _ fun e s1 hk a' w' hg => ?_)
    cases e with
    | normal =>
      simp only at hk
      have h2 : CodeOk P G y s1 k r := by
        cases hon : Λ.on y with
        | true => rw [hon, cond_true] at hk; exact hΛ.jn y (by simp only [joinsOf, List.mem_cons, true_or]) s1 R k r hk
        | false => rw [hon, cond_false] at hk; exact run_ok hm hT hΓ y hΛ.seqR s1 k r hk
      obtain ⟨S1, π1, hn1, hs1⟩ := hg
      exact h2 us0 w' S1 π1 a' hn1 Q fun e2 s2 hk2 a'' w'' hg2 => hQ e2 s2 hk2 a'' w'' (Goes.trans hs1 hg2)
    | exit i => exact hQ _ s1 hk a' w' hg
    | ret => exact hQ _ s1 hk a' w' hg
  | .cond c x y, hΛ, s, k, r, h => by
    simp only [run] at h
    split at h
    · rename_i p hp
      obtain ⟨t, ht, h'⟩ := bind_inv h
      cases asB_inv ht
      have heval : ∀ us0 w S π a, Now G us0 w S π a s → a.eval c = .bool t ∧ Now G us0 w S π a { s with tm := litB s.tm c t } := by
        intro us0 w S π a hn
        cases c with
        | tmp d =>
          have h1 := hn.tm d _ hp
          simp only [relTV, rel] at h1
          exact ⟨h1, hn.lit h1⟩
        | const v =>
          have h1 := constTV_rel (w := w) (S := S) (π := π) hp
          simp only [relTV, rel] at h1
          exact ⟨h1, hn⟩
        | global g => simp only [evalO] at hp; split at hp <;> cases hp
        | func f => simp only [evalO] at hp; cases hp
      cases t with
      | true =>
        simp only [cond_true] at h'
        have h1 := run_ok hm hT hΓ x hΛ.condL _ k r h'
        intro us0 w S π a hn Q hQ
        obtain ⟨g1, g2⟩ := heval us0 w S π a hn
        exact wp_cond_true g1 (h1 us0 w S π a g2 Q fun e s' hk a' w' hg => hQ e s' hk a' w' hg)
      | false =>
        simp only [cond_false] at h'
        have h1 := run_ok hm hT hΓ y hΛ.condR _ k r h'
        intro us0 w S π a hn Q hQ
        obtain ⟨g1, g2⟩ := heval us0 w S π a hn
        exact wp_cond_false g1 (h1 us0 w S π a g2 Q fun e s' hk a' w' hg => hQ e s' hk a' w' hg)
    · cases h
  | .block id c, hΛ, s, k, r, h => by
    simp only [run] at h
    have h1 := run_ok hm hT hΓ c hΛ.block s _ r h
    intro us0 w S π a hn Q hQ
    refine wp_block (h1 us0 w S π a hn _ fun e s' hk a' w' hg => ?_)
    cases e with
    | normal => exact hQ _ s' hk a' w' hg
    | exit i =>
      simp only at hk
      by_cases e : i = id
      · rw [if_pos e] at hk
        have := hQ _ s' hk a' w' hg
        simp only [exOf, Exit.inBlock, e, if_true]
        exact this
      · rw [if_neg e] at hk
        have := hQ _ s' hk a' w' hg
        simp only [exOf, Exit.inBlock, e, if_false]
        exact this
    | ret => exact hQ _ s' hk a' w' hg
  | .loop c, hΛ, s, k, r, h => by
    simp only [run] at h
    have h2 := hΛ.lp c (by simp only [loopsOf, List.mem_cons, true_or]) s R k r h
    exact fun us0 w S π a hn Q hQ => inLoop_loop (h2 us0 w S π a hn Q hQ)
  | .exit id, _, s, k, r, h => by
    simp only [run] at h
    exact fun us0 w S π a hn Q hQ => wp_exit (hQ _ s h a w (Goes.refl hn))
  | .ret, _, s, k, r, h => by
    simp only [run] at h
    exact fun us0 w S π a hn Q hQ => wp_ret (hQ _ s h a w (Goes.refl hn))
  | .scope .., _, s, k, r, h => by simp only [run] at h; cases h
  | .label .., _, s, k, r, h => by simp only [run] at h; cases h
  | .goto .., _, s, k, r, h => by simp only [run] at h; cases h
  | .rangeFunc .., _, s, k, r, h => by simp only [run] at h; cases h
  | .refuse .., _, s, k, r, h => by simp only [run] at h; cases h

theorem loopsOf_trans : ∀ {d c c' : Code}, c ∈ loopsOf d → c' ∈ loopsOf c → c' ∈ loopsOf d
  | .seq a b, c, c', h, h' => by
    simp only [loopsOf, List.mem_append] at h ⊢
    exact h.elim (fun h => .inl (loopsOf_trans h h')) (fun h => .inr (loopsOf_trans h h'))
  | .cond _ a b, c, c', h, h' => by
    simp only [loopsOf, List.mem_append] at h ⊢
    exact h.elim (fun h => .inl (loopsOf_trans h h')) (fun h => .inr (loopsOf_trans h h'))
  | .block _ d, c, c', h, h' => by
    simp only [loopsOf] at h ⊢
    exact loopsOf_trans h h'
  | .loop d, c, c', h, h' => by
    simp only [loopsOf, List.mem_cons] at h ⊢
    rcases h with rfl | h
    · exact .inr h'
    · exact .inr (loopsOf_trans h h')
  | .skip, _, _, h, _ => by simp [loopsOf] at h
  | .region .., _, _, h, _ => by simp [loopsOf] at h
  | .exit _, _, _, h, _ => by simp [loopsOf] at h
  | .ret, _, _, h, _ => by simp [loopsOf] at h
  | .scope .., _, _, h, _ => by simp [loopsOf] at h
  | .label .., _, _, h, _ => by simp [loopsOf] at h
  | .goto .., _, _, h, _ => by simp [loopsOf] at h
  | .rangeFunc .., _, _, h, _ => by simp [loopsOf] at h
  | .refuse .., _, _, h, _ => by simp [loopsOf] at h

theorem joinsOf_loop : ∀ {d c c' : Code}, c ∈ loopsOf d → c' ∈ joinsOf c → c' ∈ joinsOf d
  | .seq a b, c, c', h, h' => by
    simp only [loopsOf, joinsOf, List.mem_cons, List.mem_append] at h ⊢
    exact .inr (h.elim (fun h => .inl (joinsOf_loop h h')) (fun h => .inr (joinsOf_loop h h')))
  | .cond _ a b, c, c', h, h' => by
    simp only [loopsOf, joinsOf, List.mem_append] at h ⊢
    exact h.elim (fun h => .inl (joinsOf_loop h h')) (fun h => .inr (joinsOf_loop h h'))
  | .block _ d, c, c', h, h' => by
    simp only [loopsOf, joinsOf] at h ⊢
    exact joinsOf_loop h h'
  | .loop d, c, c', h, h' => by
    simp only [loopsOf, joinsOf, List.mem_cons] at h ⊢
    rcases h with rfl | h
    · exact h'
    · exact joinsOf_loop h h'
  | .skip, _, _, h, _ => by simp [loopsOf] at h
  | .region .., _, _, h, _ => by simp [loopsOf] at h
  | .exit _, _, _, h, _ => by simp [loopsOf] at h
  | .ret, _, _, h, _ => by simp [loopsOf] at h
  | .scope .., _, _, h, _ => by simp [loopsOf] at h
  | .label .., _, _, h, _ => by simp [loopsOf] at h
  | .goto .., _, _, h, _ => by simp [loopsOf] at h
  | .rangeFunc .., _, _, h, _ => by simp [loopsOf] at h
  | .refuse .., _, _, h, _ => by simp [loopsOf] at h

theorem even_step {E : Type} {norm : Code → E → St → St} (hnorm : NormOk G norm) (c : Code) (e : E) (us0 : Rts) (w : World) (S : Nat → Prop) (π : Nat → Option Pl) (a : Act) (s : St) (hn : Now G us0 w S π a s) : ∃ π', Now G us0 w S π' a (norm c e s) ∧ Step w S (s.own π) w S ((norm c e s).own π') := by
  obtain ⟨π', g1, g2⟩ := hnorm c e us0 w S π a s hn
  exact ⟨π', g1, rfl, rfl, rfl, Nat.le_refl _, fun _ _ _ => rfl, fun _ h => h, fun _ h => .inl h, fun b hb => .inl (g2 b hb)⟩
theorem even_out {E : Type} {norm : Code → E → St → St} (hnorm : NormOk G norm) (c : Code) (e : E) (us0 : Rts) (w : World) (S : Nat → Prop) (π : Nat → Option Pl) (s : St) (a' : Act) (w' : World) (s' : St) (h : Goes G us0 w S π s a' w' s') : Goes G us0 w S π s a' w' (norm c e s') := by
  obtain ⟨S1, π1, hn1, hs1⟩ := h
  obtain ⟨π', g1, g2⟩ := even_step hnorm c e us0 w' S1 π1 a' s' hn1
  exact ⟨S1, π', g1, hs1.trans g2⟩

/-- Code that is told once is told rightly, if what it comes to is what stands there. -/
theorem joins_fix (hm : P.follows .mixedOrders = true) (hT : TOk P T) (hΓ : CalsOk P G Γ) {nj : Code → Option Ex → St → St} (hnj : NormOk G nj) {d : Code} {Λ : Loops}
    (hl : ∀ c ∈ loopsOf d, ∀ (s : St) (R : Type) (k : Ex → St → Option R) (r : R), Λ.lp c s R k = some r → LoopOk P G c s k r)
    (hj : ∀ c ∈ joinsOf d, ∀ s R k r, Λ.jn c s R k = some r → joinK T G Γ nj Λ c (nj c none s) R k = some r) :
    ∀ (x : Code), (∀ y ∈ loopsOf x, y ∈ loopsOf d) → (∀ y ∈ joinsOf x, y ∈ joinsOf d) → LoopsOk P G Λ x
  | .seq a b, h1, h2 => by
    have ha := joins_fix hm hT hΓ hnj hl hj a (fun y hy => h1 y (by simp only [loopsOf, List.mem_append]; exact .inl hy)) (fun y hy => h2 y (by simp only [joinsOf, List.mem_cons, List.mem_append]; exact .inr (.inl hy)))
    have hb := joins_fix hm hT hΓ hnj hl hj b (fun y hy => h1 y (by simp only [loopsOf, List.mem_append]; exact .inr hy)) (fun y hy => h2 y (by simp only [joinsOf, List.mem_cons, List.mem_append]; exact .inr (.inr hy)))
    refine ⟨fun c hc => hl c (h1 c hc), fun c hc s R k r h => ?_⟩
    simp only [joinsOf, List.mem_cons, List.mem_append] at hc
    rcases hc with rfl | hc | hc
    · have h := hj _ (h2 _ (by simp only [joinsOf, List.mem_cons, true_or])) s R k r h
      unfold joinK at h
      have hr := run_ok hm hT hΓ _ hb _ _ r h
      intro us0 w S π a hn Q hQ
      obtain ⟨π', g1, g2⟩ := even_step hnj _ none us0 w S π a s hn
      exact hr us0 w S π' a g1 _ fun e s1 hk a' w' hg => hQ e _ hk a' w' (even_out hnj _ (some e) us0 w S π s _ _ _ (Goes.trans g2 hg))
    · exact ha.jn c hc s R k r h
    · exact hb.jn c hc s R k r h
  | .cond _ a b, h1, h2 => by
    have ha := joins_fix hm hT hΓ hnj hl hj a (fun y hy => h1 y (by simp only [loopsOf, List.mem_append]; exact .inl hy)) (fun y hy => h2 y (by simp only [joinsOf, List.mem_append]; exact .inl hy))
    have hb := joins_fix hm hT hΓ hnj hl hj b (fun y hy => h1 y (by simp only [loopsOf, List.mem_append]; exact .inr hy)) (fun y hy => h2 y (by simp only [joinsOf, List.mem_append]; exact .inr hy))
    refine ⟨fun c hc => hl c (h1 c hc), fun c hc s R k r h => ?_⟩
    simp only [joinsOf, List.mem_append] at hc
    rcases hc with hc | hc
    · exact ha.jn c hc s R k r h
    · exact hb.jn c hc s R k r h
  | .block _ a, h1, h2 => by
    have ha := joins_fix hm hT hΓ hnj hl hj a (fun y hy => h1 y (by simpa only [loopsOf] using hy)) (fun y hy => h2 y (by simpa only [joinsOf] using hy))
    exact ⟨fun c hc => hl c (h1 c hc), fun c hc s R k r h => ha.jn c (by simpa only [joinsOf] using hc) s R k r h⟩
  | .loop a, h1, h2 => by
    have ha := joins_fix hm hT hΓ hnj hl hj a (fun y hy => h1 y (by simp only [loopsOf, List.mem_cons]; exact .inr hy)) (fun y hy => h2 y (by simpa only [joinsOf] using hy))
    exact ⟨fun c hc => hl c (h1 c hc), fun c hc s R k r h => ha.jn c (by simpa only [joinsOf] using hc) s R k r h⟩
  | .skip, _, _ => ⟨fun c hc => by simp [loopsOf] at hc, fun c hc => by simp [joinsOf] at hc⟩
  | .region .., _, _ => ⟨fun c hc => by simp [loopsOf] at hc, fun c hc => by simp [joinsOf] at hc⟩
  | .exit _, _, _ => ⟨fun c hc => by simp [loopsOf] at hc, fun c hc => by simp [joinsOf] at hc⟩
  | .ret, _, _ => ⟨fun c hc => by simp [loopsOf] at hc, fun c hc => by simp [joinsOf] at hc⟩
  | .scope .., _, _ => ⟨fun c hc => by simp [loopsOf] at hc, fun c hc => by simp [joinsOf] at hc⟩
  | .label .., _, _ => ⟨fun c hc => by simp [loopsOf] at hc, fun c hc => by simp [joinsOf] at hc⟩
  | .goto .., _, _ => ⟨fun c hc => by simp [loopsOf] at hc, fun c hc => by simp [joinsOf] at hc⟩
  | .rangeFunc .., _, _ => ⟨fun c hc => by simp [loopsOf] at hc, fun c hc => by simp [joinsOf] at hc⟩
  | .refuse .., _, _ => ⟨fun c hc => by simp [loopsOf] at hc, fun c hc => by simp [joinsOf] at hc⟩

/-- What loops come to, by rounds: it is told rightly if each round is. -/
theorem loops_fix (hm : P.follows .mixedOrders = true) (hT : TOk P T) (hΓ : CalsOk P G Γ) {norm : Code → Ex → St → St} (hnorm : NormOk G norm) {nj : Code → Option Ex → St → St} (hnj : NormOk G nj) {d : Code} {Λ : Nat → Loops}
    (h0 : ∀ c ∈ loopsOf d, ∀ s R k r, (Λ 0).lp c s R k = some r → False) (hs : ∀ n, ∀ c ∈ loopsOf d, ∀ s R k r, (Λ (n + 1)).lp c s R k = some r → roundK T G Γ norm (Λ n) c (norm c .normal s) R k = some r)
    (hj : ∀ n, ∀ c ∈ joinsOf d, ∀ s R k r, (Λ n).jn c s R k = some r → joinK T G Γ nj (Λ n) c (nj c none s) R k = some r) : ∀ n, LoopsOk P G (Λ n) d
  | 0 => joins_fix hm hT hΓ hnj (fun c hc s R k r h => (h0 c hc s R k r h).elim) (hj 0) d (fun _ h => h) (fun _ h => h)
  | n + 1 => by
    have ih := loops_fix hm hT hΓ hnorm hnj h0 hs hj n
    refine joins_fix hm hT hΓ hnj (fun c hc => ?_) (hj (n + 1)) d (fun _ h => h) (fun _ h => h)
    have key : ∀ (s : St) (R : Type) (k : Ex → St → Option R) (r : R), (∀ (s : St) (R : Type) (k : Ex → St → Option R) (r : R), (Λ n).lp c s R k = some r → LoopOk P G c s k r) → (Λ (n + 1)).lp c s R k = some r → LoopOk P G c s k r := by
      intro s R k r again h
      have h := hs n c hc s R k r h
      unfold roundK at h
      have h2 := run_ok hm hT hΓ c (ih.sub (fun x hx => loopsOf_trans hc hx) (fun x hx => joinsOf_loop hc hx)) _ _ r h
      intro us0 w S π a hn Q hQ
      obtain ⟨π', g1, g2⟩ := even_step hnorm c .normal us0 w S π a s hn
      refine inLoop_round (h2 us0 w S π' a g1 _ fun e s1 hk a' w' hg => ?_)
      cases e with
      | normal =>
        simp only at hk
        have h4 := again s1 R k r hk
        obtain ⟨S1, π1, hn1, hs1⟩ := hg
        exact h4 us0 w' S1 π1 a' hn1 Q fun e2 s2 hk2 a'' w'' hg2 => hQ e2 s2 hk2 a'' w'' (Goes.trans g2 (Goes.trans hs1 hg2))
      | exit i => exact hQ _ _ hk a' w' (even_out hnorm c _ us0 w S π s _ _ _ (Goes.trans g2 hg))
      | ret => exact hQ _ _ hk a' w' (even_out hnorm c _ us0 w S π s _ _ _ (Goes.trans g2 hg))
    exact fun s R k r h => key s R k r (ih.lp c hc) h

end
end Go.Proofs.YtpaifgipdhgfkaaGreatDoorV

/- The reading machine: a function is as its code says. -/
namespace Go.Proofs.YtpaifgipdhgfkaaGreatDoorV
open Go Go.RowKit

section
variable {w : World} {S S' : Nat → Prop}
mutual
theorem noMem_rel : ∀ (p : PV) (v : Value), rel w S p v → noMem p = true → rel w S' p v
  | .bool _, v, h, _ => by simp only [rel] at h ⊢; exact h
  | .int _ _, v, h, _ => by simp only [rel] at h ⊢; exact h
  | .str _, v, h, _ => by simp only [rel] at h ⊢; exact h
  | .fs _, v, h, hn => by simp [noMem] at hn
  | .os _ _, v, h, _ => by simp only [rel] at h
  | .agg cs, v, h, hn => by
    simp only [rel] at h ⊢
    simp only [noMem] at hn
    obtain ⟨us, h1, h2, h3⟩ := h
    exact ⟨us, h1, h2, noMem_relL cs _ h3 hn⟩
  | .tuple cs, v, h, hn => by
    simp only [rel] at h ⊢
    simp only [noMem] at hn
    obtain ⟨us, h1, h3⟩ := h
    exact ⟨us, h1, noMem_relL cs _ h3 hn⟩
  | .pnil, v, h, _ => by simp only [rel] at h ⊢; exact h
  | .rp _ _, v, h, hn => by simp [noMem] at hn
  | .obj _, v, h, _ => by simp only [rel] at h
  | .fn f cs, v, h, hn => by
    simp only [rel] at h ⊢
    simp only [noMem] at hn
    obtain ⟨us, h1, h3⟩ := h
    exact ⟨us, h1, noMem_relL cs _ h3 hn⟩
  | .fnil, v, h, _ => by simp only [rel] at h ⊢; exact h
  | .mnil, v, h, _ => by simp only [rel] at h ⊢; exact h
  | .fm _, v, h, hn => by simp [noMem] at hn
  | .nilif, v, h, _ => by simp only [rel] at h ⊢; exact h
  | .err, v, h, _ => by simp only [rel] at h ⊢; exact h
  | .wint _, v, h, _ => by simp only [rel] at h ⊢; exact h
  | .undef, v, h, _ => by simp only [rel]
theorem noMem_relL : ∀ (ps : List PV) (us : List Value), relL w S ps us → noMemL ps = true → relL w S' ps us
  | [], us, h, _ => by simp only [relL] at h ⊢; exact h
  | p :: ps, us, h, hn => by
    simp only [relL] at h ⊢
    simp only [noMemL, Bool.and_eq_true] at hn
    obtain ⟨u, us', h1, h2, h3⟩ := h
    exact ⟨u, us', h1, noMem_rel p u h2 hn.1, noMem_relL ps us' h3 hn.2⟩
end
theorem noMem_cs : ∀ (ps : List PV) (b o : Nat), relCs w S b o ps → noMemL ps = true → relCs w S' b o ps
  | [], _, _, _, _ => by simp only [relCs]
  | p :: ps, b, o, h, hn => by
    simp only [relCs] at h ⊢
    simp only [noMemL, Bool.and_eq_true] at hn
    obtain ⟨⟨u, h1, h2, h3⟩, h4⟩ := h
    exact ⟨⟨u, h1, h2, noMem_rel p u h3 hn.1⟩, noMem_cs ps b _ h4 hn.2⟩
theorem noMem_es : ∀ (es : List (List PV)) (b o sz : Nat), relEs w S b o sz es → noMemEs es = true → relEs w S' b o sz es
  | [], _, _, _, _, _ => by simp only [relEs]
  | e :: es, b, o, sz, h, hn => by
    simp only [relEs] at h ⊢
    simp only [noMemEs, Bool.and_eq_true] at hn
    obtain ⟨h1, h2, h3⟩ := h
    exact ⟨h1, noMem_cs e b o h2 hn.1, noMem_es es b _ sz h3 hn.2⟩
mutual
theorem noMem_own : ∀ (sh : Shp) (p : PV) (v : Value) (f : List Nat), ownS w S sh p v f → noMem p = true → ownS w S' sh p v f
  | .d, p, v, f, h, hn => by simp only [ownS] at h ⊢; exact ⟨h.1, noMem_rel p v h.2 hn⟩
  | .s, p, v, f, h, hn => by
    simp only [ownS] at h ⊢
    obtain ⟨es, sz, rfl, h1⟩ := h
    simp only [noMem] at hn
    refine ⟨es, sz, rfl, ?_⟩
    rcases h1 with h1 | ⟨b, s, c, a, C, t, fr, h1, h2, h3, h4, h5, h6, h7, h8, h9, h10⟩
    · exact .inl h1
    · exact .inr ⟨b, s, c, a, C, t, fr, h1, h2, h3, h4, h5, h6, h7, h8, h9, noMem_es es b s sz h10 hn⟩
  | .o shs, p, v, f, h, hn => by
    simp only [ownS] at h ⊢
    obtain ⟨cs, b, C, t, fr, fp', rfl, h1, h2, h3, h4, h5, h6⟩ := h
    simp only [noMem] at hn
    exact ⟨cs, b, C, t, fr, fp', rfl, h1, h2, h3, h4, h5, noMem_ownL shs cs _ _ h6 hn⟩
  | .a shs, p, v, f, h, hn => by
    simp only [ownS] at h ⊢
    obtain ⟨cs, us, rfl, h1, h2, h3⟩ := h
    simp only [noMem] at hn
    exact ⟨cs, us, rfl, h1, h2, noMem_ownL shs cs _ _ h3 hn⟩
  | .t shs, p, v, f, h, hn => by
    simp only [ownS] at h ⊢
    obtain ⟨cs, us, rfl, h1, h3⟩ := h
    simp only [noMem] at hn
    exact ⟨cs, us, rfl, h1, noMem_ownL shs cs _ _ h3 hn⟩
theorem noMem_ownL : ∀ (shs : List Shp) (ps : List PV) (us : List Value) (f : List Nat), ownL w S shs ps us f → noMemL ps = true → ownL w S' shs ps us f
  | [], ps, us, f, h, _ => by simp only [ownL] at h ⊢; exact h
  | sh :: shs, ps, us, f, h, hn => by
    simp only [ownL] at h ⊢
    obtain ⟨p, ps', u, us', f1, f2, rfl, h1, h2, h3, h4⟩ := h
    simp only [noMemL, Bool.and_eq_true] at hn
    exact ⟨p, ps', u, us', f1, f2, rfl, h1, h2, noMem_own sh p u f1 h3 hn.1, noMem_ownL shs ps' us' f2 h4 hn.2⟩
end

theorem args_own : ∀ {ms : List (Option (Shp × Bool))} {ps : List PV} {us : List Value} {fps : List (List Nat)}, argsOk w S ms ps us fps → ownL w S (ms.map shOf) ps us fps.flatten
  | [], ps, us, fps, h => by
    simp only [argsOk] at h
    obtain ⟨rfl, rfl, rfl⟩ := h
    simp [ownL]
  | none :: ms, ps, us, fps, h => by
    simp only [argsOk] at h
    obtain ⟨p, ps', u, us', rfl, rfl, h1, h2⟩ := h
    simp only [List.map_cons, shOf, ownL]
    exact ⟨p, ps', u, us', [], fps.flatten, rfl, rfl, rfl, by simp only [ownS]; exact ⟨trivial, h1⟩, args_own h2⟩
  | some m :: ms, ps, us, fps, h => by
    simp only [argsOk] at h
    obtain ⟨p, ps', u, us', f, fps', rfl, rfl, rfl, h1, h2⟩ := h
    simp only [List.map_cons, shOf, ownL]
    exact ⟨p, ps', u, us', f, fps'.flatten, rfl, rfl, by simp, h1, args_own h2⟩

theorem backs_rel {π : Nat → Option Pl} : ∀ {ms : List (Option (Shp × Bool))} {vs : List TV} {us : List Value}, relTVs w S π vs us → relTVs w S π (backs ms vs) (backs ms us)
  | [], vs, us, h => by
    have : ∀ {α : Type} (l : List α), backs ([] : List (Option (Shp × Bool))) l = [] := by intro α l; cases l <;> rfl
    rw [this, this]; simp only [relTVs]
  | m :: ms, [], us, h => by
    simp only [relTVs] at h
    subst h
    have : ∀ {α : Type}, backs (m :: ms) ([] : List α) = [] := by intro α; cases m with | none => rfl | some m => obtain ⟨a, b⟩ := m; cases b <;> rfl
    rw [this, this]; simp only [relTVs]
  | none :: ms, v :: vs, us, h => by
    simp only [relTVs] at h
    obtain ⟨u, us', rfl, h1, h2⟩ := h
    simp only [backs]
    exact backs_rel h2
  | some (_, false) :: ms, v :: vs, us, h => by
    simp only [relTVs] at h
    obtain ⟨u, us', rfl, h1, h2⟩ := h
    simp only [backs]
    exact backs_rel h2
  | some (_, true) :: ms, v :: vs, us, h => by
    simp only [relTVs] at h
    obtain ⟨u, us', rfl, h1, h2⟩ := h
    simp only [backs, relTVs]
    exact ⟨u, _, rfl, h1, backs_rel h2⟩
end

section
variable {P : Program} {T : TypeId → Option TI} {G : Nat → Option (List PV)} {Γ : FuncId → Option Cal} {us0 : Rts}

theorem cell_ok (hT : TOk P T) {w : World} {S : Nat → Prop} {π : Nat → Option Pl} {a : Act} {s : St} (hn : Now G us0 w S π a s) {t : TypeId} {i : TI} {v x : TV} {u : Value} (hi : T t = some i) (hr : relTV w S π v u) (h : cellTV T s t v = some x) :
    ∃ y, (do loadVar t (← asAddr u) : Sem Value).run P w = .ok y w ∧ relTV w S π x y := by
  unfold cellTV at h
  split at h
  · rename_i id off
    simp only [relTV] at hr
    obtain ⟨b, s0, c, z, l, hp, rfl⟩ := hr
    have has : ∀ ad : Addr, (asAddr (.pointer (some ad))).run P w = .ok ad w := fun ad => rfl
    split at h
    · rename_i cs hl
      obtain ⟨pl, hp', hk⟩ := hn.ob.ok id _ hl
      rw [hp] at hp'; cases hp'
      simp only [obOk] at hk
      obtain ⟨rfl, C, ct, fr, hg, hu, ho, hre⟩ := hk
      rw [isAggT_eq hi, tsize_eq hi] at h
      have hlen := relTVs_length hre
      cases hd : i.desc.isAgg with
      | true =>
        rw [hd, if_pos rfl] at h
        split at h
        · rename_i hle
          cases h
          have hre2 := relTVs_take (relTVs_drop hre off) i.size
          refine ⟨_, ?_, packTV_rel hre2 (fun u hu => ho u (List.mem_of_mem_drop (List.mem_of_mem_take hu)))⟩
          have hlt : ((C.toList.drop off).take i.size).length = i.size := by simp only [List.length_take, List.length_drop]; omega
          simp only [Sem.run_bind, has, Result.andThen_ok]
          rw [run_loadVar_agg (hT t i hi) hd ((C.toList.drop off).take i.size) hlt (fun j u hj => by
            rw [cell_of_row w b _ C ct fr hg, ← Array.getElem?_toList]
            rw [List.getElem?_take] at hj
            split at hj
            · rw [List.getElem?_drop] at hj
              rw [Nat.zero_add]; exact hj
            · cases hj)]
        · cases h
      | false =>
        rw [hd, if_neg (by simp)] at h
        obtain ⟨y, hy, hyr⟩ := relTVs_get hre h
        refine ⟨y, ?_, hyr⟩
        simp only [Sem.run_bind, has, Result.andThen_ok]
        rw [run_loadVar_one (hT t i hi) hd (by rw [cell_of_row w b _ C ct fr hg, ← Array.getElem?_toList, Nat.zero_add]; exact hy)]
    · rename_i p n hl
      obtain ⟨pl, hp', hk⟩ := hn.ob.ok id _ hl
      rw [hp] at hp'; cases hp'
      simp only [obOk] at hk
      obtain ⟨rfl, C, ct, fr, hg, hu, ho, hsz, hq, hre⟩ := hk
      rw [isAggT_eq hi, tsize_eq hi] at h
      cases hd : i.desc.isAgg with
      | false => rw [hd, if_neg (by simp)] at h; cases h
      | true =>
        rw [hd, if_pos rfl] at h
        split at h
        · rename_i hle
          cases h
          obtain ⟨rfl, hin⟩ := hle
          refine ⟨_, ?_, by simp only [relTV]; exact hre⟩
          simp only [Sem.run_bind, has, Result.andThen_ok]
          rw [run_loadVar_agg (hT t i hi) hd C.toList (by rw [Array.length_toList]; omega) (fun j u hj => by
            rw [cell_of_row w b _ C ct fr hg, ← Array.getElem?_toList, Nat.zero_add]; exact hj)]
        · cases h
    · cases h
  · cases h

/-- What a result is. -/
def resVal (tmps : Array Value) : ResultVar → Sem Value
  | .tmp t => pure (tmps.getD t undef)
  | .cell c t => do loadVar t (← asAddr (tmps.getD c undef))

theorem resTV_ok (hT : TOk P T) {w : World} {S : Nat → Prop} {π : Nat → Option Pl} {a : Act} {s : St} (hn : Now G us0 w S π a s) : ∀ (rs : List ResultVar) (vs : List TV), resTV T s rs = some vs →
    ∃ us, (rs.mapM (resVal a.tmps) : Sem (List Value)).run P w = .ok us w ∧ relTVs w S π vs us
  | [], vs, h => by
    simp only [resTV, Option.some.injEq] at h
    subst h
    exact ⟨[], by simp, by simp only [relTVs]⟩
  | .tmp t :: rs, vs, h => by
    simp only [resTV] at h
    split at h
    · rename_i v vs' hv hvs
      cases h
      obtain ⟨us, h1, h2⟩ := resTV_ok hT hn rs vs' hvs
      refine ⟨_, ?_, by simp only [relTVs]; exact ⟨_, us, rfl, hn.tm t v hv, h2⟩⟩
      simp only [List.mapM_cons, resVal, Sem.run_bind, Sem.run_pure, Result.andThen_ok, h1]
    · cases h
  | .cell c t :: rs, vs, h => by
    simp only [resTV] at h
    split at h
    · rename_i v i vs' hv hi hvs
      split at h
      · rename_i u hu
        cases h
        obtain ⟨us, h1, h2⟩ := resTV_ok hT hn rs vs' hvs
        obtain ⟨y, h3, h4⟩ := cell_ok hT hn hi (hn.tm c v hv) hu
        refine ⟨_, ?_, by simp only [relTVs]; exact ⟨y, us, rfl, h4, h2⟩⟩
        rw [List.mapM_cons]
        simp only [resVal, Sem.run_bind] at h3 ⊢
        rw [h3]
        simp only [Result.andThen_ok, h1, Sem.run_pure]
      · cases h
    · cases h

end
end Go.Proofs.YtpaifgipdhgfkaaGreatDoorV

/- The reading machine: what is said of a function holds, if its code comes to it. -/
namespace Go.Proofs.YtpaifgipdhgfkaaGreatDoorV
open Go Go.RowKit

section
variable {P : Program} {T : TypeId → Option TI} {G : Nat → Option (List PV)} {Γ : FuncId → Option Cal}

theorem results_ok (hT : TOk P T) {us0 : Rts} {w : World} {S : Nat → Prop} {π : Nat → Option Pl} {a : Act} {s : St} (hn : Now G us0 w S π a s) {fn : Func} {vs : List TV} (h : resTV T s fn.results.toList = some vs) :
    ∃ v, (results fn a.tmps).run P w = .ok v w ∧ relTV w S π (tupTV vs) v := by
  obtain ⟨us, h1, h2⟩ := resTV_ok hT hn _ vs h
  have hl := relTVs_length h2
  have hm : (results fn a.tmps).run P w = .ok (if h : us.toArray.size = 1 then us.toArray[0] else .tuple us.toArray) w := by
    have h0 : results fn a.tmps = (do let vs ← fn.results.mapM (resVal a.tmps); pure (if h : vs.size = 1 then vs[0] else .tuple vs)) := by
      unfold results
      congr 1
    rw [h0, Array.mapM_eq_mapM_toList]
    simp only [Sem.run_bind, Sem.run_map, h1, Result.andThen_ok, Sem.run_pure]
  refine ⟨_, hm, ?_⟩
  match vs, us, h2, hl with
  | [v], [u], h2, _ =>
    simp only [relTVs] at h2
    obtain ⟨u', us', he, h3, _⟩ := h2
    cases he
    simpa [tupTV] using h3
  | [], [], h2, _ => simp only [tupTV, relTV]; exact ⟨#[], by simp, by simpa using h2⟩
  | v1 :: v2 :: vs, u1 :: u2 :: us, h2, _ =>
    have hne : ¬ ((u1 :: u2 :: us).toArray.size = 1) := by simp
    rw [dif_neg hne]
    simp only [tupTV, relTV]
    exact ⟨_, rfl, by simpa using h2⟩

theorem backs_outs {w : World} {S : Nat → Prop} {π : Nat → Option Pl} {look : Nat → Option Ob} (hob : ObsOk w S π look) {S' : Nat → Prop} (hs : ∀ b, S b → S' b) : ∀ (ms : List (Option (Shp × Bool))) (us : List Value) (fps : List (List Nat)) (roots : List TV) (outs : List PV) (lent owned : List Nat),
    us.length = ms.length → fps.length = (ms.filter Option.isSome).length → expL look ((backs ms ms).map shOf) roots = some (outs, lent, owned) → relTVs w S π roots (backs ms us) → (∀ b ∈ blks π lent, S' b) →
    (∀ (i : Nat) (id : Nat), roots[i]? = some (TV.ow id) → ∀ f, (backs (ms.filter Option.isSome) fps)[i]? = some f → blks π [id] = f) → (∀ (i : Nat), (backs ms ms)[i]?.map shOf = some .s → ∃ id, roots[i]? = some (TV.ow id)) →
    ∃ gps, outsV w S' ms us fps outs gps ∧ gps.flatten = blks π owned
  | [], us, fps, roots, outs, lent, owned, hl, hf, h, hr, hb, hpl, hsl => by
    have : us = [] := List.eq_nil_of_length_eq_zero hl
    subst this
    have : fps = [] := List.eq_nil_of_length_eq_zero (by simpa using hf)
    subst this
    simp only [backs, relTVs] at hr
    cases roots with
    | cons v vs => simp only [backs, List.map_nil, expL] at h; cases h
    | nil =>
      simp only [backs, List.map_nil, expL, Option.some.injEq, Prod.mk.injEq] at h
      obtain ⟨rfl, rfl, rfl⟩ := h
      exact ⟨[], by simp [outsV], by simp [blks]⟩
  | none :: ms, [], fps, roots, outs, lent, owned, hl, hf, h, hr, hb, hpl, hsl => by simp at hl
  | none :: ms, u :: us, fps, roots, outs, lent, owned, hl, hf, h, hr, hb, hpl, hsl => by
    simp only [backs] at h hr hsl
    obtain ⟨gps, g1, g2⟩ := backs_outs hob hs ms us fps roots outs lent owned (by simpa using hl) (by simpa using hf) h hr hb (by simpa using hpl) hsl
    exact ⟨gps, by simp only [outsV]; exact ⟨u, us, rfl, g1⟩, g2⟩
  | some (sh, b) :: ms, [], fps, roots, outs, lent, owned, hl, hf, h, hr, hb, hpl, hsl => by simp at hl
  | some (sh, b) :: ms, u :: us, [], roots, outs, lent, owned, hl, hf, h, hr, hb, hpl, hsl => by simp at hf
  | some (sh, false) :: ms, u :: us, f :: fps, roots, outs, lent, owned, hl, hf, h, hr, hb, hpl, hsl => by
    simp only [backs] at h hr hsl
    have hfil : List.filter Option.isSome (some (sh, false) :: ms) = some (sh, false) :: ms.filter Option.isSome := rfl
    rw [hfil] at hpl hf
    simp only [backs] at hpl
    obtain ⟨gps, g1, g2⟩ := backs_outs hob hs ms us fps roots outs lent owned (by simpa using hl) (by simpa using hf) h hr hb hpl hsl
    exact ⟨gps, by simp only [outsV]; exact ⟨u, us, f, fps, rfl, rfl, g1⟩, g2⟩
  | some (sh, true) :: ms, u :: us, f :: fps, roots, outs, lent, owned, hl, hf, h, hr, hb, hpl, hsl => by
    simp only [backs, List.map_cons, shOf] at h hr hsl
    have hfil : List.filter Option.isSome (some (sh, true) :: ms) = some (sh, true) :: ms.filter Option.isSome := rfl
    rw [hfil] at hpl hf
    simp only [backs] at hpl
    cases roots with
    | nil => simp only [expL] at h; cases h
    | cons v vs =>
      obtain ⟨u', us', he, hr1, hr2⟩ : ∃ u' us', (u :: backs ms us) = u' :: us' ∧ relTV w S π v u' ∧ relTVs w S π vs us' := by simpa only [relTVs] using hr
      cases he
      simp only [expL] at h
      split at h
      · rename_i p l1 o1 ps' l2 o2 h1 h2
        cases h
        rw [blks_append] at hb
        obtain ⟨g1, _⟩ := exp_ok hob hs sh v u p l1 o1 h1 hr1 fun b hb2 => hb b (List.mem_append_left _ hb2)
        obtain ⟨gps, g2, g3⟩ := backs_outs hob hs ms us fps vs ps' l2 o2 (by simpa using hl) (by simpa using hf) h2 hr2 (fun b hb2 => hb b (List.mem_append_right _ hb2))
          (fun i id hi f' hf' => hpl (i + 1) id (by simpa using hi) f' (by simpa using hf')) (fun i hi => by simpa using hsl (i + 1) (by simpa using hi))
        refine ⟨blks π o1 :: gps, ?_, by rw [List.flatten_cons, g3, blks_append]⟩
        simp only [outsV]
        refine ⟨u, us, f, fps, p, ps', _, gps, rfl, rfl, rfl, rfl, g1, fun e => ?_, g2⟩
        subst e
        obtain ⟨id, hid⟩ := hsl 0 (by simp [shOf])
        simp only [List.getElem?_cons_zero, Option.some.injEq] at hid
        subst hid
        have := exp_ow h1
        subst this
        exact hpl 0 id rfl f rfl
      · cases h

theorem outs_noMem {w : World} {S S' : Nat → Prop} : ∀ {ms : List (Option (Shp × Bool))} {us : List Value} {fps : List (List Nat)} {outs : List PV} {gps : List (List Nat)}, outsV w S ms us fps outs gps → noMemL outs = true → outsV w S' ms us fps outs gps
  | [], us, fps, outs, gps, h, _ => by simp only [outsV] at h ⊢; exact h
  | none :: ms, us, fps, outs, gps, h, hn => by
    simp only [outsV] at h ⊢
    obtain ⟨u, us', h1, h2⟩ := h
    exact ⟨u, us', h1, outs_noMem h2 hn⟩
  | some (sh, false) :: ms, us, fps, outs, gps, h, hn => by
    simp only [outsV] at h ⊢
    obtain ⟨u, us', f, fps', h1, h2, h3⟩ := h
    exact ⟨u, us', f, fps', h1, h2, outs_noMem h3 hn⟩
  | some (sh, true) :: ms, us, fps, outs, gps, h, hn => by
    simp only [outsV] at h ⊢
    obtain ⟨u, us', f, fps', p, outs', g, gps', h1, h2, rfl, h4, h5, h6, h7⟩ := h
    simp only [noMemL, Bool.and_eq_true] at hn
    exact ⟨u, us', f, fps', p, outs', g, gps', h1, h2, rfl, h4, noMem_own sh p u g h5 hn.1, h6, outs_noMem h7 hn.2⟩

theorem args_length {w : World} {S : Nat → Prop} : ∀ {ms : List (Option (Shp × Bool))} {ps : List PV} {us : List Value} {fps : List (List Nat)}, argsOk w S ms ps us fps → us.length = ms.length ∧ fps.length = (ms.filter Option.isSome).length
  | [], ps, us, fps, h => by simp only [argsOk] at h; obtain ⟨_, rfl, rfl⟩ := h; simp
  | none :: ms, ps, us, fps, h => by
    simp only [argsOk] at h
    obtain ⟨p, ps', u, us', rfl, rfl, _, h2⟩ := h
    obtain ⟨g1, g2⟩ := args_length h2
    exact ⟨by simp [g1], by simpa using g2⟩
  | some m :: ms, ps, us, fps, h => by
    simp only [argsOk] at h
    obtain ⟨p, ps', u, us', f, fps', rfl, rfl, rfl, _, h2⟩ := h
    obtain ⟨g1, g2⟩ := args_length h2
    exact ⟨by simp [g1], by simpa using g2⟩

theorem rootsOk_get : ∀ {ms : List (Option (Shp × Bool))} {vs : List TV}, rootsOk ms vs = true → ms.length = vs.length → (∀ m ∈ ms, m.isSome = true) → ∀ (i : Nat), ms[i]?.map shOf = some .s → ∃ id, vs[i]? = some (TV.ow id)
  | [], vs, _, _, _, i, h => by simp at h
  | m :: ms, [], _, hl, _, _, _ => by simp at hl
  | m :: ms, v :: vs, h, hl, hs, i, hi => by
    have hs' := fun m hm => hs m (List.mem_cons_of_mem _ hm)
    have key : rootsOk ms vs = true ∧ (shOf m = .s → ∃ id, v = .ow id) := by
      cases m with
      | none => simp at hs
      | some m =>
        obtain ⟨sh, b⟩ := m
        cases sh with
        | s => cases v <;> simp only [rootsOk, Bool.false_eq_true] at h; exact ⟨h, fun _ => ⟨_, rfl⟩⟩
        | _ => exact ⟨by cases v <;> simpa only [rootsOk] using h, fun e => by simp [shOf] at e⟩
    cases i with
    | zero =>
      simp only [List.getElem?_cons_zero, Option.map_some, Option.some.injEq] at hi
      obtain ⟨id, rfl⟩ := key.2 hi
      exact ⟨id, rfl⟩
    | succ i =>
      simp only [List.getElem?_cons_succ] at hi ⊢
      exact rootsOk_get key.1 (by simpa using hl) hs' i hi

theorem backs_some : ∀ {ms : List (Option (Shp × Bool))}, ∀ m ∈ backs ms ms, m.isSome = true
  | [], m, h => by simp [backs] at h
  | none :: ms, m, h => by simp only [backs] at h; exact backs_some m h
  | some (_, false) :: ms, m, h => by simp only [backs] at h; exact backs_some m h
  | some (_, true) :: ms, m, h => by
    simp only [backs, List.mem_cons] at h
    rcases h with rfl | h
    · rfl
    · exact backs_some m h

/-- What a function gets, as memory of the call's own: each slice where it was given. -/
theorem argsImp {R : Type} : ∀ (ms : List (Option (Shp × Bool))) (ps : List PV) (nx : Nat) (k : List TV → List Ob → Option R) (r : R), impLK (ms.map shOf) ps nx k = some r → ∃ tvs obs, k tvs obs = some r ∧
    ∀ (w : World) (S : Nat → Prop) (look : Nat → Option Ob) (π : Nat → Option Pl) (us : List Value) (fps : List (List Nat)), argsOk w S ms ps us fps → fps.flatten.Nodup → ObsOk w S π look → (∀ b ∈ fps.flatten, ¬ S b ∧ b < w.heap.size ∧ ¬ owned look π b) → Free look π nx obs.length →
    ∃ π', ObsOk w S π' (upd look [] nx obs) ∧ Ext π π' ∧ (∀ id, π' id ≠ none → π id ≠ none ∨ (nx ≤ id ∧ id < nx + obs.length)) ∧ relTVs w S π' tvs us ∧ (∀ b, owned (upd look [] nx obs) π' b → owned look π b ∨ b ∈ fps.flatten) ∧
      ∀ (i id : Nat), (backs ms tvs)[i]? = some (TV.ow id) → ∀ f, (backs (ms.filter Option.isSome) fps)[i]? = some f → blks π' [id] = f
  | [], ps, nx, k, r, h => by
    simp only [List.map_nil, impLK] at h
    split at h
    · refine ⟨_, _, h, ?_⟩
      intro w S look π us fps ho hn hob hfp hf
      simp only [argsOk] at ho
      obtain ⟨rfl, rfl, rfl⟩ := ho
      exact ⟨π, by rw [upd_nil]; exact hob, Ext.refl _, fun id h => .inl h, by simp only [relTVs], fun b hb => by rw [upd_nil] at hb; exact .inl hb, fun i id h => by simp [backs] at h⟩
    · cases h
  | m :: ms, ps, nx, k, r, h => by
    simp only [List.map_cons, impLK] at h
    obtain ⟨p, hp, h'⟩ := bind_inv h
    obtain ⟨tv, obs, hk, him⟩ := imp_ok (shOf m) p nx _ r h'
    obtain ⟨tvs, obs', hk', him'⟩ := argsImp ms ps.tail _ _ r hk
    refine ⟨_, _, hk', ?_⟩
    intro w S look π us fps ho hn hob hfp hf
    have hdec : ∃ ps' u us' f fps', ps = p :: ps' ∧ us = u :: us' ∧ fps.flatten = f ++ fps'.flatten ∧ ownS w S (shOf m) p u f ∧ argsOk w S ms ps' us' fps' ∧ (m.isSome = true → fps = f :: fps') ∧ (m = none → fps = fps') := by
      cases m with
      | none =>
        simp only [argsOk] at ho
        obtain ⟨p', ps', u, us', rfl, rfl, h1, h2⟩ := ho
        simp only [List.head?_cons, Option.some.injEq] at hp
        subst hp
        exact ⟨ps', u, us', [], fps, rfl, rfl, rfl, by simp only [shOf, ownS]; exact ⟨trivial, h1⟩, h2, by simp, fun _ => rfl⟩
      | some m =>
        simp only [argsOk] at ho
        obtain ⟨p', ps', u, us', f, fps', rfl, rfl, rfl, h1, h2⟩ := ho
        simp only [List.head?_cons, Option.some.injEq] at hp
        subst hp
        exact ⟨ps', u, us', f, fps', rfl, rfl, by simp, h1, h2, fun _ => rfl, by simp⟩
    obtain ⟨ps', u, us', f1, fps', rfl, rfl, hfl, h1, h2, hsome, hnone⟩ := hdec
    rw [hfl] at hn hfp
    simp only [List.nodup_append] at hn
    simp only [List.length_append] at hf
    obtain ⟨π', g1, g2, g3, g4, g5, g6⟩ := him w S look π u f1 h1 hn.1 hob (fun b hb => hfp b (List.mem_append_left _ hb)) (fun j hj => hf j (by omega))
    obtain ⟨π'', k1, k2, k3, k4, k5, k6⟩ := him' w S _ π' us' fps' h2 hn.2.1 g1 (fun b hb => by
      obtain ⟨q1, q2, q3⟩ := hfp b (List.mem_append_right _ hb)
      exact ⟨q1, q2, fun ho => (g5 b ho).elim q3 fun h => hn.2.2 b h b hb rfl⟩) (free_step hf g3)
    refine ⟨π'', by rw [← upd_append]; exact k1, g2.trans k2, ?_, ?_, ?_, ?_⟩
    · intro id hid
      simp only [List.length_append]
      rcases k3 id hid with h1 | h1
      · rcases g3 id h1 with h2 | h2
        · exact .inl h2
        · exact .inr (by omega)
      · exact .inr (by omega)
    · simp only [relTVs]
      exact ⟨u, us', rfl, relTV_keep (keep_sub fun _ h => h) k2 _ _ g4, k4⟩
    · intro b hb
      rw [← upd_append] at hb
      rw [hfl]
      rcases k5 b hb with h1 | h1
      · rcases g5 b h1 with h2 | h2
        · exact .inl h2
        · exact .inr (List.mem_append_left _ h2)
      · exact .inr (List.mem_append_right _ h1)
    · intro i id hi f hf'
      cases m with
      | none =>
        rw [hnone rfl] at hf'
        have : List.filter Option.isSome ((none : Option (Shp × Bool)) :: ms) = ms.filter Option.isSome := rfl
        rw [this] at hf'
        simp only [backs] at hi
        exact k6 i id hi f hf'
      | some m =>
        obtain ⟨sh, b⟩ := m
        rw [hsome rfl] at hf'
        have : List.filter Option.isSome (some (sh, b) :: ms) = some (sh, b) :: ms.filter Option.isSome := rfl
        rw [this] at hf'
        cases b with
        | false =>
          simp only [backs] at hi hf'
          exact k6 i id hi f hf'
        | true =>
          simp only [backs] at hi hf'
          cases i with
          | zero =>
            simp only [List.getElem?_cons_zero, Option.some.injEq] at hi hf'
            subst hf'
            have h0 := g6 id hi
            rw [← h0]
            refine blks_congr fun j hj => ?_
            simp only [List.mem_singleton] at hj
            subst hj
            rw [hi] at g4
            simp only [relTV] at g4
            rcases g4 with ⟨q, _⟩ | ⟨_, _, _, _, _, _, q, _⟩ <;> rw [q, k2 _ _ q]
          | succ i =>
            simp only [List.getElem?_cons_succ] at hi hf'
            exact k6 i id hi f hf'

/-- A callee's own code, run beside the caller's frame, is told rightly. -/
theorem inlF_ok (hm : P.follows .mixedOrders = true) (hT : TOk P T) (hΓ : CalsOk P G Γ) {f : FuncId} {fn : Func} {F : Fun} {Λ : Loops} (hf : P.funcs[f]? = some fn) (hb : fn.body = some F.code) (hnt : fn.ntmps = F.ntmps) (hrs : fn.results.toList = F.results) (hname : (fn.name == "runtime.NumGoroutine") = false)
    (hΛ : LoopsOk P G Λ F.code) : InlOk P G f (inlF T G Γ Λ F) := by
  intro R s args k r h us0 w S π a hn us hr
  have hcall : (callFunc f us.toArray).run P w = .ok (.enter f us.toArray) w := by
    simp only [beq_eq_false_iff_ne] at hname
    simp [callFunc, hf, hname, hb]
  unfold Applies
  rw [hcall]
  simp only
  refine calls_of_wp hf hb ?_
  unfold inlF at h
  have hc := run_ok hm hT hΓ F.code hΛ _ _ _ h
  have hlen := relTVs_length hr
  have htl : s.tm.length = a.tmps.toList.length := by rw [hn.len]; simp
  have htm : relTVs w S π s.tm a.tmps.toList := relTVs_of htl fun i v u hv hu => by
    have h1 := hn.tm i v hv
    rw [Array.getD_eq_getD_getElem?, ← Array.getElem?_toList, hu, Option.getD_some] at h1
    exact h1
  let rts : Rts := ⟨a.tmps.toList ++ us0.us, (s.tm.map fun v => match v with | .ow id => π id | _ => none) ++ us0.pls⟩
  let s0 : St := ⟨args ++ List.replicate (F.ntmps - args.length) .undef, s.ob, s.tm ++ s.roots⟩
  have hn0 : Now G rts w S π { tmps := us.toArray ++ Array.replicate (fn.ntmps - us.toArray.size) undef, defers := [] } s0 := by
    refine ⟨rfl, ?_, ?_, hn.ob, hn.pl, relTVs_append htm hn.roots, ?_, hn.go⟩
    · simp [s0, hlen, hnt]
    · intro i v hv
      simp only [s0] at hv
      rw [List.getElem?_append] at hv
      split at hv
      · rename_i hi
        obtain ⟨u, hu, hr'⟩ := relTVs_get hr hv
        have : (us.toArray ++ Array.replicate (fn.ntmps - us.toArray.size) undef).getD i undef = u := by
          rw [Array.getD_eq_getD_getElem?, Array.getElem?_append_left (by simpa [← hlen] using hi)]
          simp [hu]
        rw [this]
        exact hr'
      · rw [List.getElem?_replicate] at hv
        split at hv
        · cases hv; simp only [relTV]
        · cases hv
    · intro i id hi
      simp only [s0, rts] at hi ⊢
      rw [List.getElem?_append] at hi ⊢
      rw [List.length_map]
      split at hi
      · rename_i hlt
        rw [if_pos hlt]
        simp only [List.getElem?_map, hi, Option.map_some, and_true]
        obtain ⟨u, _, hr'⟩ := relTVs_get htm hi
        simp only [relTV] at hr'
        rcases hr' with ⟨h, _⟩ | ⟨b, s, c, z, l, a, h, _⟩ <;> rw [h] <;> simp
      · rename_i hlt
        rw [if_neg hlt]
        exact hn.places _ id hi
  refine wp_mono (hc rts w S π _ hn0 (fun ex a' w' => ∃ e s', ex = exOf e ∧ (match (motive := Ex → Option R) e with | .exit _ => none | _ => match resTV T s' F.results with | some vs => k (tupTV vs) ⟨s'.roots.take s.tm.length, s'.ob, s'.roots.drop s.tm.length⟩ | none => none) = some r ∧ Goes G rts w S π s0 a' w' s') fun e s' he a' w' hg => ⟨e, s', rfl, (by cases e <;> exact he), hg⟩) ?_
  rintro ex a' w' ⟨e, s', hex, he, S1, π1, hn1, hs1⟩
  subst hex
  have fin : (match resTV T s' F.results with | some vs => k (tupTV vs) ⟨s'.roots.take s.tm.length, s'.ob, s'.roots.drop s.tm.length⟩ | none => none) = some r → ∃ v, (results fn a'.tmps).run P w' = .ok v w' ∧ ∃ v', Ending.returned v = .returned v' ∧ ∃ tv s' S' π', k tv s' = some r ∧ Now G us0 w' S' π' a s' ∧ relTV w' S' π' tv v' ∧ Step w S (s.own π) w' S' (s'.own π') := by
    intro hfin
    split at hfin
    case h_2 => cases hfin
    rename_i vs hvs
    obtain ⟨v, hv1, hv2⟩ := results_ok (fn := fn) hT hn1 (by rw [hrs]; exact hvs)
    have hrl := relTVs_length hn1.roots
    simp only [rts, List.length_append] at hrl
    refine ⟨v, hv1, v, rfl, tupTV vs, _, S1, π1, hfin, ⟨hn.df, ?_, ?_, hn1.ob, hn1.pl, ?_, ?_, hn1.go⟩, hv2, hs1⟩
    · rw [List.length_take, hn.len]
      simp only [Array.length_toList] at hrl
      omega
    · intro i v hv
      simp only [List.getElem?_take] at hv
      split at hv
      · rename_i hlt
        obtain ⟨u, hu, hr'⟩ := relTVs_get hn1.roots hv
        simp only [rts] at hu
        rw [List.getElem?_append_left (by rw [← htl]; exact hlt)] at hu
        rw [Array.getD_eq_getD_getElem?, ← Array.getElem?_toList, hu, Option.getD_some]
        exact hr'
      · cases hv
    · have := relTVs_drop hn1.roots s.tm.length
      rw [show List.drop s.tm.length rts.us = us0.us by simp only [rts]; rw [htl, List.drop_left]] at this
      exact this
    · intro i id hi
      rw [List.getElem?_drop] at hi
      obtain ⟨q1, q2⟩ := hn1.places _ id hi
      refine ⟨q1, ?_⟩
      simp only [rts] at q2
      rw [List.getElem?_append_right (by simp)] at q2
      simpa using q2
  cases e with
  | normal => exact ⟨hn1.df, fin he⟩
  | exit i => cases he
  | ret => exact ⟨hn1.df, fin he⟩

theorem fun_ok (hm : P.follows .mixedOrders = true) (hT : TOk P T) (hΓ : CalsOk P G Γ) {f : FuncId} {fn : Func} {c : Ctr} {F : Fun} (hf : P.funcs[f]? = some fn) (hb : fn.body = some F.code) (hnt : fn.ntmps = F.ntmps) (hrs : fn.results.toList = F.results) (hname : (fn.name == "runtime.NumGoroutine") = false)
    (hF : ∀ ps x, c.F ps = some x → ∃ Λ, LoopsOk P G Λ F.code ∧ funK T G Γ Λ c.res c.scal c.modes F ps = some x) : Holds P G f c := by
  intro w S ps us fps r outs hargs hnd hfp hst hgo hx
  obtain ⟨Λ, hΛ, hk⟩ := hF ps _ hx
  have hcall : (callFunc f us.toArray).run P w = .ok (.enter f us.toArray) w := by
    simp only [beq_eq_false_iff_ne] at hname
    simp [callFunc, hf, hname, hb]
  unfold Applies
  rw [hcall]
  simp only
  refine calls_of_wp hf hb ?_
  unfold funK at hk
  obtain ⟨tvs, obs, hrun, him⟩ := argsImp _ _ _ _ _ hk
  have hob0 : ObsOk w S (fun _ => none) (fun _ => none) := ⟨fun _ _ h => (by cases h), fun _ _ _ _ _ _ _ h => (by cases h), fun b h => (by obtain ⟨_, _, _, h, _⟩ := h; cases h), hst⟩
  obtain ⟨π, g1, g2, g3, g4, g5, g6⟩ := him w S (fun _ => none) (fun _ => none) us fps hargs hnd hob0 (fun b hb => ⟨(hfp b hb).1, (hfp b hb).2, by rintro ⟨_, _, _, h, _⟩; cases h⟩) (fun _ _ => ⟨rfl, rfl⟩)
  have hlk : upd (fun _ => none) [] 0 obs = fun i => obs[i]? := by
    funext i
    simp only [upd, upLast, Nat.zero_le, true_and, Nat.zero_add, Nat.sub_zero]
    split
    · rfl
    · rename_i h; rw [List.getElem?_eq_none (by omega)]
  rw [hlk] at g1 g5
  have hc := run_ok hm hT hΓ F.code hΛ _ _ _ hrun
  have hlen := relTVs_length g4
  let rts : Rts := ⟨backs c.modes us, (backs c.modes tvs).map fun v => match v with | .ow id => π id | _ => none⟩
  have hn : Now G rts w S π { tmps := us.toArray ++ Array.replicate (fn.ntmps - us.toArray.size) undef, defers := [] } ⟨tvs ++ List.replicate (F.ntmps - tvs.length) .undef, obs, backs c.modes tvs⟩ := by
    refine ⟨rfl, ?_, ?_, g1, ?_, backs_rel g4, ?_, hgo⟩
    · simp [hlen, hnt]
    · intro i v hv
      rw [List.getElem?_append] at hv
      split at hv
      · rename_i hi
        obtain ⟨u, hu, hr⟩ := relTVs_get g4 hv
        have : (us.toArray ++ Array.replicate (fn.ntmps - us.toArray.size) undef).getD i undef = u := by
          rw [Array.getD_eq_getD_getElem?, Array.getElem?_append_left (by simpa [← hlen] using hi)]
          simp [hu]
        rw [this]
        exact hr
      · rw [List.getElem?_replicate] at hv
        split at hv
        · cases hv; simp only [relTV]
        · cases hv
    · intro id hid
      rcases g3 id hid with h | h
      · exact absurd rfl h
      · simpa using h.2
    · intro i id hi
      simp only [rts, List.getElem?_map, hi, Option.map_some, and_true]
      obtain ⟨u, _, hr⟩ := relTVs_get (backs_rel (ms := c.modes) g4) hi
      simp only [relTV] at hr
      rcases hr with ⟨h, _⟩ | ⟨b, s, c, z, l, a, h, _⟩ <;> rw [h] <;> simp
  refine wp_mono (hc rts w S π _ hn (fun ex a' w' => ∃ e s', ex = exOf e ∧ (match (motive := Ex → Option (PV × List PV)) e with | .exit _ => none | _ => finK T c.res c.scal c.modes F s') = some (r, outs) ∧ Goes G rts w S π ⟨tvs ++ List.replicate (F.ntmps - tvs.length) .undef, obs, backs c.modes tvs⟩ a' w' s') fun e s' he a' w' hg => ⟨e, s', rfl, (by cases e <;> exact he), hg⟩) ?_
  rintro ex a' w' ⟨e, s', hex, he, S1, π1, hn1, hs1⟩
  subst hex
  have fin : finK T c.res c.scal c.modes F s' = some (r, outs) → ∃ v, (results fn a'.tmps).run P w' = .ok v w' ∧ ∃ v', Ending.returned v = .returned v' ∧ ∃ S' g gps, Behind w S fps c us r outs v' w' S' g gps := by
    intro hfin
    unfold finK at hfin
    split at hfin
    · cases hfin
    rename_i vs hvs
    obtain ⟨v, hv1, hv2⟩ := results_ok (fn := fn) hT hn1 (by rw [hrs]; exact hvs)
    split at hfin
    case h_2 => cases hfin
    rename_i r' outs' lent owned hexp
    split at hfin
    case isFalse => cases hfin
    rename_i hchk
    simp only [Bool.and_eq_true] at hchk
    obtain ⟨⟨hnd1, hnd2⟩, hroots⟩ := hchk
    have hro : r' = r ∧ outs' = outs ∧ (c.scal = true → noMem r = true ∧ noMemL outs = true) := by
      split at hfin
      · rename_i hsc
        cases hfin
        exact ⟨rfl, rfl, fun h => by rw [hsc] at h; cases h⟩
      · split at hfin
        · rename_i hm
          cases hfin
          simp only [Bool.and_eq_true] at hm
          exact ⟨rfl, rfl, fun _ => hm⟩
        · cases hfin
    obtain ⟨rfl, rfl, hmem⟩ := hro
    have hlive := (expL_ok (S' := fun b => S1 b ∨ b ∈ blks π1 lent) hn1.ob (fun b hb => .inl hb) _ _ (v :: backs c.modes us) _ _ _ hexp (by simp only [relTVs]; exact ⟨v, _, rfl, hv2, hn1.roots⟩) (fun b hb => .inr hb)).2
    have hrl := relTVs_length hn1.roots
    simp only [expL] at hexp
    split at hexp
    case h_2 => cases hexp
    rename_i p l1 o1 ps' l2 o2 hx1 hx2
    cases hexp
    have hlens := args_length hargs
    obtain ⟨hown1, _⟩ := exp_ok (S' := fun b => S1 b ∨ b ∈ blks π1 (l1 ++ l2)) hn1.ob (fun b hb => .inl hb) c.res _ v _ l1 o1 hx1 hv2 (fun b hb => .inr (by rw [blks_append]; exact List.mem_append_left _ hb))
    have hbl : ∀ {α β : Type} (ms : List (Option (Shp × Bool))) (xs : List α) (ys : List β), xs.length = ms.length → ys.length = ms.length → (backs ms xs).length = (backs ms ys).length := by
      intro α β ms
      induction ms with
      | nil => intro xs ys h1 h2; simp [backs]
      | cons m ms ih =>
        intro xs ys h1 h2
        cases xs with
        | nil => simp at h1
        | cons x xs =>
          cases ys with
          | nil => simp at h2
          | cons y ys =>
            simp only [List.length_cons, Nat.add_right_cancel_iff] at h1 h2
            have := ih xs ys h1 h2
            cases m with
            | none => simpa only [backs] using this
            | some m => obtain ⟨a, b⟩ := m; cases b <;> simp only [backs, List.length_cons, this]
    obtain ⟨gps, hg1, hg2⟩ := backs_outs (S' := fun b => S1 b ∨ b ∈ blks π1 (l1 ++ l2)) hn1.ob (fun b hb => .inl hb) c.modes us fps s'.roots _ l2 o2 hlens.1 hlens.2 hx2 hn1.roots (fun b hb => .inr (by rw [blks_append]; exact List.mem_append_right _ hb))
      (fun i id hi f hf' => by
        obtain ⟨q1, q2⟩ := hn1.places i id hi
        simp only [rts, List.getElem?_map] at q2
        cases hq : (backs c.modes tvs)[i]? with
        | none => rw [hq] at q2; cases q2
        | some tv =>
          rw [hq] at q2
          simp only [Option.map_some, Option.some.injEq] at q2
          cases tv with
          | ow id0 =>
            have := g6 i id0 hq f hf'
            rw [← this]
            simp only [blks, List.filterMap_cons, ← q2, List.filterMap_nil]
          | _ => exact absurd q2.symm q1)
      (fun i hi => rootsOk_get hroots (by rw [hrl]; exact hbl _ _ _ rfl hlens.1) backs_some i hi)
    refine ⟨v, hv1, v, rfl, (fun b => S1 b ∨ b ∈ blks π1 (l1 ++ l2)), blks π1 o1, gps, ?_⟩
    have hownO : ∀ b ∈ blks π1 (o1 ++ o2), s'.own π1 b := blks_lt hn1.ob fun i hi => hlive i (List.mem_append_right _ hi)
    have hownT : ∀ b ∈ blks π1 (l1 ++ l2), s'.own π1 b := blks_lt hn1.ob fun i hi => hlive i (List.mem_append_left _ hi)
    have hstart : ∀ b, St.own ⟨tvs ++ List.replicate (F.ntmps - tvs.length) .undef, obs, backs c.modes tvs⟩ π b → b ∈ fps.flatten := fun b hb => (g5 b hb).elim (by rintro ⟨_, _, _, h, _⟩; cases h) id
    have hback : ∀ b, s'.own π1 b → b ∈ fps.flatten ∨ w.heap.size ≤ b := fun b hb => (hs1.own b hb).imp (hstart b) id
    have hnodup : (blks π1 (o1 ++ o2)).Nodup := blks_nodup hn1.ob (noDup_ok hnd1) fun i hi => hlive i (List.mem_append_right _ hi)
    refine ⟨hs1.os, hs1.tape, hs1.output, hs1.size, fun b hlt hno => hs1.same b hlt fun h => hno (hstart b h), fun b hb => .inl (hs1.sub b hb), fun b hb => ?_, fun b hb => ?_, ?_, fun b hb => ?_, fun S'' hS'' => ?_⟩
    · rcases hb with hb | hb
      · rcases hs1.stab b hb with h | h | h
        · exact .inl h
        · exact .inr (.inl (hstart b h))
        · exact .inr (.inr h)
      · exact .inr (hback b (hownT b hb))
    · rcases hb with hb | hb
      · exact hn1.ob.st b hb
      · exact (hn1.ob.out b (hownT b hb)).2
    · rw [hg2, ← blks_append]; exact hnodup
    · rw [hg2, ← blks_append] at hb
      refine ⟨fun h => ?_, (hn1.ob.out b (hownO b hb)).2, hback b (hownO b hb)⟩
      rcases h with h | h
      · exact (hn1.ob.out b (hownO b hb)).1 h
      · obtain ⟨i, hi, pi, hpi, hbi⟩ := mem_blks.1 hb
        obtain ⟨j, hj, pj, hpj, hbj⟩ := mem_blks.1 h
        obtain ⟨x, hx, hxl⟩ := hlive i (List.mem_append_right _ hi)
        obtain ⟨y, hy, hyl⟩ := hlive j (List.mem_append_left _ hj)
        have := hn1.ob.apart i j x y pi pj b hx hy hxl hyl hpi hpj hbi hbj
        subst this
        simp only [List.all_eq_true] at hnd2
        have := hnd2 i hj
        simp only [List.contains_eq_mem, hi, decide_true, Bool.not_true, Bool.false_eq_true] at this
    · rcases hS'' with rfl | hsc
      · exact ⟨hown1, hg1⟩
      · obtain ⟨m1, m2⟩ := hmem hsc
        exact ⟨noMem_own _ _ _ _ hown1 m1, outs_noMem hg1 m2⟩
  cases e with
  | normal => exact ⟨hn1.df, fin he⟩
  | ret => exact ⟨hn1.df, fin he⟩
  | exit i => cases he

end
end Go.Proofs.YtpaifgipdhgfkaaGreatDoorV
