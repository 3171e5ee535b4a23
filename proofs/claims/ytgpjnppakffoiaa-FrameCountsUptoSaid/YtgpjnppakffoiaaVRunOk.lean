/- The reading machine: code is told rightly. -/
import Derived.Test.YtgpjnppakffoiaaVOp
namespace Go.Proofs.YtgpjnppakffoiaaV
open Go Go.RowKit

theorem constTV_rel {w : World} {S : Nat → Prop} {π : Nat → Option Pl} {v : Value} {x : TV} (h : constTV v = some x) : relTV w S π x v := by
  unfold constTV at h
  split at h <;> first | (cases h; done) | (simp only [Option.some.injEq] at h; subst h; simp only [relTV, rel])

theorem nrm_rel {look : Nat → Option Ob} {w : World} {S : Nat → Prop} {π : Nat → Option Pl} {v : TV} {u : Value} (hob : ObsOk w S π look) (h : relTV w S π v u) : relTV w S π (nrm look v) u := by
  unfold nrm
  split
  · rename_i id
    split
    · rename_i es hl
      obtain ⟨g1, _⟩ := reify_ok (S' := S) hob (fun _ h => h) 100 (.ow id) u (.fs es) [] (by simp only [reify, hl]) h (by simp [blks])
      simpa only [relTV] using g1
    · exact h
  · rename_i id off len cp
    split
    · rename_i es hl
      obtain ⟨g1, _⟩ := reify_ok (S' := S) hob (fun _ h => h) 100 (.sl id off len cp) u (.fs ((es.drop off).take len)) [] (by simp only [reify, hl]) h (by simp [blks])
      simpa only [relTV] using g1
    · exact h
  · rename_i id off
    split
    · rename_i cs hl
      obtain ⟨g1, _⟩ := reify_ok (S' := S) hob (fun _ h => h) 100 (.ref id off) u (.rp cs off) [] (by simp only [reify, hl]) h (by simp [blks])
      simpa only [relTV] using g1
    · exact h
  · rename_i id i j
    split
    · rename_i es hl
      split
      · rename_i e he
        simp only [relTV] at h ⊢
        obtain ⟨b, s, c, z, l, hp, hv⟩ := h
        obtain ⟨pl, hp', hk⟩ := hob.ok id _ hl
        rw [hp] at hp'; cases hp'
        simp only [obOk] at hk
        obtain ⟨rfl, h1, h2, hS, hr⟩ := hk
        obtain ⟨h3, h4⟩ := relEs_get hr he
        simp only [rel]
        exact ⟨b, s + i * z, hv, hS, h4⟩
      · exact h
    · exact h
  · exact h

/-- What the caller has lent: its values, and where they stand. -/
structure Rts where
  us : List Value
  pls : List (Option Pl)

/-- A frame as it is now. -/
structure Now (G : Nat → Option (List PV)) (us0 : Rts) (w : World) (S : Nat → Prop) (π : Nat → Option Pl) (a : Act) (s : St) : Prop where
  df : a.defers = []
  len : s.tm.length = a.tmps.size
  tm : ∀ i v, s.tm[i]? = some v → relTV w S π v (a.tmps.getD i undef)
  ob : ObsOk w S π (fun i => s.ob[i]?)
  pl : ∀ id, π id ≠ none → id < s.ob.length
  roots : relTVs w S π s.roots us0.us
  places : ∀ (i id : Nat), s.roots[i]? = some (TV.ow id) → π id ≠ none ∧ us0.pls[i]? = some (π id)
  go : GOk G w S

def St.own (s : St) (π : Nat → Option Pl) : Nat → Prop := owned (fun i => s.ob[i]?) π

section
variable {P : Program} {T : TypeId → Option TI} {G : Nat → Option (List PV)} {Γ : FuncId → Option Ctr} {us0 : Rts}

theorem Now.ev {w : World} {S : Nat → Prop} {π : Nat → Option Pl} {a : Act} {s : St} (h : Now G us0 w S π a s) : evOk (evS G s) a w S π := by
  intro x v hx
  unfold evS at hx
  split at hx
  · rename_i y hy
    cases hx
    refine nrm_rel h.ob ?_
    cases x with
    | tmp t => exact h.tm t y hy
    | const c => exact constTV_rel hy
    | global g =>
      simp only [evalO] at hy
      split at hy
      · rename_i cs hg
        cases hy
        simp only [relTV, rel]
        obtain ⟨h1, h2⟩ := h.go g cs hg
        exact ⟨g, 0, rfl, h1, h2⟩
      · cases hy
    | func f =>
      simp only [evalO, Option.some.injEq] at hy
      subst hy
      simp only [relTV, rel]
      exact ⟨#[], rfl, by simp [relL]⟩
  · cases hx

theorem ev_glob {s : St} : ∀ g cs, G g = some cs → evS G s (.global g) = some (.val (.rp cs 0)) := by
  intro g cs hg
  simp only [evS, evalO, hg, nrm]

theorem setOb_get : ∀ (up : List (Nat × Ob)) (ob : List Ob) (i : Nat), (up.all fun x => decide (x.1 < ob.length)) = true → (setOb ob up)[i]? = match upLast up i with | some x => some x | none => ob[i]?
  | [], ob, i, _ => rfl
  | (j, x) :: up, ob, i, h => by
    simp only [List.all_cons, Bool.and_eq_true, decide_eq_true_eq] at h
    simp only [setOb, upLast]
    rw [setOb_get up (ob.set j x) i (by simpa using h.2)]
    cases hu : upLast up i with
    | some y => rfl
    | none =>
      simp only [List.getElem?_set]
      by_cases e : j = i
      · subst e; simp [h.1]
      · simp [e]
theorem setOb_length : ∀ (up : List (Nat × Ob)) (ob : List Ob), (setOb ob up).length = ob.length
  | [], ob => rfl
  | (j, x) :: up, ob => by simp only [setOb, setOb_length up, List.length_set]

theorem put_look {s : St} {d : Option Nat} {v : TV} {up : List (Nat × Ob)} {nw : List Ob} (h : (up.all fun x => decide (x.1 < s.ob.length)) = true) : (fun i => (s.put d v up nw).ob[i]?) = upd (fun i => s.ob[i]?) up s.ob.length nw := by
  funext i
  simp only [St.put, upd]
  rw [List.getElem?_append]
  rw [setOb_length]
  by_cases hi : i < s.ob.length
  · rw [if_pos hi, setOb_get up s.ob i h]
    cases hu : upLast up i with
    | some x => rfl
    | none => simp only; rw [if_neg (by omega)]
  · rw [if_neg hi]
    have hu : upLast up i = none := by
      cases hu : upLast up i with
      | none => rfl
      | some x =>
        exfalso
        have : ∀ (up : List (Nat × Ob)), (up.all fun x => decide (x.1 < s.ob.length)) = true → upLast up i = some x → i < s.ob.length := by
          intro up
          induction up with
          | nil => intro _ h; simp [upLast] at h
          | cons y up ih =>
            obtain ⟨j, z⟩ := y
            intro h1 h2
            simp only [List.all_cons, Bool.and_eq_true, decide_eq_true_eq] at h1
            simp only [upLast] at h2
            split at h2
            · rename_i hh; cases h2; exact ih h1.2 hh
            · split at h2
              · rename_i e; subst e; exact h1.1
              · cases h2
        exact hi (this up h hu)
    rw [hu]
    simp only
    by_cases h2 : s.ob.length ≤ i ∧ i < s.ob.length + nw.length
    · rw [if_pos h2]
    · rw [if_neg h2, List.getElem?_eq_none (by omega), List.getElem?_eq_none (by omega)]

theorem Now.put {w w' : World} {S S' : Nat → Prop} {π π' : Nat → Option Pl} {a : Act} {s : St} (h : Now G us0 w S π a s) {v : TV} {up : List (Nat × Ob)} {nw : List Ob} {u : Value} {d : Option Nat} (hup : (up.all fun x => decide (x.1 < s.ob.length)) = true)
    (hA : After w S π (fun i => s.ob[i]?) s.ob.length v up nw u w' S' π') : Now G us0 w' S' π' (a.put d u) (s.put d v up nw) := by
  have hk := hA.step.keep h.ob
  refine ⟨?_, ?_, ?_, ?_, ?_, ?_, ?_, ?_⟩
  · cases d <;> exact h.df
  · cases d with
    | none => exact h.len
    | some d => simp only [Act.put, St.put, List.length_set, Array.size_setIfInBounds]; exact h.len
  · intro i x hx
    cases d with
    | none => exact relTV_keep hk hA.ext _ _ (h.tm i x hx)
    | some d =>
      simp only [St.put, List.getElem?_set] at hx
      simp only [Act.put]
      by_cases e : d = i
      · subst e
        rw [if_pos rfl] at hx
        split at hx
        · rename_i hd
          cases hx
          have : (a.tmps.setIfInBounds d u).getD d undef = u := by
            simp only [Array.getD_eq_getD_getElem?, Array.getElem?_setIfInBounds, if_true]
            rw [if_pos (by rw [← h.len]; exact hd)]
            rfl
          rw [this]
          exact hA.v
        · cases hx
      · rw [if_neg e] at hx
        have : (a.tmps.setIfInBounds d u).getD i undef = a.tmps.getD i undef := by
          simp only [Array.getD_eq_getD_getElem?, Array.getElem?_setIfInBounds]
          rw [if_neg e]
        rw [this]
        exact relTV_keep hk hA.ext _ _ (h.tm i x hx)
  · rw [put_look hup]; exact hA.obs
  · intro id hid
    simp only [St.put, List.length_append, setOb_length]
    rcases hA.only id hid with h1 | h1
    · have := h.pl id h1; omega
    · exact h1.2
  · exact relTVs_keep hk hA.ext _ _ h.roots
  · intro i id hi
    obtain ⟨h1, h2⟩ := h.places i id hi
    cases hp : π id with
    | none => exact absurd hp h1
    | some q => rw [hA.ext _ _ hp]; exact ⟨by simp, by rw [h2, hp]⟩
  · intro g cs hg
    obtain ⟨h1, h2⟩ := h.go g cs hg
    exact ⟨hk.sub _ h1, relCs_keep hk _ _ _ (hk.same _ h1) h2⟩

theorem Now.free {w : World} {S : Nat → Prop} {π : Nat → Option Pl} {a : Act} {s : St} (h : Now G us0 w S π a s) (n : Nat) : Free (fun i => s.ob[i]?) π s.ob.length n := by
  intro j _
  refine ⟨List.getElem?_eq_none (by omega), ?_⟩
  cases hp : π (s.ob.length + j) with
  | none => rfl
  | some q => have := h.pl (s.ob.length + j) (by rw [hp]; simp); omega

/-- From one state to another. -/
def Goes (G : Nat → Option (List PV)) (us0 : Rts) (w : World) (S : Nat → Prop) (π : Nat → Option Pl) (s : St) (a' : Act) (w' : World) (s' : St) : Prop :=
  ∃ S' π', Now G us0 w' S' π' a' s' ∧ Step w S (s.own π) w' S' (s'.own π')

theorem step_ok {R : Type} (hT : TOk P T) (hΓ : ∀ g c, Γ g = some c → Holds P G g c) {o : Oper} {s : St} {k : St → Foot → Option R} {r : R} (h : stepK T G Γ o s k = some r) :
    ∃ s' f, k s' f = some r ∧ ∀ us0 w S π a, Now G us0 w S π a s → ∀ (K : Act → World → Prop) (Q : Exit → Act → World → Prop), (∀ a' w', Goes G us0 w S π s a' w' s' → K a' w') → o.wp P a w K Q := by
  unfold stepK at h
  rw [opK_nat] at h
  obtain ⟨⟨v, up, nw, rd⟩, h1, h2⟩ := bind_inv h
  simp only [unc] at h2
  cases hup : (up.all fun x => decide (x.1 < s.ob.length)) with
  | false => rw [hup] at h2; cases h2
  | true =>
    rw [hup] at h2
    simp only [cond_true] at h2
    refine ⟨_, _, h2, ?_⟩
    intro us0 w S π a hn K Q hK
    refine op_ok hT hΓ ev_glob h1 a w S π hn.ev hn.ob (hn.free _) K Q fun u w' S' π' hA => hK _ _ ⟨S', π', hn.put hup hA, ?_⟩
    have := hA.step
    unfold St.own
    rw [put_look hup]
    exact this

theorem Now.lit {w : World} {S : Nat → Prop} {π : Nat → Option Pl} {a : Act} {s : St} (h : Now G us0 w S π a s) {d : Nat} {b : Bool} (hd : a.tmps.getD d undef = .bool b) : Now G us0 w S π a { s with tm := s.tm.set d (.val (.bool b)) } := by
  refine ⟨h.df, by simpa using h.len, ?_, h.ob, h.pl, h.roots, h.places, h.go⟩
  intro i x hx
  simp only [List.getElem?_set] at hx
  by_cases e : d = i
  · subst e
    rw [if_pos rfl] at hx
    split at hx
    · cases hx; rw [hd]; simp only [relTV, rel]
    · cases hx
  · rw [if_neg e] at hx
    exact h.tm i x hx

theorem Goes.refl {w : World} {S : Nat → Prop} {π : Nat → Option Pl} {a : Act} {s : St} (h : Now G us0 w S π a s) : Goes G us0 w S π s a w s := ⟨S, π, h, Step.refl _ _ _⟩

theorem skip_ok {o : Oper} {w : World} {S : Nat → Prop} {π : Nat → Option Pl} {a : Act} {s : St} (h : Now G us0 w S π a s) : Now G us0 w S π (a.put o.dst undef) (skipOp o s) ∧ (skipOp o s).ob = s.ob := by
  have hA : After w S π (fun i => s.ob[i]?) s.ob.length (.tuple []) [] [] undef w S π := ⟨by simp only [relTV]; exact ⟨#[], rfl, by simp [relTVs]⟩, by rw [upd_nil]; exact h.ob, Ext.refl _, fun id h => .inl h, by rw [upd_nil]; exact Step.refl _ _ _⟩
  exact ⟨h.put (by rfl) hA, by simp [skipOp, St.put, setOb]⟩

/-- What stands behind a test that was left out is left out. -/
theorem unwanted {ops : Array Oper} {o : Oper} {j : Nat} {want : Bool} (hg : o.guard = some (j, want)) {d : Nat} (hd : (ops[j]?).bind (·.dst) = some d) {s : St} (hp : s.tm[d]? = some (.tuple [])) {w : World} {S : Nat → Prop} {π : Nat → Option Pl} {a : Act} (hn : Now G us0 w S π a s) : Region.wanted o (yielded ops a.tmps) = false := by
  have h1 := hn.tm d _ hp
  simp only [relTV] at h1
  obtain ⟨us, h1, h2⟩ := h1
  have hlt : d < a.tmps.size := by rw [← hn.len]; exact (List.getElem?_eq_some_iff.1 hp).1
  have h2 : a.tmps[d]? = some (.tuple us) := by
    rw [Array.getD_eq_getD_getElem?, Array.getElem?_eq_getElem hlt, Option.getD_some] at h1
    rw [Array.getElem?_eq_getElem hlt, h1]
  simp only [Region.wanted, hg, yielded, hd, Option.bind_some, h2]
  rfl

theorem ops_ok {R : Type} (hT : TOk P T) (hΓ : ∀ g c, Γ g = some c → Holds P G g c) {ops : Array Oper} : ∀ (l : List Oper) (n : Nat) (s : St) (fs : List Foot) (k : St → List Foot → Option R) (r : R), ops.toList.drop n = l → opsK T G Γ ops l s fs k = some r →
    ∃ s' fs', k s' fs' = some r ∧ ∀ us0 w S π a, Now G us0 w S π a s → ∀ (Q : Exit → Act → World → Prop), (∀ a' w', Goes G us0 w S π s a' w' s' → Q .normal a' w') → wpOps P ops Q (List.range' n l.length) a w
  | [], n, s, fs, k, r, hl, h => by
    simp only [opsK] at h
    refine ⟨_, _, h, ?_⟩
    intro us0 w S π a hn Q hQ
    simp only [List.length_nil, List.range'_zero, wpOps]
    exact hQ a w (Goes.refl hn)
  | o :: rest, n, s, fs, k, r, hl, h => by
    have ho : ops[n]? = some o := by
      rw [← Array.getElem?_toList]
      have := congrArg (·[0]?) hl
      simpa using this
    have hrest : ops.toList.drop (n + 1) = rest := by
      have := congrArg List.tail hl
      simpa using this
    -- one that is done
    have done : ∀ (s0 : St) (g : Option (Nat × Bool)), stepK T G Γ o s0 (fun s' f => opsK T G Γ ops rest s' (fs ++ [f]) k) = some r →
        ∃ s' fs', k s' fs' = some r ∧ ∀ us0 w S π a, Now G us0 w S π a s0 → ∀ (Q : Exit → Act → World → Prop), (∀ a' w', Goes G us0 w S π s0 a' w' s' → Q .normal a' w') → o.wp P a w (wpOps P ops Q (List.range' (n + 1) rest.length)) Q := by
      intro s0 _ h
      obtain ⟨s1, f, h1, h2⟩ := step_ok hT hΓ h
      obtain ⟨s', fs', h3, h4⟩ := ops_ok hT hΓ rest (n + 1) s1 _ k r hrest h1
      refine ⟨s', fs', h3, ?_⟩
      intro us0 w S π a hn Q hQ
      refine h2 us0 w S π a hn _ _ fun a' w' hg => ?_
      obtain ⟨S1, π1, hn1, hs1⟩ := hg
      refine h4 us0 w' S1 π1 a' hn1 Q fun a'' w'' hg2 => hQ a'' w'' ?_
      obtain ⟨S2, π2, hn2, hs2⟩ := hg2
      exact ⟨S2, π2, hn2, hs1.trans hs2⟩
    -- one that is left out
    have left : ∀ (s0 : St), opsK T G Γ ops rest (skipOp o s0) (fs ++ [⟨[], []⟩]) k = some r →
        ∃ s' fs', k s' fs' = some r ∧ ∀ us0 w S π a, Now G us0 w S π a s0 → ∀ (Q : Exit → Act → World → Prop), (∀ a' w', Goes G us0 w S π s0 a' w' s' → Q .normal a' w') → wpOps P ops Q (List.range' (n + 1) rest.length) (a.put o.dst undef) w := by
      intro s0 h
      obtain ⟨s', fs', h3, h4⟩ := ops_ok hT hΓ rest (n + 1) _ _ k r hrest h
      refine ⟨s', fs', h3, ?_⟩
      intro us0 w S π a hn Q hQ
      obtain ⟨hn1, hob⟩ := skip_ok (o := o) hn
      refine h4 us0 w S π _ hn1 Q fun a'' w'' hg2 => hQ a'' w'' ?_
      obtain ⟨S2, π2, hn2, hs2⟩ := hg2
      refine ⟨S2, π2, hn2, ?_⟩
      unfold St.own at hs2 ⊢
      rwa [hob] at hs2
    simp only [opsK] at h
    simp only [List.length_cons, List.range'_succ]
    split at h
    · rename_i hg
      obtain ⟨s', fs', h1, h2⟩ := done s none h
      refine ⟨s', fs', h1, ?_⟩
      intro us0 w S π a hn Q hQ
      simp only [wpOps, ho, Region.wanted, hg, if_true]
      exact .inl (h2 us0 w S π a hn Q hQ)
    · rename_i j want hg
      split at h
      · rename_i d hd
        split at h
        · rename_i p hp
          obtain ⟨b, hb, h'⟩ := bind_inv h
          cases asB_inv hb
          have key : ∀ us0 w S π a, Now G us0 w S π a s → a.tmps.getD d undef = .bool b ∧ Region.wanted o (yielded ops a.tmps) = (b == want) := by
            intro us0 w S π a hn
            have h1 := hn.tm d _ hp
            simp only [relTV, rel] at h1
            have hlt : d < a.tmps.size := by rw [← hn.len]; exact (List.getElem?_eq_some_iff.1 hp).1
            refine ⟨h1, ?_⟩
            have h2 : a.tmps[d]? = some (.bool b) := by
              rw [Array.getD_eq_getD_getElem?, Array.getElem?_eq_getElem hlt, Option.getD_some] at h1
              rw [Array.getElem?_eq_getElem hlt, h1]
            simp only [Region.wanted, hg, yielded, hd, Option.bind_some, h2]
            cases b <;> cases want <;> rfl
          have fin : ∀ (s0 : St), s0 = { s with tm := s.tm.set d (.val (.bool b)) } → (if (b == want) = true then stepK T G Γ o s0 (fun s' f => opsK T G Γ ops rest s' (fs ++ [f]) k) else opsK T G Γ ops rest (skipOp o s0) (fs ++ [⟨[], []⟩]) k) = some r →
              ∃ s' fs', k s' fs' = some r ∧ ∀ us0 w S π a, Now G us0 w S π a s → ∀ (Q : Exit → Act → World → Prop), (∀ a' w', Goes G us0 w S π s a' w' s' → Q .normal a' w') → wpOps P ops Q (n :: List.range' (n + 1) rest.length) a w := by
            intro s0 hs0 h
            cases hbw : (b == want) with
            | true =>
              rw [hbw, if_pos rfl] at h
              obtain ⟨s', fs', h1, h2⟩ := done s0 none h
              refine ⟨s', fs', h1, ?_⟩
              intro us0 w S π a hn Q hQ
              obtain ⟨k1, k2⟩ := key us0 w S π a hn
              simp only [wpOps, ho, k2, hbw, if_true]
              exact .inl (h2 us0 w S π a (by rw [hs0]; exact hn.lit k1) Q fun a' w' hg => hQ a' w' (by rw [hs0] at hg; exact hg))
            | false =>
              rw [hbw, if_neg (by simp)] at h
              obtain ⟨s', fs', h1, h2⟩ := left s0 h
              refine ⟨s', fs', h1, ?_⟩
              intro us0 w S π a hn Q hQ
              obtain ⟨k1, k2⟩ := key us0 w S π a hn
              simp only [wpOps, ho, k2, hbw, Bool.false_eq_true, if_false]
              exact h2 us0 w S π a (by rw [hs0]; exact hn.lit k1) Q fun a' w' hg => hQ a' w' (by rw [hs0] at hg; exact hg)
          refine fin _ rfl ?_
          cases b <;> cases want <;> simpa using h'
        · rename_i hp
          obtain ⟨s', fs', h1, h2⟩ := left s h
          refine ⟨s', fs', h1, ?_⟩
          intro us0 w S π a hn Q hQ
          simp only [wpOps, ho, unwanted hg hd hp hn, Bool.false_eq_true, if_false]
          exact h2 us0 w S π a hn Q hQ
        · cases h
      · cases h

end
end Go.Proofs.YtgpjnppakffoiaaV
