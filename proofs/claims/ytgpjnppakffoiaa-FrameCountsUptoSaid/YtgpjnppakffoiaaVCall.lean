/- The reading machine: calls are told rightly, if what is said of functions holds. -/
import Derived.Test.YtgpjnppakffoiaaVImp
namespace Go.Proofs.YtgpjnppakffoiaaV
open Go Go.RowKit

/-- Arguments as trees; of each that is given, its blocks. -/
def argsOk (w : World) (S : Nat → Prop) : List (Option (Shp × Bool)) → List PV → List Value → List (List Nat) → Prop
  | [], ps, us, fps => ps = [] ∧ us = [] ∧ fps = []
  | none :: ms, ps, us, fps => ∃ p ps' u us', ps = p :: ps' ∧ us = u :: us' ∧ rel w S p u ∧ argsOk w S ms ps' us' fps
  | some m :: ms, ps, us, fps => ∃ p ps' u us' f fps', ps = p :: ps' ∧ us = u :: us' ∧ fps = f :: fps' ∧ ownS w S m.1 p u f ∧ argsOk w S ms ps' us' fps'

/-- What is given back. -/
def outsV (w : World) (S : Nat → Prop) : List (Option (Shp × Bool)) → List Value → List (List Nat) → List PV → List (List Nat) → Prop
  | [], us, fps, outs, gps => us = [] ∧ fps = [] ∧ outs = [] ∧ gps = []
  | none :: ms, us, fps, outs, gps => ∃ u us', us = u :: us' ∧ outsV w S ms us' fps outs gps
  | some (_, false) :: ms, us, fps, outs, gps => ∃ u us' f fps', us = u :: us' ∧ fps = f :: fps' ∧ outsV w S ms us' fps' outs gps
  | some (sh, true) :: ms, us, fps, outs, gps => ∃ u us' f fps' p outs' g gps', us = u :: us' ∧ fps = f :: fps' ∧ outs = p :: outs' ∧ gps = g :: gps' ∧ ownS w S sh p u g ∧ (sh = .s → g = f) ∧ outsV w S ms us' fps' outs' gps'

/-- A function is applied: what comes of it. -/
def Applies (P : Program) (f : FuncId) (us : Array Value) (w : World) (R : Value → World → Prop) : Prop :=
  match (callFunc f us).run P w with
  | .ok (.enter g as) w' => Calls P g as w' fun e w'' => ∃ v, e = .returned v ∧ R v w''
  | .ok (.value v) w' => R v w'
  | _ => False

/-- What is behind a call. -/
structure Behind (w : World) (S : Nat → Prop) (fps : List (List Nat)) (c : Ctr) (us : List Value) (r : PV) (outs : List PV) (v : Value) (w' : World) (S' : Nat → Prop) (g : List Nat) (gps : List (List Nat)) : Prop where
  os : w'.os = w.os
  tape : w'.tape = w.tape
  output : w'.output = w.output
  size : w.heap.size ≤ w'.heap.size
  same : ∀ b, b < w.heap.size → b ∉ fps.flatten → w'.heap[b]? = w.heap[b]?
  sub : ∀ b, S b → S' b
  stab : ∀ b, S' b → S b ∨ b ∈ fps.flatten ∨ w.heap.size ≤ b
  st : ∀ b, S' b → b < w'.heap.size
  nodup : (g ++ gps.flatten).Nodup
  own : ∀ b ∈ g ++ gps.flatten, ¬ S' b ∧ b < w'.heap.size ∧ (b ∈ fps.flatten ∨ w.heap.size ≤ b)
  res : ∀ S'', (S'' = S' ∨ c.scal = true) → ownS w' S'' c.res r v g ∧ outsV w' S'' c.modes us fps outs gps

/-- Package variables are as they are said to be. -/
def GOk (G : Nat → Option (List PV)) (w : World) (S : Nat → Prop) : Prop := ∀ g cs, G g = some cs → S g ∧ relCs w S g 0 cs

/-- What is said of a function holds. -/
def Holds (P : Program) (G : Nat → Option (List PV)) (f : FuncId) (c : Ctr) : Prop :=
  ∀ (w : World) (S : Nat → Prop) (ps : List PV) (us : List Value) (fps : List (List Nat)) (r : PV) (outs : List PV),
    argsOk w S c.modes ps us fps → fps.flatten.Nodup → (∀ b ∈ fps.flatten, ¬ S b ∧ b < w.heap.size) → (∀ b, S b → b < w.heap.size) → GOk G w S → c.F ps = some (r, outs) →
    Applies P f us.toArray w fun v w' => ∃ S' g gps, Behind w S fps c us r outs v w' S' g gps

theorem Applies.mono {P : Program} {f : FuncId} {us : Array Value} {w : World} {R R' : Value → World → Prop} (h : Applies P f us w R) (hr : ∀ v w', R v w' → R' v w') : Applies P f us w R' := by
  unfold Applies at *
  split at h
  · exact h.mono fun e w' ⟨v, h1, h2⟩ => ⟨v, h1, hr v w' h2⟩
  · exact hr _ _ h
  · exact h.elim

section
variable {P : Program} {T : TypeId → Option TI} {look : Nat → Option Ob} {nx : Nat} {ev : Operand → Option TV} {o : Oper} {v : TV} {up : List (Nat × Ob)} {nw : List Ob} {rd : List Nat}

theorem gather_ok {w : World} {S S' : Nat → Prop} {π : Nat → Option Pl} (hob : ObsOk w S π look) (hs : ∀ b, S b → S' b) : ∀ (ms : List (Option (Shp × Bool))) (vs : List TV) (us : List Value) (a : Args), gather look ms vs = some a → relTVs w S π vs us → (∀ b ∈ blks π a.lent, S' b) →
    argsOk w S' ms a.ps us (a.lins.map fun x => blks π x.2.2.2) ∧ (∀ i ∈ a.lent ++ a.lins.flatMap (·.2.2.2), ∃ x, look i = some x ∧ x.live = true)
  | [], [], us, a, h, hr, hb => by
    simp only [gather, Option.some.injEq] at h
    subst h
    simp only [relTVs] at hr
    exact ⟨by simp only [argsOk]; exact ⟨trivial, hr, rfl⟩, by simp⟩
  | [], _ :: _, us, a, h, hr, hb => by simp [gather] at h
  | none :: ms, [], us, a, h, hr, hb => by simp [gather] at h
  | some _ :: ms, [], us, a, h, hr, hb => by simp [gather] at h
  | none :: ms, v :: vs, us, a, h, hr, hb => by
    simp only [gather] at h
    split at h
    · rename_i p ids a' h1 h2
      cases h
      simp only [relTVs] at hr
      obtain ⟨u, us', rfl, hr1, hr2⟩ := hr
      simp only [blks_append] at hb
      obtain ⟨g1, g2, _⟩ := reify_ok hob hs 100 v u p ids h1 hr1 fun b hb2 => hb b (List.mem_append_left _ hb2)
      obtain ⟨g3, g4⟩ := gather_ok hob hs ms vs us' a' h2 hr2 fun b hb2 => hb b (List.mem_append_right _ hb2)
      refine ⟨by simp only [argsOk]; exact ⟨p, _, u, us', rfl, rfl, g1, g3⟩, ?_⟩
      intro i hi
      simp only [List.mem_append] at hi g4
      rcases hi with (hi | hi) | hi
      · exact g2 i hi
      · exact g4 i (.inl hi)
      · exact g4 i (.inr hi)
    · cases h
  | some (sh, back) :: ms, v :: vs, us, a, h, hr, hb => by
    simp only [gather] at h
    split at h
    · rename_i p l ids a' h1 h2
      cases h
      simp only [relTVs] at hr
      obtain ⟨u, us', rfl, hr1, hr2⟩ := hr
      simp only [blks_append] at hb
      obtain ⟨g1, g2⟩ := exp_ok hob hs sh v u p l ids h1 hr1 fun b hb2 => hb b (List.mem_append_left _ hb2)
      obtain ⟨g3, g4⟩ := gather_ok hob hs ms vs us' a' h2 hr2 fun b hb2 => hb b (List.mem_append_right _ hb2)
      refine ⟨by simp only [argsOk, List.map_cons]; exact ⟨p, _, u, us', _, _, rfl, rfl, rfl, g1, g3⟩, ?_⟩
      intro i hi
      simp only [List.mem_append, List.flatMap_cons] at hi g2 g4
      rcases hi with (hi | hi) | hi | hi
      · exact g2 i (.inl hi)
      · exact g4 i (.inl hi)
      · exact g2 i (.inr hi)
      · exact g4 i (.inr hi)
    · cases h

/-- How what is given back stands to what was given. -/
def outsOk (look : Nat → Option Ob) (w : World) (S : Nat → Prop) (π : Nat → Option Pl) : List (TV × Shp × Bool × List Nat) → List PV → List (List Nat) → Prop
  | [], outs, gps => outs = [] ∧ gps = []
  | (_, _, false, _) :: ls, outs, gps => outsOk look w S π ls outs gps
  | (v, sh, true, ids) :: ls, outs, gps => ∃ p outs' g gps', outs = p :: outs' ∧ gps = g :: gps' ∧
      (∃ w0 S0 u p0 l0, relTV w0 S0 π v u ∧ expS look sh v = some (p0, l0, ids) ∧ ownS w S sh p u g ∧ (sh = .s → g = blks π ids)) ∧ outsOk look w S π ls outs' gps'

theorem outs_of {w w' : World} {S S' : Nat → Prop} {π : Nat → Option Pl} : ∀ (ms : List (Option (Shp × Bool))) (vs : List TV) (us : List Value) (a : Args) (outs : List PV) (gps : List (List Nat)), gather look ms vs = some a → relTVs w S π vs us →
    outsV w' S' ms us (a.lins.map fun x => blks π x.2.2.2) outs gps → outsOk look w' S' π a.lins outs gps
  | [], [], us, a, outs, gps, h, hr, ho => by
    simp only [gather, Option.some.injEq] at h
    subst h
    simp only [outsV] at ho
    simp only [outsOk]
    exact ho.2.2
  | [], _ :: _, us, a, outs, gps, h, hr, ho => by simp [gather] at h
  | none :: ms, [], us, a, outs, gps, h, hr, ho => by simp [gather] at h
  | some _ :: ms, [], us, a, outs, gps, h, hr, ho => by simp [gather] at h
  | none :: ms, v :: vs, us, a, outs, gps, h, hr, ho => by
    simp only [gather] at h
    split at h
    · rename_i p ids a' h1 h2
      cases h
      simp only [relTVs] at hr
      obtain ⟨u, us', rfl, hr1, hr2⟩ := hr
      simp only [outsV] at ho
      obtain ⟨u', us'', he, ho⟩ := ho
      cases he
      exact outs_of ms vs us' a' outs gps h2 hr2 ho
    · cases h
  | some (sh, false) :: ms, v :: vs, us, a, outs, gps, h, hr, ho => by
    simp only [gather] at h
    split at h
    · rename_i p l ids a' h1 h2
      cases h
      simp only [relTVs] at hr
      obtain ⟨u, us', rfl, hr1, hr2⟩ := hr
      simp only [outsV, List.map_cons] at ho
      obtain ⟨u', us'', f, fps', he, he2, ho⟩ := ho
      cases he
      cases he2
      simp only [outsOk]
      exact outs_of ms vs us' a' outs gps h2 hr2 ho
    · cases h
  | some (sh, true) :: ms, v :: vs, us, a, outs, gps, h, hr, ho => by
    simp only [gather] at h
    split at h
    · rename_i p l ids a' h1 h2
      cases h
      simp only [relTVs] at hr
      obtain ⟨u, us', rfl, hr1, hr2⟩ := hr
      simp only [outsV, List.map_cons] at ho
      obtain ⟨u', us'', f, fps', p', outs', g, gps', he, he2, he3, he4, ho1, ho2, ho⟩ := ho
      cases he
      cases he2
      simp only [outsOk]
      exact ⟨p', outs', g, gps', he3, he4, ⟨w, S, u, p, l, hr1, h1, ho1, ho2⟩, outs_of ms vs us' a' outs' gps' h2 hr2 ho⟩
    · cases h

/-- A dead one comes back. -/
theorem obs_back {w : World} {S : Nat → Prop} {π : Nat → Option Pl} {id : Nat} {ob : Ob} {pl : Pl} (h : ObsOk w S π look) (hl : look id = some .dead) (hp : π id = some pl) (hb : ∀ b, pl.blk = some b → ¬ S b ∧ b < w.heap.size ∧ ¬ owned look π b) (hob : obOk w S π ob pl) :
    ObsOk w S π (upd look [(id, ob)] nx []) ∧ ∀ b, owned (upd look [(id, ob)] nx []) π b → owned look π b ∨ pl.blk = some b := by
  have hlook : ∀ i x, upd look [(id, ob)] nx [] i = some x → (i = id ∧ x = ob) ∨ (i ≠ id ∧ look i = some x) := by
    intro i x ho
    simp only [upd, upLast, List.length_nil, Nat.add_zero] at ho
    by_cases e : id = i
    · rw [if_pos e] at ho; exact .inl ⟨e.symm, by simpa using ho.symm⟩
    · rw [if_neg e] at ho
      simp only at ho
      rw [if_neg (by omega)] at ho
      exact .inr ⟨fun h => e h.symm, ho⟩
  have hown : ∀ b, owned (upd look [(id, ob)] nx []) π b → owned look π b ∨ pl.blk = some b := by
    rintro b ⟨i, x, pj, h1, h2, h3, h4⟩
    rcases hlook i x h1 with ⟨rfl, rfl⟩ | ⟨hne, hli⟩
    · rw [hp] at h3; cases h3; exact .inr h4
    · exact .inl ⟨i, x, pj, hli, h2, h3, h4⟩
  refine ⟨?_, hown⟩
  refine obs_gen h (keep_sub fun _ h => h) (Ext.refl _) h.st (Nat.le_refl _) (fun i => i ≠ id) ?_ ?_
  · intro i hne
    constructor
    · simp only [upd, upLast, List.length_nil, Nat.add_zero]
      rw [if_neg (fun e => hne e.symm)]
      simp only
      rw [if_neg (by omega)]
    · intro x pj b hx hlv hpj hb1
      exact ⟨rfl, (owned_lt h hx hlv hpj hb1).2⟩
  · intro i x hx hno
    rcases hlook i x hx with ⟨rfl, rfl⟩ | ⟨hne, _⟩
    · refine ⟨pl, hp, hob, fun b hlv hb1 => ⟨(hb b hb1).2.1, (hb b hb1).1, ?_⟩⟩
      intro j y pj h1 h2 h3 h4
      rcases hlook j y h1 with ⟨rfl, rfl⟩ | ⟨hne, hlj⟩
      · rfl
      · exact absurd ⟨j, y, pj, hlj, h2, h3, h4⟩ (hb b hb1).2.2
    · exact absurd hne hno

end
end Go.Proofs.YtgpjnppakffoiaaV
