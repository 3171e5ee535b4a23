/- The reading machine: code, loops. -/
import Derived.Test.YtgpjnppakffoiaaVDraw
namespace Go.Proofs.YtgpjnppakffoiaaV
open Go Go.RowKit

def exOf : Ex → Exit | .normal => .normal | .exit i => .exit i | .ret => .ret

/-- Code comes from one state to some of those that what follows answers 'r' of. -/
def CodeOk {R : Type} (P : Program) (G : Nat → Option (List PV)) (c : Code) (s : St) (k : Ex → St → Option R) (r : R) : Prop :=
  ∀ us0 w S π a, Now G us0 w S π a s → ∀ (Q : Exit → Act → World → Prop), (∀ e s', k e s' = some r → ∀ a' w', Goes G us0 w S π s a' w' s' → Q (exOf e) a' w') → c.wp P Q a w

/-- From within a loop. -/
def InLoop (P : Program) (c : Code) (Q : Exit → Act → World → Prop) (a : Act) (w : World) : Prop :=
  ∀ (b : Frame) (k : List Item) (cs : List Frame), ∃ e a' w', Q e a' w' ∧ Arrives P (lone (b.at a (.code c :: .inLoop c :: k)) cs w) b k cs e a' w'

theorem inLoop_round {P : Program} {c : Code} {Q : Exit → Act → World → Prop} {a : Act} {w : World} (h : c.wp P (Exit.then (InLoop P c Q) Q) a w) : InLoop P c Q a w := by
  intro b k cs
  obtain ⟨e, a₁, w₁, hq, harr⟩ := h b (.inLoop c :: k) cs
  cases e with
  | normal =>
    obtain ⟨e₂, a₂, w₂, hq₂, harr₂⟩ := hq b k cs
    exact ⟨e₂, a₂, w₂, hq₂, .of_steps (Steps.trans harr (.one step_inLoop)) harr₂⟩
  | exit id => exact ⟨_, a₁, w₁, hq, .pass (x := .inLoop c) rfl (fun _ _ => .inl (by simp)) harr⟩
  | goto l => exact ⟨_, a₁, w₁, hq, .pass (x := .inLoop c) rfl (fun _ _ => .inl (by simp)) harr⟩
  | ret => exact ⟨_, a₁, w₁, hq, .pass (x := .inLoop c) rfl (fun _ _ => .inl (by simp)) harr⟩
  | panic ch => exact ⟨_, a₁, w₁, hq, .pass (x := .inLoop c) rfl (fun _ _ => .inl (by simp)) harr⟩
  | outgrown => exact ⟨_, a₁, w₁, hq, .pass (x := .inLoop c) rfl (fun _ _ => .inl (by simp)) harr⟩
theorem inLoop_loop {P : Program} {c : Code} {Q : Exit → Act → World → Prop} {a : Act} {w : World} (h : InLoop P c Q a w) : (Code.loop c).wp P Q a w := by
  intro b k cs
  obtain ⟨e, a', w', hq, harr⟩ := h b k cs
  exact ⟨e, a', w', hq, .of_steps (.one step_loop) harr⟩

def LoopOk {R : Type} (P : Program) (G : Nat → Option (List PV)) (c : Code) (s : St) (k : Ex → St → Option R) (r : R) : Prop :=
  ∀ us0 w S π a, Now G us0 w S π a s → ∀ (Q : Exit → Act → World → Prop), (∀ e s', k e s' = some r → ∀ a' w', Goes G us0 w S π s a' w' s' → Q (exOf e) a' w') → InLoop P c Q a w
def LoopsOk (P : Program) (G : Nat → Option (List PV)) (Λ : Loops) (cs : List Code) : Prop :=
  ∀ c ∈ cs, ∀ (s : St) (R : Type) (k : Ex → St → Option R) (r : R), Λ c s R k = some r → LoopOk P G c s k r

/-- A state is made even. -/
def NormOk (G : Nat → Option (List PV)) (norm : Code → Ex → St → St) : Prop :=
  ∀ c e us0 w S π a s, Now G us0 w S π a s → ∃ π', Now G us0 w S π' a (norm c e s) ∧ ∀ b, (norm c e s).own π' b → s.own π b

section
variable {P : Program} {T : TypeId → Option TI} {G : Nat → Option (List PV)} {Γ : FuncId → Option Ctr}

theorem run_ok {R : Type} (hm : P.follows .mixedOrders = true) (hT : TOk P T) (hΓ : ∀ g c, Γ g = some c → Holds P G g c) {Λ : Loops} : ∀ (c : Code) (_ : LoopsOk P G Λ (loopsOf c)) (s : St) (k : Ex → St → Option R) (r : R), run T G Γ Λ c s k = some r → CodeOk P G c s k r
  | .skip, _, s, k, r, h => by
    simp only [run] at h
    exact fun us0 w S π a hn Q hQ => wp_skip (hQ .normal s h a w (Goes.refl hn))
  | .region id ops false, _, s, k, r, h => by
    simp only [run] at h
    obtain ⟨s', fs', h1, h2⟩ := ops_ok hT hΓ ops.toList 0 s [] _ r rfl h
    refine fun us0 w S π a hn Q hQ => wp_region ?_
    have := h2 us0 w S π a hn Q fun a' w' hg => hQ .normal s' h1 a' w' hg
    rw [List.range_eq_range']
    simpa using this
  | .region id ops true, _, s, k, r, h => by
    simp only [run] at h
    cases hs : Region.noSelect ops with
    | false => rw [hs] at h; cases h
    | true =>
      rw [hs, cond_true] at h
      intro us0 w S π a hn Q hQ
      refine wp_mono (Q := fun e a w => (∀ c, e ≠ .panic c) ∧ Q e a w) (wp_region_any hm ?_) fun e a w h => h.2
      have hk : Keep w S { w with drawn := w.drawn + 1 } S := ⟨fun _ _ => rfl, fun _ h => h⟩
      have hn' : Now G us0 { w with drawn := w.drawn + 1 } S π a s := by
        refine ⟨hn.df, hn.len, fun i v hv => relTV_keep hk (Ext.refl _) _ _ (hn.tm i v hv), ?_, hn.pl, relTVs_keep hk (Ext.refl _) _ _ hn.roots, hn.places, fun g cs hg => ⟨(hn.go g cs hg).1, relCs_keep hk _ _ _ rfl (hn.go g cs hg).2⟩⟩
        exact ⟨fun id o h => (by obtain ⟨pl, h1, h2⟩ := hn.ob.ok id o h; exact ⟨pl, h1, obOk_keep hk (Ext.refl _) o pl (fun _ _ _ => rfl) h2⟩), hn.ob.apart, hn.ob.out, hn.ob.st⟩
      refine anyK_ok hT hΓ hs _ _ s _ r h us0 _ S π a hn' _ (fun c a w h => h.1 c rfl) fun s' hk' a' w' hg => ⟨fun c hc => (by cases hc), hQ .normal s' hk' a' w' ?_⟩
      exact Goes.trans (w1 := { w with drawn := w.drawn + 1 }) (S1 := S) (π1 := π) (s1 := s) ⟨rfl, rfl, rfl, Nat.le_refl _, fun _ _ _ => rfl, fun _ h => h, fun _ h => .inl h, fun _ h => .inl h⟩ hg
  | .seq x y, hΛ, s, k, r, h => by
    simp only [run] at h
    have h1 := run_ok hm hT hΓ x (fun c hc => hΛ c (by simp only [loopsOf, List.mem_append]; exact .inl hc)) s _ r h
    intro us0 w S π a hn Q hQ
    refine wp_seq (h1 us0 w S π a hn _ fun e s1 hk a' w' hg => ?_)
    cases e with
    | normal =>
      simp only at hk
      have h2 := run_ok hm hT hΓ y (fun c hc => hΛ c (by simp only [loopsOf, List.mem_append]; exact .inr hc)) s1 k r hk
      obtain ⟨S1, π1, hn1, hs1⟩ := hg
      exact h2 us0 w' S1 π1 a' hn1 Q fun e2 s2 hk2 a'' w'' hg2 => hQ e2 s2 hk2 a'' w'' (Goes.trans hs1 hg2)
    | exit i => exact hQ _ s1 hk a' w' hg
    | ret => exact hQ _ s1 hk a' w' hg
  | .cond c x y, hΛ, s, k, r, h => by
    simp only [run] at h
    split at h
    · rename_i p hp
      obtain ⟨t, ht, h'⟩ := bind_inv h
      cases asB_inv ht
      have heval : ∀ us0 w S π a, Now G us0 w S π a s → a.eval c = .bool t ∧ Now G us0 w S π a { s with tm := litB s.tm c t } := by
        intro us0 w S π a hn
        cases c with
        | tmp d =>
          have h1 := hn.tm d _ hp
          simp only [relTV, rel] at h1
          exact ⟨h1, hn.lit h1⟩
        | const v =>
          have h1 := constTV_rel (w := w) (S := S) (π := π) hp
          simp only [relTV, rel] at h1
          exact ⟨h1, hn⟩
        | global g => simp only [evalO] at hp; split at hp <;> cases hp
        | func f => simp only [evalO] at hp; cases hp
      cases t with
      | true =>
        simp only [cond_true] at h'
        have h1 := run_ok hm hT hΓ x (fun c hc => hΛ c (by simp only [loopsOf, List.mem_append]; exact .inl hc)) _ k r h'
        intro us0 w S π a hn Q hQ
        obtain ⟨g1, g2⟩ := heval us0 w S π a hn
        exact wp_cond_true g1 (h1 us0 w S π a g2 Q fun e s' hk a' w' hg => hQ e s' hk a' w' hg)
      | false =>
        simp only [cond_false] at h'
        have h1 := run_ok hm hT hΓ y (fun c hc => hΛ c (by simp only [loopsOf, List.mem_append]; exact .inr hc)) _ k r h'
        intro us0 w S π a hn Q hQ
        obtain ⟨g1, g2⟩ := heval us0 w S π a hn
        exact wp_cond_false g1 (h1 us0 w S π a g2 Q fun e s' hk a' w' hg => hQ e s' hk a' w' hg)
    · cases h
  | .block id c, hΛ, s, k, r, h => by
    simp only [run] at h
    have h1 := run_ok hm hT hΓ c (fun c' hc => hΛ c' (by simpa only [loopsOf] using hc)) s _ r h
    intro us0 w S π a hn Q hQ
    refine wp_block (h1 us0 w S π a hn _ fun e s' hk a' w' hg => ?_)
    cases e with
    | normal => exact hQ _ s' hk a' w' hg
    | exit i =>
      simp only at hk
      by_cases e : i = id
      · rw [if_pos e] at hk
        have := hQ _ s' hk a' w' hg
        simp only [exOf, Exit.inBlock, e, if_true]
        exact this
      · rw [if_neg e] at hk
        have := hQ _ s' hk a' w' hg
        simp only [exOf, Exit.inBlock, e, if_false]
        exact this
    | ret => exact hQ _ s' hk a' w' hg
  | .loop c, hΛ, s, k, r, h => by
    simp only [run] at h
    have h2 := hΛ c (by simp only [loopsOf, List.mem_cons, true_or]) s R k r h
    exact fun us0 w S π a hn Q hQ => inLoop_loop (h2 us0 w S π a hn Q hQ)
  | .exit id, _, s, k, r, h => by
    simp only [run] at h
    exact fun us0 w S π a hn Q hQ => wp_exit (hQ _ s h a w (Goes.refl hn))
  | .ret, _, s, k, r, h => by
    simp only [run] at h
    exact fun us0 w S π a hn Q hQ => wp_ret (hQ _ s h a w (Goes.refl hn))
  | .scope .., _, s, k, r, h => by simp only [run] at h; cases h
  | .label .., _, s, k, r, h => by simp only [run] at h; cases h
  | .goto .., _, s, k, r, h => by simp only [run] at h; cases h
  | .rangeFunc .., _, s, k, r, h => by simp only [run] at h; cases h
  | .refuse .., _, s, k, r, h => by simp only [run] at h; cases h

theorem loopsOf_trans : ∀ {d c c' : Code}, c ∈ loopsOf d → c' ∈ loopsOf c → c' ∈ loopsOf d
  | .seq a b, c, c', h, h' => by
    simp only [loopsOf, List.mem_append] at h ⊢
    exact h.elim (fun h => .inl (loopsOf_trans h h')) (fun h => .inr (loopsOf_trans h h'))
  | .cond _ a b, c, c', h, h' => by
    simp only [loopsOf, List.mem_append] at h ⊢
    exact h.elim (fun h => .inl (loopsOf_trans h h')) (fun h => .inr (loopsOf_trans h h'))
  | .block _ d, c, c', h, h' => by
    simp only [loopsOf] at h ⊢
    exact loopsOf_trans h h'
  | .loop d, c, c', h, h' => by
    simp only [loopsOf, List.mem_cons] at h ⊢
    rcases h with rfl | h
    · exact .inr h'
    · exact .inr (loopsOf_trans h h')
  | .skip, _, _, h, _ => by simp [loopsOf] at h
  | .region .., _, _, h, _ => by simp [loopsOf] at h
  | .exit _, _, _, h, _ => by simp [loopsOf] at h
  | .ret, _, _, h, _ => by simp [loopsOf] at h
  | .scope .., _, _, h, _ => by simp [loopsOf] at h
  | .label .., _, _, h, _ => by simp [loopsOf] at h
  | .goto .., _, _, h, _ => by simp [loopsOf] at h
  | .rangeFunc .., _, _, h, _ => by simp [loopsOf] at h
  | .refuse .., _, _, h, _ => by simp [loopsOf] at h

/-- What loops come to, by rounds: it is told rightly if each round is. -/
theorem loops_fix (hm : P.follows .mixedOrders = true) (hT : TOk P T) (hΓ : ∀ g c, Γ g = some c → Holds P G g c) {norm : Code → Ex → St → St} (hnorm : NormOk G norm) {d : Code} {Λ : Nat → Loops}
    (h0 : ∀ c ∈ loopsOf d, ∀ s R k r, Λ 0 c s R k = some r → False) (hs : ∀ n, ∀ c ∈ loopsOf d, ∀ s R k r, Λ (n + 1) c s R k = some r → roundK T G Γ norm (Λ n) c (norm c .normal s) R k = some r) : ∀ n, LoopsOk P G (Λ n) (loopsOf d)
  | 0, c, hc, s, R, k, r, h => (h0 c hc s R k r h).elim
  | n + 1, c, hc, s, R, k, r, h => by
    have h := hs n c hc s R k r h
    unfold roundK at h
    have h2 := run_ok hm hT hΓ c (fun c' hc' => loops_fix hm hT hΓ hnorm h0 hs n c' (loopsOf_trans hc hc')) _ _ r h
    have even : ∀ (e : Ex) (us0 : Rts) (w : World) (S : Nat → Prop) (π : Nat → Option Pl) (a : Act) (s : St), Now G us0 w S π a s → ∃ π', Now G us0 w S π' a (norm c e s) ∧ Step w S (s.own π) w S ((norm c e s).own π') := by
      intro e us0 w S π a s hn
      obtain ⟨π', g1, g2⟩ := hnorm c e us0 w S π a s hn
      exact ⟨π', g1, rfl, rfl, rfl, Nat.le_refl _, fun _ _ _ => rfl, fun _ h => h, fun _ h => .inl h, fun b hb => .inl (g2 b hb)⟩
    have out : ∀ (e : Ex) (us0 : Rts) (w : World) (S : Nat → Prop) (π : Nat → Option Pl) (s : St) (a' : Act) (w' : World) (s' : St), Goes G us0 w S π s a' w' s' → Goes G us0 w S π s a' w' (norm c e s') := by
      intro e us0 w S π s a' w' s' ⟨S1, π1, hn1, hs1⟩
      obtain ⟨π', g1, g2⟩ := even e us0 w' S1 π1 a' s' hn1
      exact ⟨S1, π', g1, hs1.trans g2⟩
    intro us0 w S π a hn Q hQ
    obtain ⟨π', g1, g2⟩ := even .normal us0 w S π a s hn
    refine inLoop_round (h2 us0 w S π' a g1 _ fun e s1 hk a' w' hg => ?_)
    cases e with
    | normal =>
      simp only at hk
      have h4 := loops_fix hm hT hΓ hnorm h0 hs n c hc s1 R k r hk
      obtain ⟨S1, π1, hn1, hs1⟩ := hg
      exact h4 us0 w' S1 π1 a' hn1 Q fun e2 s2 hk2 a'' w'' hg2 => hQ e2 s2 hk2 a'' w'' (Goes.trans g2 (Goes.trans hs1 hg2))
    | exit i => exact hQ _ _ hk a' w' (out _ us0 w S π s _ _ _ (Goes.trans g2 hg))
    | ret => exact hQ _ _ hk a' w' (out _ us0 w S π s _ _ _ (Goes.trans g2 hg))

end
end Go.Proofs.YtgpjnppakffoiaaV
