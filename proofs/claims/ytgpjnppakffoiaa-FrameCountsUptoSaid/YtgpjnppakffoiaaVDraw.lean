/- The reading machine: regions whose order is drawn. -/
import Derived.Test.YtgpjnppakffoiaaVFree
namespace Go.Proofs.YtgpjnppakffoiaaV
open Go Go.RowKit

section
variable {P : Program} {T : TypeId → Option TI} {G : Nat → Option (List PV)} {Γ : FuncId → Option Ctr}

theorem Goes.trans {us0 : Rts} {w : World} {S : Nat → Prop} {π : Nat → Option Pl} {s s1 s' : St} {a' : Act} {w1 w' : World} {S1 : Nat → Prop} {π1 : Nat → Option Pl} (h : Step w S (s.own π) w1 S1 (s1.own π1)) (k : Goes G us0 w1 S1 π1 s1 a' w' s') : Goes G us0 w S π s a' w' s' := by
  obtain ⟨S2, π2, h1, h2⟩ := k
  exact ⟨S2, π2, h1, h.trans h2⟩

theorem meet_inv {R : Type} {x y : Option R} {r : R} (h : meet x y = some r) : x = some r ∧ y = some r := by
  unfold meet at h
  split at h
  · rename_i e; exact ⟨h, e ▸ h⟩
  · cases h
theorem meet_self {R : Type} (x : Option R) : meet x x = x := by
  unfold meet
  rw [if_pos rfl]
theorem meetAll_inv {R : Type} {r : R} : ∀ {l : List (Option R)}, meetAll l = some r → ∀ x ∈ l, x = some r
  | [], h, _, _ => by cases h
  | [x], h, y, hy => by
    simp only [List.mem_singleton] at hy
    subst hy
    exact h
  | x :: y :: l, h, z, hz => by
    simp only [meetAll] at h
    obtain ⟨h1, h2⟩ := meet_inv h
    simp only [List.mem_cons] at hz
    rcases hz with rfl | hz
    · exact h1
    · exact meetAll_inv h2 z (by simpa using hz)

/-- What a step behind a test comes to. -/
theorem gK_ok {R : Type} (hT : TOk P T) (hΓ : ∀ g c, Γ g = some c → Holds P G g c) {ops : Array Oper} {i : Nat} {o : Oper} (ho : ops[i]? = some o) {s : St} {k : St → Option R} {r : R} (h : gK T G Γ ops o s k = some r) :
    ∃ s', k s' = some r ∧ ∀ us0 w S π a, Now G us0 w S π a s → (∀ (Q : Exit → Act → World → Prop) (K : Act → World → Prop), (∀ a' w', Goes G us0 w S π s a' w' s' → K a' w') → wpOp P ops Q i K a w) ∧
      (pureB T o = true → ∃ u, Yields P ops o u a ∧ Goes G us0 w S π s (a.put o.dst u) w s') := by
  -- the step itself
  have go : ∀ s0, stepK T G Γ o s0 (fun s' _ => k s') = some r → ∃ s', k s' = some r ∧ ∀ us0 w S π a, Now G us0 w S π a s0 → (∀ (Q : Exit → Act → World → Prop) (K : Act → World → Prop), (∀ a' w', Goes G us0 w S π s0 a' w' s' → K a' w') → o.wp P a w K Q) ∧
      (pureB T o = true → ∃ u, (∀ w, (execOp a.eval o).run P w = .ok (.value u) w) ∧ Goes G us0 w S π s0 (a.put o.dst u) w s') := by
    intro s0 h0
    unfold stepK at h0
    rw [opK_nat] at h0
    obtain ⟨⟨v, up, nw, rd⟩, h1, h2⟩ := bind_inv h0
    simp only [unc] at h2
    cases hup : (up.all fun x => decide (x.1 < s0.ob.length)) with
    | false => rw [hup] at h2; cases h2
    | true =>
      rw [hup] at h2
      simp only [cond_true] at h2
      refine ⟨_, h2, fun us0 w S π a hn => ?_⟩
      have fin : ∀ u w' S' π', After w S π (fun i => s0.ob[i]?) s0.ob.length v up nw u w' S' π' → Goes G us0 w S π s0 (a.put o.dst u) w' (s0.put o.dst v up nw) := fun u w' S' π' hA => ⟨S', π', hn.put hup hA, by
        have := hA.step
        unfold St.own
        rw [put_look hup]
        exact this⟩
      refine ⟨fun Q K hK => op_ok hT hΓ ev_glob h1 a w S π hn.ev hn.ob (hn.free _) K Q fun u w' S' π' hA => hK _ _ (fin u w' S' π' hA), fun hp => ?_⟩
      obtain ⟨hf1, hf2⟩ := pure_fr hT hp hn.ev h1
      have hw := op_ok hT hΓ ev_glob h1 a w S π hn.ev hn.ob (hn.free _) (fun a' w' => Goes G us0 w S π s0 a' w' (s0.put o.dst v up nw)) (fun _ _ _ => False) fun u w' S' π' hA => fin u w' S' π' hA
      unfold Oper.wp at hw
      cases hr : (execOp a.eval o).run P w with
      | ok n w1 =>
        obtain ⟨u, rfl⟩ := hf2 _ _ _ hr
        obtain ⟨rfl, hall⟩ := hf1 _ _ _ hr
        rw [hr, Oper.upon_value] at hw
        exact ⟨u, hall, hw⟩
      | halt x w1 =>
        rw [hr] at hw
        cases x <;> simp only [Oper.upon] at hw
  unfold gK at h
  split at h
  · rename_i hg
    obtain ⟨s', h1, h2⟩ := go s h
    refine ⟨s', h1, fun us0 w S π a hn => ?_⟩
    obtain ⟨g1, g2⟩ := h2 us0 w S π a hn
    have hw : Region.wanted o (yielded ops a.tmps) = true := by simp [Region.wanted, hg]
    refine ⟨fun Q K hK => ?_, fun hp => ?_⟩
    · unfold wpOp
      simp only [ho, hw, if_true]
      exact .inl (g1 Q K hK)
    · obtain ⟨u, h3, h4⟩ := g2 hp
      exact ⟨u, .inl ⟨hw, h3⟩, h4⟩
  · rename_i j want hg
    split at h
    case h_2 => cases h
    rename_i d hd
    split at h
    case h_3 => cases h
    case h_2 =>
      rename_i hp0
      refine ⟨_, h, fun us0 w S π a hn => ?_⟩
      have hw := unwanted hg hd hp0 hn
      obtain ⟨hn1, hob⟩ := skip_ok (o := o) hn
      have hg1 : Goes G us0 w S π s (a.put o.dst undef) w (skipOp o s) := by
        refine ⟨S, π, hn1, ?_⟩
        have e : St.own (skipOp o s) π = s.own π := by unfold St.own; rw [hob]
        rw [e]
        exact Step.refl _ _ _
      refine ⟨fun Q K hK => ?_, fun hp => ⟨undef, .inr ⟨hw, rfl⟩, hg1⟩⟩
      unfold wpOp
      simp only [ho, hw, Bool.false_eq_true, if_false]
      exact hK _ _ hg1
    rename_i p hp0
    obtain ⟨b, hb, h'⟩ := bind_inv h
    cases asB_inv hb
    have hval : ∀ us0 w S π a, Now G us0 w S π a s → a.tmps.getD d undef = .bool b ∧ Now G us0 w S π a { s with tm := s.tm.set d (.val (.bool b)) } := by
      intro us0 w S π a hn
      have h1 := hn.tm d _ hp0
      simp only [relTV, rel] at h1
      exact ⟨h1, hn.lit h1⟩
    have hwant : ∀ us0 w S π a, Now G us0 w S π a s → Region.wanted o (yielded ops a.tmps) = (b == want) := by
      intro us0 w S π a hn
      have h1 := (hval us0 w S π a hn).1
      have hsz : d < a.tmps.size := by
        rw [← hn.len]
        exact (List.getElem?_eq_some_iff.1 hp0).1
      have h2 : a.tmps[d]? = some (.bool b) := by
        rw [Array.getD_eq_getD_getElem?, Array.getElem?_eq_getElem hsz, Option.getD_some] at h1
        rw [Array.getElem?_eq_getElem hsz, h1]
      simp only [Region.wanted, hg, yielded, hd, Option.bind_some, h2]
      cases b <;> cases want <;> rfl
    have taken : ∀ (h : stepK T G Γ o { s with tm := s.tm.set d (.val (.bool b)) } (fun s' _ => k s') = some r) (hbw : b = want), ∃ s', k s' = some r ∧ ∀ us0 w S π a, Now G us0 w S π a s → (∀ (Q : Exit → Act → World → Prop) (K : Act → World → Prop), (∀ a' w', Goes G us0 w S π s a' w' s' → K a' w') → wpOp P ops Q i K a w) ∧
        (pureB T o = true → ∃ u, Yields P ops o u a ∧ Goes G us0 w S π s (a.put o.dst u) w s') := by
      intro h hbw
      obtain ⟨s', h1, h2⟩ := go _ h
      refine ⟨s', h1, fun us0 w S π a hn => ?_⟩
      obtain ⟨g1, g2⟩ := h2 us0 w S π a (hval us0 w S π a hn).2
      have hw : Region.wanted o (yielded ops a.tmps) = true := by rw [hwant us0 w S π a hn, hbw]; simp
      refine ⟨fun Q K hK => ?_, fun hp => ?_⟩
      · unfold wpOp
        simp only [ho, hw, if_true]
        exact .inl (g1 Q K hK)
      · obtain ⟨u, h3, h4⟩ := g2 hp
        exact ⟨u, .inl ⟨hw, h3⟩, h4⟩
    have left : ∀ (h : k (skipOp o { s with tm := s.tm.set d (.val (.bool b)) }) = some r) (hbw : b ≠ want), ∃ s', k s' = some r ∧ ∀ us0 w S π a, Now G us0 w S π a s → (∀ (Q : Exit → Act → World → Prop) (K : Act → World → Prop), (∀ a' w', Goes G us0 w S π s a' w' s' → K a' w') → wpOp P ops Q i K a w) ∧
        (pureB T o = true → ∃ u, Yields P ops o u a ∧ Goes G us0 w S π s (a.put o.dst u) w s') := by
      intro h hbw
      refine ⟨_, h, fun us0 w S π a hn => ?_⟩
      have hw : Region.wanted o (yielded ops a.tmps) = false := by rw [hwant us0 w S π a hn]; simpa using hbw
      obtain ⟨hn1, hob⟩ := skip_ok (o := o) (hval us0 w S π a hn).2
      have hg1 : Goes G us0 w S π s (a.put o.dst undef) w (skipOp o { s with tm := s.tm.set d (.val (.bool b)) }) := by
        refine ⟨S, π, hn1, ?_⟩
        have e : St.own (skipOp o { s with tm := s.tm.set d (.val (.bool b)) }) π = s.own π := by unfold St.own; rw [hob]
        rw [e]
        exact Step.refl _ _ _
      refine ⟨fun Q K hK => ?_, fun hp => ⟨undef, .inr ⟨hw, rfl⟩, hg1⟩⟩
      unfold wpOp
      simp only [ho, hw, Bool.false_eq_true, if_false]
      exact hK _ _ hg1
    cases b with
    | true =>
      simp only [cond_true] at h'
      cases want with
      | true => simp only [cond_true] at h'; exact taken h' rfl
      | false => simp only [cond_false] at h'; exact left h' (by simp)
    | false =>
      simp only [cond_false] at h'
      cases want with
      | true => simp only [cond_true] at h'; exact left h' (by simp)
      | false => simp only [cond_false] at h'; exact taken h' rfl

/-- Whatever order is picked. -/
theorem anyK_ok {R : Type} (hT : TOk P T) (hΓ : ∀ g c, Γ g = some c → Holds P G g c) {ops : Array Oper} (hs : Region.noSelect ops = true) : ∀ (n : Nat) (listed : Array Bool) (s : St) (k : St → Option R) (r : R), anyK T G Γ ops n listed s k = some r →
    ∀ us0 w S π a, Now G us0 w S π a s → ∀ (Q : Exit → Act → World → Prop), (∀ c a w, ¬ Q (.panic c) a w) → (∀ s', k s' = some r → ∀ a' w', Goes G us0 w S π s a' w' s' → Q .normal a' w') → wpAny P .any ops Q n listed a w
  | 0, listed, s, k, r, h, us0, w, S, π, a, hn, Q, _, hQ => by
    simp only [anyK] at h
    cases hr : Region.ready .any ops listed with
    | nil => rw [hr] at h; simp only [List.isEmpty_nil, cond_true] at h; exact ⟨hr, hQ s h a w (Goes.refl hn)⟩
    | cons x xs => rw [hr] at h; simp only [List.isEmpty_cons, cond_false] at h; cases h
  | n + 1, listed, s, k, r, h, us0, w, S, π, a, hn, Q, hP, hQ => by
    simp only [anyK] at h
    split at h
    · rename_i hr
      exact wpAny_done hr (hQ s h a w (Goes.refl hn)) _
    · rename_i i0 is hr
      split at h
      · rename_i i hf
        split at h
        case h_2 => cases h
        rename_i o ho
        have hmem : i ∈ Region.ready .any ops listed := by rw [hr]; exact List.mem_of_find?_eq_some hf
        have hprop := List.find?_some hf
        simp only [Bool.and_eq_true, ho] at hprop
        obtain ⟨s1, h1, h2⟩ := gK_ok hT hΓ ho h
        obtain ⟨_, g2⟩ := h2 us0 w S π a hn
        obtain ⟨u, hy, hg⟩ := g2 hprop.2
        obtain ⟨S1, π1, hn1, hs1⟩ := hg
        refine wpAny_take ho hs hprop.1 (by simpa using hmem) (fun c a w hq => absurd hq (hP _ _ _)) hy ?_
        exact anyK_ok hT hΓ hs n _ s1 k r h1 us0 w S1 π1 _ hn1 Q hP fun s' hk a' w' hg' => hQ s' hk a' w' (Goes.trans hs1 hg')
      · refine wpAny_all hr (by simp) fun i hi => ?_
        have hx := meetAll_inv h _ (List.mem_map.2 ⟨i, hi, rfl⟩)
        split at hx
        case h_2 => cases hx
        rename_i o ho
        obtain ⟨s1, h1, h2⟩ := gK_ok hT hΓ ho hx
        obtain ⟨g1, _⟩ := h2 us0 w S π a hn
        refine g1 Q _ fun a' w' hg => ?_
        obtain ⟨S1, π1, hn1, hs1⟩ := hg
        exact anyK_ok hT hΓ hs n _ s1 k r h1 us0 w' S1 π1 a' hn1 Q hP fun s' hk a'' w'' hg' => hQ s' hk a'' w'' (Goes.trans hs1 hg')

end
end Go.Proofs.YtgpjnppakffoiaaV
