/- The reading machine's operations are told rightly: slicing, lengths, parts of tuples. -/
import Derived.Test.YtgpjnppakffoiaaVOps4
namespace Go.Proofs.YtgpjnppakffoiaaV
open Go Go.RowKit

section
variable {P : Program} {T : TypeId → Option TI} {look : Nat → Option Ob} {nx : Nat} {ev : Operand → Option TV} {o : Oper} {v : TV} {up : List (Nat × Ob)} {nw : List Ob} {rd : List Nat}

/-- What stands for a bound. -/
def bnd (o : Option Value) (d n : Int) : Prop := (o = none ∧ n = d) ∨ ∃ k, o = some (.int k n)

theorem boundK_inv {R : Type} {o : Option TV} {d : Int} {k : Int → Option R} {r : R} (h : boundK o d k = some r) : ∃ n, k n = some r ∧ ((o = none ∧ n = d) ∨ o = some (.val (.int .i64 n))) := by
  unfold boundK at h
  split at h
  · exact ⟨d, h, .inl ⟨rfl, rfl⟩⟩
  · obtain ⟨n, hn, h'⟩ := bind_inv h
    cases asI_inv hn
    exact ⟨n, h', .inr rfl⟩
  · cases h

theorem run_sliceBound_in {k : IntKind} {i : Int} {y : Nat} {c : BoundsCode} (h0 : 0 ≤ i) (h1 : i ≤ y) (w : World) : (Instr.sliceBound (.int k i) y c).run P w = .ok i.toNat w := by
  simp [Instr.sliceBound, asIntOf, h0, h1]

theorem run_sliceBounds {isS : Bool} {len cap : Nat} {lo hi mx : Option Value} {l h m : Int} (hlo : bnd lo 0 l) (hhi : bnd hi len h) (hmx : bnd mx cap m) (hok : ¬ (hi = none ∧ mx ≠ none)) (h1 : 0 ≤ l) (h2 : l ≤ h) (h3 : h ≤ m) (h4 : m ≤ cap) (w : World) :
    (Instr.sliceBounds isS len cap lo hi mx).run P w = .ok (l.toNat, h.toNat, m.toNat) w := by
  have em : (m.toNat : Int) = m := by omega
  have eh : (h.toNat : Int) = h := by omega
  unfold Instr.sliceBounds
  rcases hmx with ⟨rfl, rfl⟩ | ⟨km, rfl⟩
  · rcases hhi with ⟨rfl, rfl⟩ | ⟨kh, rfl⟩
    · rcases hlo with ⟨rfl, rfl⟩ | ⟨kl, rfl⟩
      · simp
      · simp [run_sliceBound_in (P := P) h1 h2]
    · have e1 : ∀ c, (Instr.sliceBound (.int kh h) cap c).run P w = .ok h.toNat w := fun c => run_sliceBound_in (by omega) h3 w
      rcases hlo with ⟨rfl, rfl⟩ | ⟨kl, rfl⟩
      · simp [e1]
      · have e2 : ∀ c, (Instr.sliceBound (.int kl l) h.toNat c).run P w = .ok l.toNat w := fun c => run_sliceBound_in h1 (by omega) w
        simp [e1, e2]
  · rcases hhi with ⟨rfl, rfl⟩ | ⟨kh, rfl⟩
    · exact absurd ⟨rfl, by simp⟩ hok
    · have e0 : ∀ c, (Instr.sliceBound (.int km m) cap c).run P w = .ok m.toNat w := fun c => run_sliceBound_in (by omega) h4 w
      have e1 : ∀ c, (Instr.sliceBound (.int kh h) m.toNat c).run P w = .ok h.toNat w := fun c => run_sliceBound_in (by omega) (by omega) w
      rcases hlo with ⟨rfl, rfl⟩ | ⟨kl, rfl⟩
      · simp [e0, e1]
      · have e2 : ∀ c, (Instr.sliceBound (.int kl l) h.toNat c).run P w = .ok l.toNat w := fun c => run_sliceBound_in h1 (by omega) w
        simp [e0, e1, e2]

theorem run_sliceAt_sl {t e : TypeId} {i : TI} (hT : TOk P T) (hu : P.underlying t = some (.slice e)) (hte : T e = some i) {A : Option Addr} {len cap : Nat} {lo hi mx : Option Value} {l h m : Int} (hlo : bnd lo 0 l) (hhi : bnd hi len h) (hmx : bnd mx cap m)
    (hok : ¬ (hi = none ∧ mx ≠ none)) (h1 : 0 ≤ l) (h2 : l ≤ h) (h3 : h ≤ m) (h4 : m ≤ cap) (w : World) :
    (Instr.sliceAt t (.slice A len cap) lo hi mx).run P w = .ok (.slice (if m.toNat = l.toNat then A else A.map (·.add (l.toNat * i.size))) (h.toNat - l.toNat) (m.toNat - l.toNat)) w := by
  have hb := run_sliceBounds (P := P) (isS := true) hlo hhi hmx hok h1 h2 h3 h4 w
  have hs := run_sizeOf (hT _ _ hte) w
  simp only [Instr.sliceAt, Sem.run_bind, run_underlying hu, Result.andThen_ok, Instr.slice, hb, hs, Sem.run_pure]

theorem ev_bnd {x : Option Operand} {tv : Option TV} {d n : Int} (hx : evOpt ev x = some tv) (h : (tv = none ∧ n = d) ∨ tv = some (.val (.int .i64 n)))
    {a : Act} {w : World} {S : Nat → Prop} {π : Nat → Option Pl} (hev : evOk ev a w S π) : bnd (x.map a.eval) d n ∧ (x.map a.eval = none ↔ tv = none) := by
  cases x with
  | none =>
    simp only [evOpt, Option.some.injEq] at hx
    subst hx
    rcases h with ⟨_, h⟩ | h
    · exact ⟨.inl ⟨rfl, h⟩, by simp⟩
    · cases h
  | some x =>
    simp only [evOpt] at hx
    split at hx
    case h_2 => cases hx
    rename_i y hy
    cases hx
    rcases h with ⟨h, _⟩ | h
    · cases h
    · simp only [Option.some.injEq] at h
      subst h
      exact ⟨.inr ⟨.i64, by simp [ev_int hy hev]⟩, by simp⟩

theorem slice_ok {t : TypeId} {x : Operand} {lo hi mx : Option Operand} {u : TV} {l0 h0 m0 : Option TV} (hT : TOk P T) (ho : o.op = .slice t x lo hi mx) (hx : ev x = some u)
    (hlo : evOpt ev lo = some l0) (hhi : evOpt ev hi = some h0) (hmx : evOpt ev mx = some m0)
    (h : sliceK T look t u l0 h0 m0 ret4 = some (v, up, nw, rd)) : OpOk P look nx ev o v up nw := by
  have hexec : ∀ (a : Act) (w : World) (r : Value), (Instr.sliceAt t (a.eval x) (lo.map a.eval) (hi.map a.eval) (mx.map a.eval)).run P w = .ok r w → (execOp a.eval o).run P w = .ok (.value r) w := by
    intro a w r hr
    simp [execOp, ho, hr]
  unfold sliceK at h
  split at h
  · cases h
  rename_i hnn
  have hok : ∀ (a : Act) (w : World) (S : Nat → Prop) (π : Nat → Option Pl), (hi.map a.eval = none ↔ h0 = none) → (mx.map a.eval = none ↔ m0 = none) → ¬ (hi.map a.eval = none ∧ mx.map a.eval ≠ none) := by
    intro a w S π e1 e2 ⟨e3, e4⟩
    have h3 := e1.1 e3
    have h4 : m0 ≠ none := fun e => e4 (e2.2 e)
    subst h3
    cases m0 with
    | none => exact h4 rfl
    | some y => simp at hnn
  have hmsome : ∀ (a : Act) (q : Option TV), m0 = q → True := fun _ _ _ => trivial
  split at h
  · rename_i sz by' z hi'
    have hu := (hT t _ hi').desc
    simp only [descOk] at hu
    split at h
    · rename_i p
      obtain ⟨s, hs, h'⟩ := bind_inv h
      obtain ⟨l, h1, hl⟩ := boundK_inv h'
      obtain ⟨hh, h2, hh'⟩ := boundK_inv h1
      clear h h' h1
      cases asS_inv hs
      split at h2
      · rename_i hle
        obtain ⟨rfl, rfl, rfl, rfl⟩ := ret4_inv h2
        refine opOk_pure fun a w S π hev hob => ⟨_, hexec a w _ ?_, by simp only [relTV, rel]; rfl⟩
        obtain ⟨b1, e1⟩ := ev_bnd hlo hl hev
        obtain ⟨b2, e2⟩ := ev_bnd hhi hh' hev
        have e3 : mx.map a.eval = none := by
          cases mx with
          | none => rfl
          | some y => simp only [evOpt] at hmx; split at hmx <;> cases hmx
        have hb := run_sliceBounds (P := P) (isS := false) (cap := s.size) (mx := none) b1 b2 (.inl ⟨rfl, rfl⟩) (by simp) hle.1 hle.2.1 hle.2.2 (Int.le_refl _) w
        rw [ev_str hx hev, e3]
        simp only [Instr.sliceAt, Sem.run_bind, run_underlying hu, Result.andThen_ok, Instr.slice, Option.isSome_none, Bool.false_eq_true, if_false, hb, Sem.run_pure]
      · cases h2
    · cases h
  · rename_i sz by' e z hi'
    have hu := (hT t _ hi').desc
    simp only [descOk] at hu
    cases hte : T e with
    | none => rw [hte] at h; simp only at h; cases h
    | some ei =>
    rw [hte] at h
    simp only at h
    -- what stands for the greatest bound
    have bmx : ∀ (m hh : Int) (cap : Nat), ((m0 = none ∧ m = hh) ∨ m0 = some (.val (.int .i64 m))) → m = hh → hh ≤ cap → ∀ (a : Act) (w : World) (S : Nat → Prop) (π : Nat → Option Pl), evOk ev a w S π →
        ∃ M : Int, bnd (mx.map a.eval) cap M ∧ hh ≤ M ∧ M ≤ cap ∧ (mx.map a.eval = none ↔ m0 = none) ∧ (m0.isSome = true → M = hh) := by
      intro m hh cap hm h1 h2 a w S π hev
      rcases hm with ⟨rfl, rfl⟩ | rfl
      · obtain ⟨b1, e1⟩ := ev_bnd (d := cap) (n := cap) hmx (.inl ⟨rfl, rfl⟩) hev
        exact ⟨cap, b1, by omega, Int.le_refl _, e1, by simp⟩
      · obtain ⟨b1, e1⟩ := ev_bnd (d := cap) (n := m) hmx (.inr rfl) hev
        exact ⟨m, b1, by omega, by omega, e1, fun _ => h1⟩
    split at h
    · rename_i p
      obtain ⟨es, hes, h'⟩ := bind_inv h
      obtain ⟨l, h1, hl⟩ := boundK_inv h'
      obtain ⟨hh, h2, hh'⟩ := boundK_inv h1
      obtain ⟨m, h3, hm⟩ := boundK_inv h2
      clear h h' h1 h2
      cases asFs_inv hes
      split at h3
      · rename_i hle
        obtain ⟨rfl, rfl, rfl, rfl⟩ := ret4_inv h3
        obtain ⟨c1, c2, c3, c4, c5⟩ := hle
        refine opOk_pure fun a w S π hev hob => ?_
        have hv := hev x _ hx
        simp only [relTV] at hv
        obtain ⟨b1, e1⟩ := ev_bnd hlo hl hev
        obtain ⟨b2, e2⟩ := ev_bnd hhi hh' hev
        have hlen : ((es.take hh.toNat).drop l.toNat).length = hh.toNat - l.toNat := by simp; omega
        suffices hsuf : ∃ (u : Value) (M : Int), (Instr.sliceAt t (a.eval x) (lo.map a.eval) (hi.map a.eval) (mx.map a.eval)).run P w = .ok u w ∧ rel w S (.fs ((es.take hh.toNat).drop l.toNat)) u ∧ (∃ A, u = .slice A (hh.toNat - l.toNat) (M.toNat - l.toNat)) ∧ (m0.isSome = true → M = hh) by
          obtain ⟨u, M, q1, q2, ⟨A, q3⟩, q4⟩ := hsuf
          refine ⟨u, hexec a w _ q1, ?_⟩
          cases h0 : m0.isSome with
          | true =>
            simp only [cond_true, relTV]
            refine ⟨q2, A, ?_⟩
            rw [q3, hlen, q4 h0]
          | false => simp only [cond_false, relTV]; exact q2
        simp only [rel] at hv
        rcases hv with ⟨⟨A0, he⟩, h0'⟩ | ⟨b, s, cap, sz', he, hcap, hmax, hS, hr⟩
        · subst h0'
          simp only [List.length_nil] at c4 b2
          obtain ⟨M, b3, d1, d2, d3, d4⟩ := bmx m hh 0 hm c3 (by omega) a w S π hev
          have hr := run_sliceAt_sl hT hu hte (A := A0) (len := 0) (cap := 0) b1 b2 b3 (hok a w S π e2 d3) c1 c2 d1 d2 w
          refine ⟨_, M, by rw [he]; exact hr, ?_, ⟨_, rfl⟩, d4⟩
          simp only [rel]
          refine .inl ⟨⟨A0, ?_⟩, by simp⟩
          have z1 : l.toNat = 0 := by omega
          have z2 : hh.toNat = 0 := by omega
          have z3 : M.toNat = 0 := by omega
          rw [z1, z2, z3]; rfl
        · obtain ⟨M, b3, d1, d2, d3, d4⟩ := bmx m hh cap hm c3 (by omega) a w S π hev
          have hr' := run_sliceAt_sl hT hu hte (A := some ⟨b, s, none⟩) (len := es.length) (cap := cap) b1 b2 b3 (hok a w S π e2 d3) c1 c2 d1 d2 w
          refine ⟨_, M, by rw [he]; exact hr', ?_, ⟨_, rfl⟩, d4⟩
          simp only [rel]
          refine .inr ?_
          by_cases hml : M.toNat = l.toNat
          · refine ⟨b, s, M.toNat - l.toNat, sz', ?_, by omega, by omega, hS, ?_⟩
            · rw [hlen, if_pos hml]
            · have : (es.take hh.toNat).drop l.toNat = [] := List.eq_nil_of_length_eq_zero (by omega)
              rw [this]; simp only [relEs]
          · refine ⟨b, s + l.toNat * ei.size, M.toNat - l.toNat, sz', ?_, by omega, by omega, hS, ?_⟩
            · rw [hlen, if_neg hml]; simp [Addr.add_lit]
            · by_cases hes0 : es = []
              · subst hes0; simp [relEs]
              · have hsz : sz' = ei.size := by
                  cases es with
                  | nil => exact absurd rfl hes0
                  | cons e0 es =>
                    have g1 := (relEs_get hr (i := 0) rfl).1
                    have g2 : e0.length = ei.size := by simp only [allLen, List.all_cons, Bool.and_eq_true, beq_iff_eq] at c5; exact c5.1
                    omega
                rw [← hsz]
                exact relEs_drop (relEs_take hr hh.toNat) l.toNat
      · cases h3
    · rename_i id
      split at h
      · rename_i es sz' hl'
        obtain ⟨l, h1, hl⟩ := boundK_inv h
        obtain ⟨hh, h2, hh'⟩ := boundK_inv h1
        obtain ⟨m, h3, hm⟩ := boundK_inv h2
        clear h h1 h2
        split at h3
        · rename_i hle
          obtain ⟨rfl, rfl, rfl, rfl⟩ := ret4_inv h3
          obtain ⟨c1, c2, c3, c4, c5⟩ := hle
          refine opOk_pure fun a w S π hev hob => ?_
          have hv := hev x _ hx
          simp only [relTV] at hv
          obtain ⟨b1, e1⟩ := ev_bnd hlo hl hev
          obtain ⟨b2, e2⟩ := ev_bnd hhi hh' hev
          obtain ⟨pl, hp', hk⟩ := hob.ok id _ hl'
          rcases hv with ⟨hp, he⟩ | ⟨b, s, c, z', l', ad, hp, he, had⟩
          · rw [hp] at hp'; cases hp'
            simp only [obOk] at hk
            subst hk
            simp only [List.length_nil] at c4 b2
            obtain ⟨M, b3, d1, d2, d3, d4⟩ := bmx m hh 0 hm c3 (by omega) a w S π hev
            have hr := run_sliceAt_sl hT hu hte (A := none) (len := 0) (cap := 0) b1 b2 b3 (hok a w S π e2 d3) c1 c2 d1 d2 w
            refine ⟨_, hexec a w _ (by rw [he]; exact hr), ?_⟩
            simp only [relTV]
            refine .inl ⟨hp, ?_, by omega, by omega⟩
            have z1 : l.toNat = 0 := by omega
            have z2 : hh.toNat = 0 := by omega
            have z3 : M.toNat = 0 := by omega
            rw [z1, z2, z3]; rfl
          · rw [hp] at hp'; cases hp'
            simp only [obOk] at hk
            obtain ⟨rfl, rfl, hlc, hcm, _⟩ := hk
            obtain ⟨M, b3, d1, d2, d3, d4⟩ := bmx m hh c hm c3 (by omega) a w S π hev
            have hr' := run_sliceAt_sl hT hu hte (A := some ad) (len := es.length) (cap := c) b1 b2 b3 (hok a w S π e2 d3) c1 c2 d1 d2 w
            refine ⟨_, hexec a w _ (by rw [he]; exact hr'), ?_⟩
            simp only [relTV]
            refine .inr ?_
            have hlen : (hh - l).toNat = hh.toNat - l.toNat := by omega
            have hcp : m0.isSome = true → M.toNat - l.toNat = (hh - l).toNat := by
              intro hh2
              have := d4 hh2
              omega
            by_cases hml : M.toNat = l.toNat
            · refine ⟨b, s, c, _, _, ad, M.toNat - l.toNat, hp, ?_, by omega, .inl (by omega), by omega, hcp, by omega⟩
              rw [hlen, if_pos hml]
            · refine ⟨b, s, c, _, _, ⟨b, s + l.toNat * z', none⟩, M.toNat - l.toNat, hp, ?_, by omega, .inr rfl, by omega, hcp, by omega⟩
              have had' : ad = ⟨b, s, none⟩ := by
                rcases had with h0 | h0
                · exfalso; omega
                · exact h0
              rw [hlen, if_neg hml, had', c5]; simp [Addr.add_lit]
        · cases h3
      · cases h
    · rename_i id off len cp
      split at h
      · rename_i es sz' hl'
        obtain ⟨l, h1, hl⟩ := boundK_inv h
        obtain ⟨hh, h2, hh'⟩ := boundK_inv h1
        obtain ⟨m, h3, hm⟩ := boundK_inv h2
        clear h h1 h2
        split at h3
        · rename_i hle
          obtain ⟨rfl, rfl, rfl, rfl⟩ := ret4_inv h3
          obtain ⟨c1, c2, c3, c4, c5⟩ := hle
          refine opOk_pure fun a w S π hev hob => ?_
          have hv := hev x _ hx
          simp only [relTV] at hv
          obtain ⟨b1, e1⟩ := ev_bnd hlo hl hev
          obtain ⟨b2, e2⟩ := ev_bnd hhi hh' hev
          obtain ⟨pl, hp', hk⟩ := hob.ok id _ hl'
          rcases hv with ⟨hp, he, q1, q2⟩ | ⟨b, s, c, z', l', ad, cv, hp, he, k1, had, k2, k3, k4⟩
          · subst q1 q2
            obtain ⟨M, b3, d1, d2, d3, d4⟩ := bmx m hh 0 hm c3 (by omega) a w S π hev
            have hr := run_sliceAt_sl hT hu hte (A := none) (len := 0) (cap := 0) b1 b2 b3 (hok a w S π e2 d3) c1 c2 d1 d2 w
            refine ⟨_, hexec a w _ (by rw [he]; exact hr), ?_⟩
            simp only [relTV]
            refine .inl ⟨hp, ?_, by omega, by omega⟩
            have z1 : l.toNat = 0 := by omega
            have z2 : hh.toNat = 0 := by omega
            have z3 : M.toNat = 0 := by omega
            rw [z1, z2, z3]; rfl
          · rw [hp] at hp'; cases hp'
            simp only [obOk] at hk
            obtain ⟨rfl, rfl, hlc, hcm, _⟩ := hk
            obtain ⟨M, b3, d1, d2, d3, d4⟩ := bmx m hh cv hm c3 (by omega) a w S π hev
            have hr' := run_sliceAt_sl hT hu hte (A := some ad) (len := len) (cap := cv) b1 b2 b3 (hok a w S π e2 d3) c1 c2 d1 d2 w
            refine ⟨_, hexec a w _ (by rw [he]; exact hr'), ?_⟩
            simp only [relTV]
            refine .inr ?_
            have hlen : (hh - l).toNat = hh.toNat - l.toNat := by omega
            have hcp : m0.isSome = true → M.toNat - l.toNat = (hh - l).toNat := by
              intro hh2
              have := d4 hh2
              omega
            by_cases hml : M.toNat = l.toNat
            · refine ⟨b, s, c, _, _, ad, M.toNat - l.toNat, hp, ?_, by omega, .inl (by omega), by omega, hcp, by omega⟩
              rw [hlen, if_pos hml]
            · refine ⟨b, s, c, _, _, ⟨b, s + (off + l.toNat) * z', none⟩, M.toNat - l.toNat, hp, ?_, by omega, .inr rfl, by omega, hcp, by omega⟩
              have had' : ad = ⟨b, s + off * z', none⟩ := by
                rcases had with h0 | h0
                · exfalso; omega
                · exact h0
              rw [hlen, if_neg hml, had', ← c5]; simp [Addr.add_lit, Nat.add_mul, Nat.add_assoc]
        · cases h3
      · cases h
    · rename_i sz'
      obtain ⟨l, h1, hl⟩ := boundK_inv h
      obtain ⟨hh, h2, hh'⟩ := boundK_inv h1
      obtain ⟨m, h3, hm⟩ := boundK_inv h2
      clear h h1 h2
      split at h3
      · rename_i hle
        obtain ⟨rfl, rfl, rfl, rfl⟩ := ret4_inv h3
        obtain ⟨c1, c2, c3⟩ := hle
        refine opOk_pure fun a w S π hev hob => ?_
        have hv := hev x _ hx
        simp only [relTV] at hv
        obtain ⟨b1, e1⟩ := ev_bnd hlo hl hev
        obtain ⟨b2, e2⟩ := ev_bnd hhi hh' hev
        obtain ⟨b3, e3⟩ := ev_bnd hmx hm hev
        have hr := run_sliceAt_sl hT hu hte (A := none) (len := 0) (cap := 0) b1 b2 b3 (hok a w S π e2 e3) (by omega) (by omega) (by omega) (by omega) w
        refine ⟨_, hexec a w _ (by rw [hv]; exact hr), ?_⟩
        simp only [relTV]
        subst c1 c2 c3
        rfl
      · cases h3
    · cases h
  · cases h

end
end Go.Proofs.YtgpjnppakffoiaaV
