/- The reading machine: states are made even at loops' heads. -/
import Derived.Test.YtgpjnppakffoiaaVFunOk
namespace Go.Proofs.YtgpjnppakffoiaaV
open Go Go.RowKit

def pos : List Nat → Nat → Option Nat
  | [], _ => none
  | a :: l, id => if a = id then some 0 else match pos l id with | some j => some (j + 1) | none => none

mutual
/-- Ids are renamed; what leads to what is gone is not known. -/
def ren (f : Nat → Option Nat) : TV → TV
  | .val p => .val p
  | .nil sz => .nil sz
  | .vc es => .vc es
  | .ref id off => match f id with | some j => .ref j off | none => .undef
  | .eref id i m => match f id with | some j => .eref j i m | none => .undef
  | .ow id => match f id with | some j => .ow j | none => .undef
  | .sl id off len cp => match f id with | some j => .sl j off len cp | none => .undef
  | .mp id => match f id with | some j => .mp j | none => .undef
  | .it id => match f id with | some j => .it j | none => .undef
  | .agg cs => .agg (renL f cs)
  | .tuple cs => .tuple (renL f cs)
  | .fn g cs => .fn g (renL f cs)
  | .undef => .undef
def renL (f : Nat → Option Nat) : List TV → List TV
  | [] => []
  | v :: vs => ren f v :: renL f vs
end
def renOb (f : Nat → Option Nat) : Ob → Ob
  | .box cs => .box (renL f cs)
  | o => o

/-- Which ids are reached, in which order. -/
def visit (ob : List Ob) : Nat → List Nat → List TV → List Nat
  | 0, L, _ => L
  | _, L, [] => L
  | n + 1, L, v :: r =>
    match v with
    | .ref id _ | .eref id _ _ | .ow id | .sl id _ _ _ | .mp id | .it id =>
      cond (L.contains id) (visit ob n L r)
        (match ob[id]? with
        | some (.box cs) => visit ob n (L ++ [id]) (cs ++ r)
        | some _ => visit ob n (L ++ [id]) r
        | none => visit ob n L r)
    | .agg cs | .tuple cs | .fn _ cs => visit ob n L (cs ++ r)
    | _ => visit ob n L r

def gc (L : List Nat) (s : St) : St :=
  { tm := renL (pos L) s.tm
    ob := L.map fun id => match s.ob[id]? with | some o => renOb (pos L) o | none => .dead
    roots := renL (pos L) s.roots }

/-- What a loop's head keeps: live slots; of these slices that become rows of the call's own, or trees; parts of variables that do. -/
structure LC where
  keep : List Nat
  ow : List Nat
  dt : List Nat
  cells : List (Nat × Nat)

def nilOw (s : St) (i : Nat) : St :=
  match s.tm[i]? with
  | some (.nil sz) => { s with tm := s.tm.set i (.ow s.ob.length), ob := s.ob ++ [.row [] sz] }
  | _ => s
def nilDt (s : St) (i : Nat) : St :=
  match s.tm[i]? with
  | some (.nil _) => { s with tm := s.tm.set i (.val (.fs [])) }
  | _ => s
def nilCell (s : St) (x : Nat × Nat) : St :=
  match s.tm[x.1]? with
  | some (.ref id _) =>
    match s.ob[id]? with
    | some (.box cs) =>
      match cs[x.2]? with
      | some (.nil sz) => { s with ob := s.ob.set id (.box (cs.set x.2 (.ow s.ob.length))) ++ [.row [] sz] }
      | _ => s
    | _ => s
  | _ => s
def keepTm (keep : List Nat) : Nat → List TV → List TV
  | _, [] => []
  | i, v :: vs => cond (keep.contains i) v .undef :: keepTm keep (i + 1) vs

def gcIf (L : List Nat) (s : St) : St := cond (noDup L && L.all fun i => decide (i < s.ob.length)) (gc L s) s
def gcAll (s : St) : St := gcIf (visit s.ob 1000 [] (s.roots ++ s.tm)) s
def normS (c : LC) (s : St) : St := gcAll (c.cells.foldl nilCell (c.dt.foldl nilDt (c.ow.foldl nilOw { s with tm := keepTm c.keep 0 s.tm })))

def keyOf : Code → Nat
  | .region id _ _ => id
  | .seq a _ => keyOf a
  | .block _ c => keyOf c
  | .loop c => keyOf c
  | _ => 0
def lcOf : List (Nat × LC) → Nat → LC
  | [], _ => ⟨[], [], [], []⟩
  | (i, c) :: l, k => if i = k then c else lcOf l k
/-- Behind a loop other slots live than ahead of its rounds: by where it is left for. -/
def exKey (key : Nat) : Ex → Nat
  | .normal => key
  | .exit i => 1000000 + 1000 * key + i
  | .ret => 2000000 + key
def normBy (cfg : List (Nat × LC)) (c : Code) (e : Ex) (s : St) : St := normS (lcOf cfg (exKey (keyOf c) e)) s

section
variable {G : Nat → Option (List PV)} {us0 : Rts} {w : World} {S : Nat → Prop} {π : Nat → Option Pl} {a : Act}

theorem pos_get : ∀ {L : List Nat} {id j : Nat}, pos L id = some j → L[j]? = some id
  | [], _, _, h => by simp [pos] at h
  | b :: l, id, j, h => by
    simp only [pos] at h
    split at h
    · rename_i e; cases h; simp [e]
    · split at h
      · rename_i j' hj; cases h; simpa using pos_get hj
      · cases h

mutual
theorem ren_rel {π' : Nat → Option Pl} {f : Nat → Option Nat} (hf : ∀ id j, f id = some j → π' j = π id) : ∀ (v : TV) (u : Value), relTV w S π v u → relTV w S π' (ren f v) u
  | .val p, u, h => by simp only [relTV, ren] at h ⊢; exact h
  | .nil sz, u, h => by simp only [relTV, ren] at h ⊢; exact h
  | .vc es, u, h => by simp only [relTV, ren] at h ⊢; exact h
  | .ref id off, u, h => by
    simp only [ren]
    cases hj : f id with
    | none => simp only [relTV]
    | some j => simp only [relTV, hf id j hj] at h ⊢; exact h
  | .eref id i m, u, h => by
    simp only [ren]
    cases hj : f id with
    | none => simp only [relTV]
    | some j => simp only [relTV, hf id j hj] at h ⊢; exact h
  | .ow id, u, h => by
    simp only [ren]
    cases hj : f id with
    | none => simp only [relTV]
    | some j => simp only [relTV, hf id j hj] at h ⊢; exact h
  | .sl id off len cp, u, h => by
    simp only [ren]
    cases hj : f id with
    | none => simp only [relTV]
    | some j => simp only [relTV, hf id j hj] at h ⊢; exact h
  | .mp id, u, h => by
    simp only [ren]
    cases hj : f id with
    | none => simp only [relTV]
    | some j => simp only [relTV, hf id j hj] at h ⊢; exact h
  | .it id, u, h => by
    simp only [ren]
    cases hj : f id with
    | none => simp only [relTV]
    | some j => simp only [relTV, hf id j hj] at h ⊢; exact h
  | .agg cs, u, h => by
    simp only [relTV, ren] at h ⊢
    obtain ⟨us, h1, h2, h3⟩ := h
    exact ⟨us, h1, h2, ren_relL hf cs _ h3⟩
  | .tuple cs, u, h => by
    simp only [relTV, ren] at h ⊢
    obtain ⟨us, h1, h3⟩ := h
    exact ⟨us, h1, ren_relL hf cs _ h3⟩
  | .fn g cs, u, h => by
    simp only [relTV, ren] at h ⊢
    obtain ⟨us, h1, h3⟩ := h
    exact ⟨us, h1, ren_relL hf cs _ h3⟩
  | .undef, u, h => by simp only [relTV, ren]
theorem ren_relL {π' : Nat → Option Pl} {f : Nat → Option Nat} (hf : ∀ id j, f id = some j → π' j = π id) : ∀ (vs : List TV) (us : List Value), relTVs w S π vs us → relTVs w S π' (renL f vs) us
  | [], us, h => by simp only [relTVs, renL] at h ⊢; exact h
  | v :: vs, us, h => by
    simp only [relTVs, renL] at h ⊢
    obtain ⟨u, us', h1, h2, h3⟩ := h
    exact ⟨u, us', h1, ren_rel hf v u h2, ren_relL hf vs us' h3⟩
end

theorem renL_get {f : Nat → Option Nat} : ∀ {vs : List TV} {i : Nat}, (renL f vs)[i]? = (vs[i]?).map (ren f)
  | [], i => by simp [renL]
  | v :: vs, i => by cases i <;> simp [renL, renL_get]

theorem ren_ow {f : Nat → Option Nat} {v : TV} {j : Nat} (h : ren f v = .ow j) : ∃ id, v = .ow id ∧ f id = some j := by
  cases v <;> simp only [ren, reduceCtorEq] at h
  case ow id => split at h <;> cases h; exact ⟨id, rfl, by assumption⟩
  all_goals (split at h <;> cases h)

/-- Made even, a state is related to the same memory. -/
structure Even (G : Nat → Option (List PV)) (us0 : Rts) (w : World) (S : Nat → Prop) (π : Nat → Option Pl) (a : Act) (s s' : St) : Prop where
  ok : ∃ π', Now G us0 w S π' a s' ∧ ∀ b, s'.own π' b → s.own π b

theorem Even.trans {s s1 s2 : St} (h : Even G us0 w S π a s s1) (k : ∀ π', Now G us0 w S π' a s1 → Even G us0 w S π' a s1 s2) : Even G us0 w S π a s s2 := by
  obtain ⟨π1, h1, h2⟩ := h.ok
  obtain ⟨π2, h3, h4⟩ := (k π1 h1).ok
  exact ⟨π2, h3, fun b hb => h2 b (h4 b hb)⟩

theorem gc_even {s : St} (hn : Now G us0 w S π a s) {L : List Nat} (hnd : L.Nodup) (hlt : ∀ i ∈ L, i < s.ob.length) : Even G us0 w S π a s (gc L s) := by
  let π' : Nat → Option Pl := fun j => match L[j]? with | some id => π id | none => none
  have hf : ∀ id j, pos L id = some j → π' j = π id := by
    intro id j h
    simp only [π', pos_get h]
  have hlook : ∀ (j : Nat) (o : Ob), (gc L s).ob[j]? = some o → ∃ id o', L[j]? = some id ∧ s.ob[id]? = some o' ∧ o = renOb (pos L) o' := by
    intro j o h
    simp only [gc, List.getElem?_map] at h
    cases hj : L[j]? with
    | none => rw [hj] at h; cases h
    | some id =>
      rw [hj] at h
      simp only [Option.map_some, Option.some.injEq] at h
      have := hlt id (List.mem_of_getElem? hj)
      rw [List.getElem?_eq_getElem this] at h
      exact ⟨id, _, rfl, List.getElem?_eq_getElem this, h.symm⟩
  have hlive : ∀ o : Ob, (renOb (pos L) o).live = o.live := by intro o; cases o <;> rfl
  have hpi : ∀ (j id : Nat), L[j]? = some id → π' j = π id := fun j id h => by simp only [π', h]
  have hown : ∀ b, (gc L s).own π' b → s.own π b := by
    rintro b ⟨j, o, pl, h1, h2, h3, h4⟩
    obtain ⟨id, o', k1, k2, rfl⟩ := hlook j o h1
    rw [hlive] at h2
    rw [hpi j id k1] at h3
    exact ⟨id, o', pl, k2, h2, h3, h4⟩
  refine ⟨π', ⟨hn.df, ?_, ?_, ⟨?_, ?_, ?_, hn.ob.st⟩, ?_, ?_, ?_, hn.go⟩, hown⟩
  · have : ∀ vs : List TV, (renL (pos L) vs).length = vs.length := by
      intro vs
      induction vs with
      | nil => rfl
      | cons v vs ih => simp [renL, ih]
    simp only [gc, this]
    exact hn.len
  · intro i v hv
    simp only [gc, renL_get] at hv
    cases hq : s.tm[i]? with
    | none => rw [hq] at hv; cases hv
    | some v0 =>
      rw [hq] at hv
      simp only [Option.map_some, Option.some.injEq] at hv
      subst hv
      exact ren_rel hf v0 _ (hn.tm i v0 hq)
  · intro j o h
    obtain ⟨id, o', k1, k2, rfl⟩ := hlook j o h
    obtain ⟨pl, hp, hk⟩ := hn.ob.ok id o' k2
    refine ⟨pl, by rw [hpi j id k1]; exact hp, ?_⟩
    cases o' with
    | box cs =>
      cases pl with
      | nil => simp only [obOk] at hk
      | «at» b s0 c z l =>
        simp only [renOb, obOk] at hk ⊢
        obtain ⟨h1, C, t, fr, h2, h3, h4, h5⟩ := hk
        exact ⟨h1, C, t, fr, h2, h3, h4, ren_relL hf _ _ h5⟩
    | fro p => cases pl <;> cases p <;> simp only [renOb, obOk] at hk ⊢ <;> exact hk
    | _ => cases pl <;> simp only [renOb, obOk] at hk ⊢ <;> exact hk
  · intro i j oi oj pi pj b h1 h2 h3 h4 h5 h6 h7 h8
    obtain ⟨id, o', k1, k2, rfl⟩ := hlook i oi h1
    obtain ⟨id', o'', q1, q2, rfl⟩ := hlook j oj h2
    rw [hlive] at h3 h4
    rw [hpi i id k1] at h5
    rw [hpi j id' q1] at h6
    have := hn.ob.apart id id' o' o'' pi pj b k2 q2 h3 h4 h5 h6 h7 h8
    subst this
    obtain ⟨hi, e1⟩ := List.getElem?_eq_some_iff.1 k1
    obtain ⟨hj, e2⟩ := List.getElem?_eq_some_iff.1 q1
    exact (List.getElem_inj hnd).1 (e1.trans e2.symm)
  · intro b hb
    exact hn.ob.out b (hown b hb)
  · intro id hid
    simp only [π'] at hid
    cases hj : L[id]? with
    | none => rw [hj] at hid; exact absurd rfl hid
    | some x =>
      have := (List.getElem?_eq_some_iff.1 hj).1
      simpa [gc] using this
  · exact ren_relL hf _ _ hn.roots
  · intro i id hi
    simp only [gc, renL_get] at hi
    cases hq : s.roots[i]? with
    | none => rw [hq] at hi; cases hi
    | some v0 =>
      rw [hq] at hi
      simp only [Option.map_some, Option.some.injEq] at hi
      obtain ⟨id0, rfl, hj⟩ := ren_ow hi
      rw [hf id0 id hj]
      exact hn.places i id0 hq

/-- A new row that has no memory at all. -/
theorem nil_new {s : St} (hn : Now G us0 w S π a s) (sz : Nat) : ∃ π', ObsOk w S π' (fun i => (s.ob ++ [Ob.row [] sz])[i]?) ∧ Ext π π' ∧ (∀ id, π' id ≠ none → id < s.ob.length + 1) ∧ π' s.ob.length = some .nil ∧ ∀ b, owned (fun i => (s.ob ++ [Ob.row [] sz])[i]?) π' b → s.own π b := by
  obtain ⟨π', g1, g2, g3, g4, g5⟩ := obs_adopt (nx := s.ob.length) (ob := .row [] sz) (pl := .nil) hn.ob (hn.free 1) (fun b hb => by cases hb) (fun _ _ => by simp [obOk])
  have e : upd (fun i => s.ob[i]?) [] s.ob.length [Ob.row [] sz] = fun i => (s.ob ++ [Ob.row [] sz])[i]? := by
    funext i
    simp only [upd, upLast, List.length_singleton, List.getElem?_append]
    by_cases h : i < s.ob.length
    · rw [if_neg (by omega), if_pos h]
    · rw [if_neg h]
      by_cases h2 : i < s.ob.length + 1
      · rw [if_pos (by omega)]
      · rw [if_neg (by omega), List.getElem?_eq_none (by omega), List.getElem?_eq_none (by simp; omega)]
  rw [e] at g1 g5
  refine ⟨π', g1, g2, fun id hid => ?_, g4, fun b hb => (g5 b hb).elim id (fun h => by cases h)⟩
  rcases g3 id hid with h | h
  · have := hn.pl id h; omega
  · omega

theorem nilOw_even {s : St} (hn : Now G us0 w S π a s) (i : Nat) : Even G us0 w S π a s (nilOw s i) := by
  unfold nilOw
  split
  · rename_i sz hi
    obtain ⟨π', g1, g2, g3, g4, g5⟩ := nil_new hn sz
    have hk : Keep w S w S := keep_sub fun _ h => h
    refine ⟨π', ⟨hn.df, by simpa using hn.len, ?_, g1, by simpa using g3, relTVs_keep hk g2 _ _ hn.roots, ?_, hn.go⟩, g5⟩
    · intro j v hv
      simp only [List.getElem?_set] at hv
      by_cases e : i = j
      · subst e
        rw [if_pos rfl] at hv
        split at hv
        · cases hv
          have := hn.tm i _ hi
          simp only [relTV] at this ⊢
          exact .inl ⟨g4, this⟩
        · cases hv
      · rw [if_neg e] at hv
        exact relTV_keep hk g2 _ _ (hn.tm j v hv)
    · intro j id hj
      obtain ⟨h1, h2⟩ := hn.places j id hj
      cases hp : π id with
      | none => exact absurd hp h1
      | some q => rw [g2 _ _ hp]; exact ⟨by simp, by rw [h2, hp]⟩
  · exact ⟨π, hn, fun _ h => h⟩

theorem nilDt_even {s : St} (hn : Now G us0 w S π a s) (i : Nat) : Even G us0 w S π a s (nilDt s i) := by
  unfold nilDt
  split
  · rename_i sz hi
    refine ⟨π, ⟨hn.df, by simpa using hn.len, ?_, hn.ob, hn.pl, hn.roots, hn.places, hn.go⟩, fun _ h => h⟩
    intro j v hv
    simp only [List.getElem?_set] at hv
    by_cases e : i = j
    · subst e
      rw [if_pos rfl] at hv
      split at hv
      · cases hv
        have := hn.tm i _ hi
        simp only [relTV] at this
        simp only [relTV, rel]
        exact .inl ⟨⟨_, this⟩, trivial⟩
      · cases hv
    · rw [if_neg e] at hv
      exact hn.tm j v hv
  · exact ⟨π, hn, fun _ h => h⟩

theorem nilCell_even {s : St} (hn : Now G us0 w S π a s) (x : Nat × Nat) : Even G us0 w S π a s (nilCell s x) := by
  unfold nilCell
  split
  · rename_i id off hi
    split
    · rename_i cs hl
      split
      · rename_i sz hc
        obtain ⟨π', g1, g2, g3, g4, g5⟩ := nil_new hn sz
        have hk : Keep w S w S := keep_sub fun _ h => h
        have hlt : id < s.ob.length := (List.getElem?_eq_some_iff.1 hl).1
        have e : (fun j => (s.ob.set id (.box (cs.set x.2 (.ow s.ob.length))) ++ [Ob.row [] sz])[j]?) = upd (fun j => (s.ob ++ [Ob.row [] sz])[j]?) [(id, .box (cs.set x.2 (.ow s.ob.length)))] 0 [] := by
          funext j
          simp only [upd, upLast, List.length_nil, Nat.add_zero, List.getElem?_append, List.length_set, List.getElem?_set]
          by_cases hj : id = j
          · subst hj; simp [hlt]
          · simp [hj]
        have hl' : (fun j => (s.ob ++ [Ob.row [] sz])[j]?) id = some (.box cs) := by simp only [List.getElem?_append, hlt, if_true]; exact hl
        obtain ⟨pl, hp, hk2⟩ := g1.ok id _ hl'
        cases pl with
        | nil => simp only [obOk] at hk2
        | «at» b s0 c z l =>
          simp only [obOk] at hk2
          obtain ⟨h1, C, t, fr, h2, h3, h4, h5⟩ := hk2
          have hcl : x.2 < cs.length := (List.getElem?_eq_some_iff.1 hc).1
          obtain ⟨y, hy, hyr⟩ := relTVs_get h5 hc
          simp only [relTV] at hyr
          subst hyr
          have hset : C.toList.set x.2 (.slice none 0 0) = C.toList := by
            obtain ⟨hh, he⟩ := List.getElem?_eq_some_iff.1 hy
            rw [← he]
            exact List.set_getElem_self hh
          have hrel : relTVs w S π' (cs.set x.2 (.ow s.ob.length)) C.toList := by
            rw [← hset]
            exact relTVs_set h5 x.2 (by simp only [relTV]; exact .inl ⟨g4, trivial⟩)
          have hob : ObsOk w S π' (upd (fun j => (s.ob ++ [Ob.row [] sz])[j]?) [(id, .box (cs.set x.2 (.ow s.ob.length)))] 0 []) ∧ ∀ b, owned (upd (fun j => (s.ob ++ [Ob.row [] sz])[j]?) [(id, .box (cs.set x.2 (.ow s.ob.length)))] 0 []) π' b → owned (fun j => (s.ob ++ [Ob.row [] sz])[j]?) π' b := by
            have hu : Upd w b (.cells C t fr) w := ⟨rfl, rfl, rfl, rfl, fun _ _ => rfl, h2⟩
            obtain ⟨k1, k2⟩ := obs_turn (nx := 0) (ob' := .box (cs.set x.2 (.ow s.ob.length))) g1 hl' rfl rfl hp hu (fun _ => by simp only [obOk]; exact ⟨h1, C, t, fr, h2, h3, h4, hrel⟩)
            refine ⟨k1, fun b' hb' => ?_⟩
            rcases k2.own b' hb' with h | h
            · exact h
            · have := (k1.out b' hb').2; omega
          rw [← e] at hob
          refine ⟨π', ⟨hn.df, hn.len, fun j v hv => relTV_keep hk g2 _ _ (hn.tm j v hv), hob.1, by simpa using g3, relTVs_keep hk g2 _ _ hn.roots, ?_, hn.go⟩, fun b' hb' => g5 b' (hob.2 b' hb')⟩
          intro j id' hj
          obtain ⟨q1, q2⟩ := hn.places j id' hj
          cases hp' : π id' with
          | none => exact absurd hp' q1
          | some q => rw [g2 _ _ hp']; exact ⟨by simp, by rw [q2, hp']⟩
      · exact ⟨π, hn, fun _ h => h⟩
    · exact ⟨π, hn, fun _ h => h⟩
  · exact ⟨π, hn, fun _ h => h⟩

theorem keepTm_get {keep : List Nat} : ∀ {vs : List TV} {n i : Nat} {v : TV}, (keepTm keep n vs)[i]? = some v → v = .undef ∨ vs[i]? = some v
  | [], n, i, v, h => by simp [keepTm] at h
  | x :: vs, n, 0, v, h => by
    simp only [keepTm, List.getElem?_cons_zero, Option.some.injEq] at h
    cases hc : keep.contains n <;> rw [hc] at h
    · exact .inl h.symm
    · exact .inr (by simpa using h)
  | x :: vs, n, i + 1, v, h => by
    simp only [keepTm, List.getElem?_cons_succ] at h ⊢
    exact keepTm_get h
theorem keepTm_length {keep : List Nat} : ∀ {vs : List TV} {n : Nat}, (keepTm keep n vs).length = vs.length
  | [], n => rfl
  | x :: vs, n => by simp [keepTm, keepTm_length]

theorem keep_even {s : St} (hn : Now G us0 w S π a s) (keep : List Nat) : Even G us0 w S π a s { s with tm := keepTm keep 0 s.tm } := by
  refine ⟨π, ⟨hn.df, by simpa [keepTm_length] using hn.len, ?_, hn.ob, hn.pl, hn.roots, hn.places, hn.go⟩, fun _ h => h⟩
  intro i v hv
  rcases keepTm_get hv with rfl | h
  · simp only [relTV]
  · exact hn.tm i v h

theorem fold_even {α : Type} {f : St → α → St} (hf : ∀ (s : St) (x : α) (π : Nat → Option Pl), Now G us0 w S π a s → Even G us0 w S π a s (f s x)) : ∀ (l : List α) (s : St) (π : Nat → Option Pl), Now G us0 w S π a s → Even G us0 w S π a s (l.foldl f s)
  | [], s, π, hn => ⟨π, hn, fun _ h => h⟩
  | x :: l, s, π, hn => (hf s x π hn).trans fun π' hn' => fold_even hf l (f s x) π' hn'

theorem gcIf_even {s : St} (hn : Now G us0 w S π a s) (L : List Nat) : Even G us0 w S π a s (gcIf L s) := by
  unfold gcIf
  cases hc : (noDup L && L.all fun i => decide (i < s.ob.length)) with
  | false => simp only [cond_false]; exact ⟨π, hn, fun _ h => h⟩
  | true =>
    simp only [cond_true]
    simp only [Bool.and_eq_true, List.all_eq_true, decide_eq_true_eq] at hc
    exact gc_even hn (noDup_ok hc.1) hc.2

theorem normS_even {s : St} (hn : Now G us0 w S π a s) (c : LC) : Even G us0 w S π a s (normS c s) := by
  unfold normS
  refine (keep_even hn c.keep).trans fun π1 h1 => ?_
  refine (fold_even (fun s x π h => nilOw_even h x) c.ow _ π1 h1).trans fun π2 h2 => ?_
  refine (fold_even (fun s x π h => nilDt_even h x) c.dt _ π2 h2).trans fun π3 h3 => ?_
  refine (fold_even (fun s x π h => nilCell_even h x) c.cells _ π3 h3).trans fun π4 h4 => ?_
  exact gcIf_even h4 _

theorem normBy_ok (cfg : List (Nat × LC)) : NormOk G (normBy cfg) := fun c e us0 w S π a s hn => (normS_even hn (lcOf cfg (exKey (keyOf c) e))).ok

end
end Go.Proofs.YtgpjnppakffoiaaV
