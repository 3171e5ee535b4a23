/- The reading machine: states made even, laws, types, patterns, arguments. -/
import Derived.Test.YtpaifgipdhgfkaaGreatDoorVE
import Derived.ProofKit
import Derived.OpenShut
import Derived.JoinedCond
import Derived.Carry
import Derived.Below
import Derived.SliceStrings
import Derived.ChangeSlices
import Derived.ChangeMaps5
set_option linter.unusedVariables false
set_option linter.unusedSimpArgs false

/- The reading machine: states are made even at loops' heads. -/
namespace Go.Proofs.YtpaifgipdhgfkaaGreatDoorV
open Go Go.RowKit

def pos : List Nat → Nat → Option Nat
  | [], _ => none
  | a :: l, id => if a = id then some 0 else match pos l id with | some j => some (j + 1) | none => none

mutual
/-- Ids are renamed; what leads to what is gone is not known. -/
def ren (f : Nat → Option Nat) : TV → TV
  | .val p => .val p
  | .nil sz => .nil sz
  | .vc es => .vc es
  | .ref id off => match f id with | some j => .ref j off | none => .undef
  | .eref id i m => match f id with | some j => .eref j i m | none => .undef
  | .ow id => match f id with | some j => .ow j | none => .undef
  | .sl id off len cp => match f id with | some j => .sl j off len cp | none => .undef
  | .mp id => match f id with | some j => .mp j | none => .undef
  | .it id => match f id with | some j => .it j | none => .undef
  | .agg cs => .agg (renL f cs)
  | .tuple cs => .tuple (renL f cs)
  | .fn g cs => .fn g (renL f cs)
  | .undef => .undef
def renL (f : Nat → Option Nat) : List TV → List TV
  | [] => []
  | v :: vs => ren f v :: renL f vs
end
def renOb (f : Nat → Option Nat) : Ob → Ob
  | .box cs => .box (renL f cs)
  | o => o

/-- Which ids are reached, in which order. -/
def visit (ob : List Ob) : Nat → List Nat → List TV → List Nat
  | 0, L, _ => L
  | _, L, [] => L
  | n + 1, L, v :: r =>
    match v with
    | .ref id _ | .eref id _ _ | .ow id | .sl id _ _ _ | .mp id | .it id =>
      cond (L.contains id) (visit ob n L r)
        (match ob[id]? with
        | some (.box cs) => visit ob n (L ++ [id]) (cs ++ r)
        | some _ => visit ob n (L ++ [id]) r
        | none => visit ob n L r)
    | .agg cs | .tuple cs | .fn _ cs => visit ob n L (cs ++ r)
    | _ => visit ob n L r

def gc (L : List Nat) (s : St) : St :=
  { tm := renL (pos L) s.tm
    ob := L.map fun id => match s.ob[id]? with | some o => renOb (pos L) o | none => .dead
    roots := renL (pos L) s.roots }

/-- What a loop's head keeps: live slots; of these slices that become rows of the call's own, or trees; parts of variables that do. -/
structure LC where
  keep : List Nat
  ow : List Nat
  dt : List Nat
  cells : List (Nat × Nat)
  fz : List Nat := []

def nilOw (s : St) (i : Nat) : St :=
  match s.tm[i]? with
  | some (.nil sz) => { s with tm := s.tm.set i (.ow s.ob.length), ob := s.ob ++ [.row [] sz] }
  | _ => s
def nilDt (s : St) (i : Nat) : St :=
  match s.tm[i]? with
  | some (.nil _) => { s with tm := s.tm.set i (.val (.fs [])) }
  | _ => s
/-- What leads to memory that was given away is a tree from now on. -/
def nrmTm (s : St) (i : Nat) : St :=
  match s.tm[i]? with
  | some v => { s with tm := s.tm.set i (nrm (fun i => s.ob[i]?) v) }
  | none => s
def nilCell (s : St) (x : Nat × Nat) : St :=
  match s.tm[x.1]? with
  | some (.ref id _) =>
    match s.ob[id]? with
    | some (.box cs) =>
      match cs[x.2]? with
      | some (.nil sz) => { s with ob := s.ob.set id (.box (cs.set x.2 (.ow s.ob.length))) ++ [.row [] sz] }
      | _ => s
    | _ => s
  | _ => s
def keepTm (keep : List Nat) : Nat → List TV → List TV
  | _, [] => []
  | i, v :: vs => cond (keep.contains i) v .undef :: keepTm keep (i + 1) vs

def gcIf (L : List Nat) (s : St) : St := cond (noDup L && L.all fun i => decide (i < s.ob.length)) (gc L s) s
def gcAll (s : St) : St := gcIf (visit s.ob 1000 [] (s.roots ++ s.tm)) s
def normS (c : LC) (s : St) : St := gcAll (c.cells.foldl nilCell (c.dt.foldl nilDt (c.ow.foldl nilOw (c.fz.foldl nrmTm { s with tm := keepTm c.keep 0 s.tm }))))

def keyOf : Code → Nat
  | .region id _ _ => id
  | .seq a _ => keyOf a
  | .block _ c => keyOf c
  | .loop c => keyOf c
  | _ => 0
def lcOf : List (Nat × LC) → Nat → LC
  | [], _ => ⟨[], [], [], [], []⟩
  | (i, c) :: l, k => if i = k then c else lcOf l k
/-- Behind a loop other slots live than ahead of its rounds: by where it is left for. -/
def exKey (key : Nat) : Ex → Nat
  | .normal => key
  | .exit i => 1000000 + 1000 * key + i
  | .ret => 2000000 + key
/-- Code that stands behind other code: by the first region in it. -/
def jkey : Code → Nat
  | .region id _ _ => id + 1
  | .seq a b => match jkey a with | 0 => jkey b | n + 1 => n + 1
  | .cond _ a b => match jkey a with | 0 => jkey b | n + 1 => n + 1
  | .block _ c => jkey c
  | .loop c => jkey c
  | _ => 0
def jxKey (key : Nat) : Option Ex → Nat
  | none => 4000000 + key
  | some .normal => 5000000 + key
  | some .ret => 6000000 + key
  | some (.exit i) => 100000000 + 10000 * key + i
def normJ (cfg : List (Nat × LC)) (c : Code) (e : Option Ex) (s : St) : St := normS (lcOf cfg (jxKey (jkey c) e)) s
def normBy (cfg : List (Nat × LC)) (c : Code) (e : Ex) (s : St) : St := normS (lcOf cfg (exKey (keyOf c) e)) s

section
variable {G : Nat → Option (List PV)} {us0 : Rts} {w : World} {S : Nat → Prop} {π : Nat → Option Pl} {a : Act}

theorem pos_get : ∀ {L : List Nat} {id j : Nat}, pos L id = some j → L[j]? = some id
  | [], _, _, h => by simp [pos] at h
  | b :: l, id, j, h => by
    simp only [pos] at h
    split at h
    · rename_i e; cases h; simp [e]
    · split at h
      · rename_i j' hj; cases h; simpa using pos_get hj
      · cases h

mutual
theorem ren_rel {π' : Nat → Option Pl} {f : Nat → Option Nat} (hf : ∀ id j, f id = some j → π' j = π id) : ∀ (v : TV) (u : Value), relTV w S π v u → relTV w S π' (ren f v) u
  | .val p, u, h => by simp only [relTV, ren] at h ⊢; exact h
  | .nil sz, u, h => by simp only [relTV, ren] at h ⊢; exact h
  | .vc es, u, h => by simp only [relTV, ren] at h ⊢; exact h
  | .ref id off, u, h => by
    simp only [ren]
    cases hj : f id with
    | none => simp only [relTV]
    | some j => simp only [relTV, hf id j hj] at h ⊢; exact h
  | .eref id i m, u, h => by
    simp only [ren]
    cases hj : f id with
    | none => simp only [relTV]
    | some j => simp only [relTV, hf id j hj] at h ⊢; exact h
  | .ow id, u, h => by
    simp only [ren]
    cases hj : f id with
    | none => simp only [relTV]
    | some j => simp only [relTV, hf id j hj] at h ⊢; exact h
  | .sl id off len cp, u, h => by
    simp only [ren]
    cases hj : f id with
    | none => simp only [relTV]
    | some j => simp only [relTV, hf id j hj] at h ⊢; exact h
  | .mp id, u, h => by
    simp only [ren]
    cases hj : f id with
    | none => simp only [relTV]
    | some j => simp only [relTV, hf id j hj] at h ⊢; exact h
  | .it id, u, h => by
    simp only [ren]
    cases hj : f id with
    | none => simp only [relTV]
    | some j => simp only [relTV, hf id j hj] at h ⊢; exact h
  | .agg cs, u, h => by
    simp only [relTV, ren] at h ⊢
    obtain ⟨us, h1, h2, h3⟩ := h
    exact ⟨us, h1, h2, ren_relL hf cs _ h3⟩
  | .tuple cs, u, h => by
    simp only [relTV, ren] at h ⊢
    obtain ⟨us, h1, h3⟩ := h
    exact ⟨us, h1, ren_relL hf cs _ h3⟩
  | .fn g cs, u, h => by
    simp only [relTV, ren] at h ⊢
    obtain ⟨us, h1, h3⟩ := h
    exact ⟨us, h1, ren_relL hf cs _ h3⟩
  | .undef, u, h => by simp only [relTV, ren]
theorem ren_relL {π' : Nat → Option Pl} {f : Nat → Option Nat} (hf : ∀ id j, f id = some j → π' j = π id) : ∀ (vs : List TV) (us : List Value), relTVs w S π vs us → relTVs w S π' (renL f vs) us
  | [], us, h => by simp only [relTVs, renL] at h ⊢; exact h
  | v :: vs, us, h => by
    simp only [relTVs, renL] at h ⊢
    obtain ⟨u, us', h1, h2, h3⟩ := h
    exact ⟨u, us', h1, ren_rel hf v u h2, ren_relL hf vs us' h3⟩
end

theorem renL_get {f : Nat → Option Nat} : ∀ {vs : List TV} {i : Nat}, (renL f vs)[i]? = (vs[i]?).map (ren f)
  | [], i => by simp [renL]
  | v :: vs, i => by cases i <;> simp [renL, renL_get]

theorem ren_ow {f : Nat → Option Nat} {v : TV} {j : Nat} (h : ren f v = .ow j) : ∃ id, v = .ow id ∧ f id = some j := by
  cases v <;> simp only [ren, reduceCtorEq] at h
  case ow id => split at h <;> cases h; exact ⟨id, rfl, by assumption⟩
  all_goals (split at h <;> cases h)

/-- Made even, a state is related to the same memory. -/
structure Even (G : Nat → Option (List PV)) (us0 : Rts) (w : World) (S : Nat → Prop) (π : Nat → Option Pl) (a : Act) (s s' : St) : Prop where
  ok : ∃ π', Now G us0 w S π' a s' ∧ ∀ b, s'.own π' b → s.own π b

theorem Even.trans {s s1 s2 : St} (h : Even G us0 w S π a s s1) (k : ∀ π', Now G us0 w S π' a s1 → Even G us0 w S π' a s1 s2) : Even G us0 w S π a s s2 := by
  obtain ⟨π1, h1, h2⟩ := h.ok
  obtain ⟨π2, h3, h4⟩ := (k π1 h1).ok
  exact ⟨π2, h3, fun b hb => h2 b (h4 b hb)⟩

theorem gc_even {s : St} (hn : Now G us0 w S π a s) {L : List Nat} (hnd : L.Nodup) (hlt : ∀ i ∈ L, i < s.ob.length) : Even G us0 w S π a s (gc L s) := by
  let π' : Nat → Option Pl := fun j => match L[j]? with | some id => π id | none => none
  have hf : ∀ id j, pos L id = some j → π' j = π id := by
    intro id j h
    simp only [π', pos_get h]
  have hlook : ∀ (j : Nat) (o : Ob), (gc L s).ob[j]? = some o → ∃ id o', L[j]? = some id ∧ s.ob[id]? = some o' ∧ o = renOb (pos L) o' := by
    intro j o h
    simp only [gc, List.getElem?_map] at h
    cases hj : L[j]? with
    | none => rw [hj] at h; cases h
    | some id =>
      rw [hj] at h
      simp only [Option.map_some, Option.some.injEq] at h
      have := hlt id (List.mem_of_getElem? hj)
      rw [List.getElem?_eq_getElem this] at h
      exact ⟨id, _, rfl, List.getElem?_eq_getElem this, h.symm⟩
  have hlive : ∀ o : Ob, (renOb (pos L) o).live = o.live := by intro o; cases o <;> rfl
  have hpi : ∀ (j id : Nat), L[j]? = some id → π' j = π id := fun j id h => by simp only [π', h]
  have hown : ∀ b, (gc L s).own π' b → s.own π b := by
    rintro b ⟨j, o, pl, h1, h2, h3, h4⟩
    obtain ⟨id, o', k1, k2, rfl⟩ := hlook j o h1
    rw [hlive] at h2
    rw [hpi j id k1] at h3
    exact ⟨id, o', pl, k2, h2, h3, h4⟩
  refine ⟨π', ⟨hn.df, ?_, ?_, ⟨?_, ?_, ?_, hn.ob.st⟩, ?_, ?_, ?_, hn.go⟩, hown⟩
  · have : ∀ vs : List TV, (renL (pos L) vs).length = vs.length := by
      intro vs
      induction vs with
      | nil => rfl
      | cons v vs ih => simp [renL, ih]
    simp only [gc, this]
    exact hn.len
  · intro i v hv
    simp only [gc, renL_get] at hv
    cases hq : s.tm[i]? with
    | none => rw [hq] at hv; cases hv
    | some v0 =>
      rw [hq] at hv
      simp only [Option.map_some, Option.some.injEq] at hv
      subst hv
      exact ren_rel hf v0 _ (hn.tm i v0 hq)
  · intro j o h
    obtain ⟨id, o', k1, k2, rfl⟩ := hlook j o h
    obtain ⟨pl, hp, hk⟩ := hn.ob.ok id o' k2
    refine ⟨pl, by rw [hpi j id k1]; exact hp, ?_⟩
    cases o' with
    | box cs =>
      cases pl with
      | nil => simp only [obOk] at hk
      | «at» b s0 c z l =>
        simp only [renOb, obOk] at hk ⊢
        obtain ⟨h1, C, t, fr, h2, h3, h4, h5⟩ := hk
        exact ⟨h1, C, t, fr, h2, h3, h4, ren_relL hf _ _ h5⟩
    | fro p => cases pl <;> cases p <;> simp only [renOb, obOk] at hk ⊢ <;> exact hk
    | _ => cases pl <;> simp only [renOb, obOk] at hk ⊢ <;> exact hk
  · intro i j oi oj pi pj b h1 h2 h3 h4 h5 h6 h7 h8
    obtain ⟨id, o', k1, k2, rfl⟩ := hlook i oi h1
    obtain ⟨id', o'', q1, q2, rfl⟩ := hlook j oj h2
    rw [hlive] at h3 h4
    rw [hpi i id k1] at h5
    rw [hpi j id' q1] at h6
    have := hn.ob.apart id id' o' o'' pi pj b k2 q2 h3 h4 h5 h6 h7 h8
    subst this
    obtain ⟨hi, e1⟩ := List.getElem?_eq_some_iff.1 k1
    obtain ⟨hj, e2⟩ := List.getElem?_eq_some_iff.1 q1
    exact (List.getElem_inj hnd).1 (e1.trans e2.symm)
  · intro b hb
    exact hn.ob.out b (hown b hb)
  · intro id hid
    simp only [π'] at hid
    cases hj : L[id]? with
    | none => rw [hj] at hid; exact absurd rfl hid
    | some x =>
      have := (List.getElem?_eq_some_iff.1 hj).1
      simpa [gc] using this
  · exact ren_relL hf _ _ hn.roots
  · intro i id hi
    simp only [gc, renL_get] at hi
    cases hq : s.roots[i]? with
    | none => rw [hq] at hi; cases hi
    | some v0 =>
      rw [hq] at hi
      simp only [Option.map_some, Option.some.injEq] at hi
      obtain ⟨id0, rfl, hj⟩ := ren_ow hi
      rw [hf id0 id hj]
      exact hn.places i id0 hq

/-- A new row that has no memory at all. -/
theorem nil_new {s : St} (hn : Now G us0 w S π a s) (sz : Nat) : ∃ π', ObsOk w S π' (fun i => (s.ob ++ [Ob.row [] sz])[i]?) ∧ Ext π π' ∧ (∀ id, π' id ≠ none → id < s.ob.length + 1) ∧ π' s.ob.length = some .nil ∧ ∀ b, owned (fun i => (s.ob ++ [Ob.row [] sz])[i]?) π' b → s.own π b := by
  obtain ⟨π', g1, g2, g3, g4, g5⟩ := obs_adopt (nx := s.ob.length) (ob := .row [] sz) (pl := .nil) hn.ob (hn.free 1) (fun b hb => by cases hb) (fun _ _ => by simp [obOk])
  have e : upd (fun i => s.ob[i]?) [] s.ob.length [Ob.row [] sz] = fun i => (s.ob ++ [Ob.row [] sz])[i]? := by
    funext i
    simp only [upd, upLast, List.length_singleton, List.getElem?_append]
    by_cases h : i < s.ob.length
    · rw [if_neg (by omega), if_pos h]
    · rw [if_neg h]
      by_cases h2 : i < s.ob.length + 1
      · rw [if_pos (by omega)]
      · rw [if_neg (by omega), List.getElem?_eq_none (by omega), List.getElem?_eq_none (by simp; omega)]
  rw [e] at g1 g5
  refine ⟨π', g1, g2, fun id hid => ?_, g4, fun b hb => (g5 b hb).elim id (fun h => by cases h)⟩
  rcases g3 id hid with h | h
  · have := hn.pl id h; omega
  · omega

theorem nilOw_even {s : St} (hn : Now G us0 w S π a s) (i : Nat) : Even G us0 w S π a s (nilOw s i) := by
  unfold nilOw
  split
  · rename_i sz hi
    obtain ⟨π', g1, g2, g3, g4, g5⟩ := nil_new hn sz
    have hk : Keep w S w S := keep_sub fun _ h => h
    refine ⟨π', ⟨hn.df, by simpa using hn.len, ?_, g1, by simpa using g3, relTVs_keep hk g2 _ _ hn.roots, ?_, hn.go⟩, g5⟩
    · intro j v hv
      simp only [List.getElem?_set] at hv
      by_cases e : i = j
      · subst e
        rw [if_pos rfl] at hv
        split at hv
        · cases hv
          have := hn.tm i _ hi
          simp only [relTV] at this ⊢
          exact .inl ⟨g4, this⟩
        · cases hv
      · rw [if_neg e] at hv
        exact relTV_keep hk g2 _ _ (hn.tm j v hv)
    · intro j id hj
      obtain ⟨h1, h2⟩ := hn.places j id hj
      cases hp : π id with
      | none => exact absurd hp h1
      | some q => rw [g2 _ _ hp]; exact ⟨by simp, by rw [h2, hp]⟩
  · exact ⟨π, hn, fun _ h => h⟩

theorem nilDt_even {s : St} (hn : Now G us0 w S π a s) (i : Nat) : Even G us0 w S π a s (nilDt s i) := by
  unfold nilDt
  split
  · rename_i sz hi
    refine ⟨π, ⟨hn.df, by simpa using hn.len, ?_, hn.ob, hn.pl, hn.roots, hn.places, hn.go⟩, fun _ h => h⟩
    intro j v hv
    simp only [List.getElem?_set] at hv
    by_cases e : i = j
    · subst e
      rw [if_pos rfl] at hv
      split at hv
      · cases hv
        have := hn.tm i _ hi
        simp only [relTV] at this
        simp only [relTV, rel]
        exact .inl ⟨⟨_, this⟩, trivial⟩
      · cases hv
    · rw [if_neg e] at hv
      exact hn.tm j v hv
  · exact ⟨π, hn, fun _ h => h⟩

theorem nrmTm_even {s : St} (hn : Now G us0 w S π a s) (i : Nat) : Even G us0 w S π a s (nrmTm s i) := by
  unfold nrmTm
  split
  · rename_i v0 hi
    refine ⟨π, ⟨hn.df, by simpa using hn.len, ?_, hn.ob, hn.pl, hn.roots, hn.places, hn.go⟩, fun _ h => h⟩
    intro j v hv
    simp only [List.getElem?_set] at hv
    by_cases e : i = j
    · subst e
      rw [if_pos rfl] at hv
      split at hv
      · cases hv
        exact nrm_rel hn.ob (hn.tm i _ hi)
      · cases hv
    · rw [if_neg e] at hv
      exact hn.tm j v hv
  · exact ⟨π, hn, fun _ h => h⟩

theorem nilCell_even {s : St} (hn : Now G us0 w S π a s) (x : Nat × Nat) : Even G us0 w S π a s (nilCell s x) := by
  unfold nilCell
  split
  · rename_i id off hi
    split
    · rename_i cs hl
      split
      · rename_i sz hc
        obtain ⟨π', g1, g2, g3, g4, g5⟩ := nil_new hn sz
        have hk : Keep w S w S := keep_sub fun _ h => h
        have hlt : id < s.ob.length := (List.getElem?_eq_some_iff.1 hl).1
        have e : (fun j => (s.ob.set id (.box (cs.set x.2 (.ow s.ob.length))) ++ [Ob.row [] sz])[j]?) = upd (fun j => (s.ob ++ [Ob.row [] sz])[j]?) [(id, .box (cs.set x.2 (.ow s.ob.length)))] 0 [] := by
          funext j
          simp only [upd, upLast, List.length_nil, Nat.add_zero, List.getElem?_append, List.length_set, List.getElem?_set]
          by_cases hj : id = j
          · subst hj; simp [hlt]
          · simp [hj]
        have hl' : (fun j => (s.ob ++ [Ob.row [] sz])[j]?) id = some (.box cs) := by simp only [List.getElem?_append, hlt, if_true]; exact hl
        obtain ⟨pl, hp, hk2⟩ := g1.ok id _ hl'
        cases pl with
        | nil => simp only [obOk] at hk2
        | «at» b s0 c z l =>
          simp only [obOk] at hk2
          obtain ⟨h1, C, t, fr, h2, h3, h4, h5⟩ := hk2
          have hcl : x.2 < cs.length := (List.getElem?_eq_some_iff.1 hc).1
          obtain ⟨y, hy, hyr⟩ := relTVs_get h5 hc
          simp only [relTV] at hyr
          subst hyr
          have hset : C.toList.set x.2 (.slice none 0 0) = C.toList := by
            obtain ⟨hh, he⟩ := List.getElem?_eq_some_iff.1 hy
            rw [← he]
            exact List.set_getElem_self hh
          have hrel : relTVs w S π' (cs.set x.2 (.ow s.ob.length)) C.toList := by
            rw [← hset]
            exact relTVs_set h5 x.2 (by simp only [relTV]; exact .inl ⟨g4, trivial⟩)
          have hob : ObsOk w S π' (upd (fun j => (s.ob ++ [Ob.row [] sz])[j]?) [(id, .box (cs.set x.2 (.ow s.ob.length)))] 0 []) ∧ ∀ b, owned (upd (fun j => (s.ob ++ [Ob.row [] sz])[j]?) [(id, .box (cs.set x.2 (.ow s.ob.length)))] 0 []) π' b → owned (fun j => (s.ob ++ [Ob.row [] sz])[j]?) π' b := by
            have hu : Upd w b (.cells C t fr) w := ⟨rfl, rfl, rfl, rfl, fun _ _ => rfl, h2⟩
            obtain ⟨k1, k2⟩ := obs_turn (nx := 0) (ob' := .box (cs.set x.2 (.ow s.ob.length))) g1 hl' rfl rfl hp hu (fun _ => by simp only [obOk]; exact ⟨h1, C, t, fr, h2, h3, h4, hrel⟩)
            refine ⟨k1, fun b' hb' => ?_⟩
            rcases k2.own b' hb' with h | h
            · exact h
            · have := (k1.out b' hb').2; omega
          rw [← e] at hob
          refine ⟨π', ⟨hn.df, hn.len, fun j v hv => relTV_keep hk g2 _ _ (hn.tm j v hv), hob.1, by simpa using g3, relTVs_keep hk g2 _ _ hn.roots, ?_, hn.go⟩, fun b' hb' => g5 b' (hob.2 b' hb')⟩
          intro j id' hj
          obtain ⟨q1, q2⟩ := hn.places j id' hj
          cases hp' : π id' with
          | none => exact absurd hp' q1
          | some q => rw [g2 _ _ hp']; exact ⟨by simp, by rw [q2, hp']⟩
      · exact ⟨π, hn, fun _ h => h⟩
    · exact ⟨π, hn, fun _ h => h⟩
  · exact ⟨π, hn, fun _ h => h⟩

theorem keepTm_get {keep : List Nat} : ∀ {vs : List TV} {n i : Nat} {v : TV}, (keepTm keep n vs)[i]? = some v → v = .undef ∨ vs[i]? = some v
  | [], n, i, v, h => by simp [keepTm] at h
  | x :: vs, n, 0, v, h => by
    simp only [keepTm, List.getElem?_cons_zero, Option.some.injEq] at h
    cases hc : keep.contains n <;> rw [hc] at h
    · exact .inl h.symm
    · exact .inr (by simpa using h)
  | x :: vs, n, i + 1, v, h => by
    simp only [keepTm, List.getElem?_cons_succ] at h ⊢
    exact keepTm_get h
theorem keepTm_length {keep : List Nat} : ∀ {vs : List TV} {n : Nat}, (keepTm keep n vs).length = vs.length
  | [], n => rfl
  | x :: vs, n => by simp [keepTm, keepTm_length]

theorem keep_even {s : St} (hn : Now G us0 w S π a s) (keep : List Nat) : Even G us0 w S π a s { s with tm := keepTm keep 0 s.tm } := by
  refine ⟨π, ⟨hn.df, by simpa [keepTm_length] using hn.len, ?_, hn.ob, hn.pl, hn.roots, hn.places, hn.go⟩, fun _ h => h⟩
  intro i v hv
  rcases keepTm_get hv with rfl | h
  · simp only [relTV]
  · exact hn.tm i v h

theorem fold_even {α : Type} {f : St → α → St} (hf : ∀ (s : St) (x : α) (π : Nat → Option Pl), Now G us0 w S π a s → Even G us0 w S π a s (f s x)) : ∀ (l : List α) (s : St) (π : Nat → Option Pl), Now G us0 w S π a s → Even G us0 w S π a s (l.foldl f s)
  | [], s, π, hn => ⟨π, hn, fun _ h => h⟩
  | x :: l, s, π, hn => (hf s x π hn).trans fun π' hn' => fold_even hf l (f s x) π' hn'

theorem gcIf_even {s : St} (hn : Now G us0 w S π a s) (L : List Nat) : Even G us0 w S π a s (gcIf L s) := by
  unfold gcIf
  cases hc : (noDup L && L.all fun i => decide (i < s.ob.length)) with
  | false => simp only [cond_false]; exact ⟨π, hn, fun _ h => h⟩
  | true =>
    simp only [cond_true]
    simp only [Bool.and_eq_true, List.all_eq_true, decide_eq_true_eq] at hc
    exact gc_even hn (noDup_ok hc.1) hc.2

theorem normS_even {s : St} (hn : Now G us0 w S π a s) (c : LC) : Even G us0 w S π a s (normS c s) := by
  unfold normS
  refine (keep_even hn c.keep).trans fun π0 h0 => ?_
  refine (fold_even (fun s x π h => nrmTm_even h x) c.fz _ π0 h0).trans fun π1 h1 => ?_
  refine (fold_even (fun s x π h => nilOw_even h x) c.ow _ π1 h1).trans fun π2 h2 => ?_
  refine (fold_even (fun s x π h => nilDt_even h x) c.dt _ π2 h2).trans fun π3 h3 => ?_
  refine (fold_even (fun s x π h => nilCell_even h x) c.cells _ π3 h3).trans fun π4 h4 => ?_
  exact gcIf_even h4 _

theorem normBy_ok (cfg : List (Nat × LC)) : NormOk G (normBy cfg) := fun c e us0 w S π a s hn => (normS_even hn (lcOf cfg (exKey (keyOf c) e))).ok
theorem normJ_ok (cfg : List (Nat × LC)) : NormOk G (normJ cfg) := fun c e us0 w S π a s hn => (normS_even hn (lcOf cfg (jxKey (jkey c) e))).ok

end
end Go.Proofs.YtpaifgipdhgfkaaGreatDoorV

/- The reading machine: what holds of a law's function is what its row asks. -/
namespace Go.Proofs.YtpaifgipdhgfkaaGreatDoorV
open Go Go.RowKit Go.ChangeShapes Go.WideShapes Go.ChangeAt

section
variable {H : Type} {enc : TypeId × Value → H} {P : Program}

theorem trodAll_stays (hl : laidOutB P = true) {W W' : World} (hb : Below W.heap.size W W') {sp : Nat → Bool} : ∀ {ts : List TypeId} {vs : List Value} {ds : List (DataW H)} {ps : List MemPlace}, ts.all (fun t => P.readableRec t && decide (t < P.types.size)) = true →
    DataW.TrodAll enc P W 0 (fun _ => true) true ts vs ds ps → (∀ x ∈ ps, x.block < W.heap.size) → (∀ x ∈ ps, sp x.block = true) → DataW.TrodAll enc P W' 0 sp true ts vs ds ps
  | [], vs, ds, ps, _, h, _, _ => by
    obtain ⟨rfl, rfl, rfl⟩ := trodAll_nil h
    exact trodAll_mk0
  | t :: ts, vs, ds, ps, hr, h, hlt, hsp => by
    simp only [List.all_cons, Bool.and_eq_true, decide_eq_true_eq] at hr
    obtain ⟨v, vs', d, ds', p, q, rfl, rfl, rfl, h1, h2⟩ := trodAll_cons h
    refine trodAll_cons_mk (WideElems.Trod_stays hl hr.1.1 hr.1.2 h1 (fun x hx => hb.same (hlt x (by simp [hx]))) (fun x hx => hsp x (by simp [hx]))) (trodAll_stays hl hb ?_ h2 (fun x hx => hlt x (by simp [hx])) (fun x hx => hsp x (by simp [hx])))
    simpa using hr.2

/-- What a law's row asks of its end. -/
theorem law_post {fn : Func} {s : ChangeSpec} {W W' : World} {args : Array Value} {ds gs : List (DataW H)} {before : List MemPlace} (hl : laidOutB P = true) (hread : fn.params.toList.all (fun t => P.readableRec t && decide (t < P.types.size)) = true)
    (hvars : s.vars = []) {t : TypeId} (hres : fn.resultTypes = #[t]) (hbool : P.underlying t = some .bool) (hfn : s.fn H (ds ++ gs) = { results := [.lit (.bool true)], args := ds })
    (hW : DataW.Whole enc P fn.params.toList s.vars false W args.toList ds gs before) (hb : Below W.heap.size W W') : s.post enc P fn false true false false W args (.bool true) W' := by
  have hlt := hW.lt
  have hW' := hW
  obtain ⟨p, q, hA, hV, rfl, _, _⟩ := hW'
  rw [hvars] at hV
  obtain ⟨rfl, rfl⟩ := trodVars_none hV
  refine ⟨ds, [], p ++ [], [], p, [], hW, ?_, ?_, ?_, World.keptBut_mono (fun x hx => ⟨hx, .inr (.inl (by simpa using hx))⟩) (hb.frame (fun x => x ∈ p ++ [])), fun h => by cases h⟩
  · rw [hfn, hres]
    exact trodAll_mk1 (shut_bool hbool true)
  · rw [hfn]
    exact trodAll_stays hl hb hread hA (fun x hx => hlt x (by simpa using hx)) (fun x hx => by simpa using hlt x (by simpa using hx))
  · rw [hfn, hvars]
    exact hV

theorem args_data {w : World} {S : Nat → Prop} : ∀ {n : Nat} {ps : List PV} {us : List Value}, ps.length = n → relL w S ps us → argsOk w S (List.replicate n none) ps us []
  | 0, ps, us, hn, h => by
    have : ps = [] := List.eq_nil_of_length_eq_zero hn
    subst this
    simp only [relL] at h
    simp [argsOk, h]
  | n + 1, [], us, hn, h => by simp at hn
  | n + 1, p :: ps, us, hn, h => by
    simp only [relL] at h
    obtain ⟨u, us', rfl, h1, h2⟩ := h
    simp only [List.replicate_succ, argsOk]
    exact ⟨p, ps, u, us', rfl, rfl, h1, args_data (by simpa using hn) h2⟩

/-- A law whose function comes to true answers its row. -/
theorem law_calls {f : FuncId} {fn : Func} {c : Ctr} {s : ChangeSpec} {W : World} {args : Array Value} {ds gs : List (DataW H)} {before : List MemPlace} {G : Nat → Option (List PV)} (hH : Holds P G f c) {n : Nat} (hm : c.modes = List.replicate n none) (hd : c.res = .d)
    (hf : P.funcs[f]? = some fn) (hbody : fn.body.isSome = true) (hname : (fn.name == "runtime.NumGoroutine") = false) (hl : laidOutB P = true) (hread : fn.params.toList.all (fun t => P.readableRec t && decide (t < P.types.size)) = true)
    (hvars : s.vars = []) {t : TypeId} (hres : fn.resultTypes = #[t]) (hbool : P.underlying t = some .bool) (hfn : s.fn H (ds ++ gs) = { results := [.lit (.bool true)], args := ds })
    (hW : DataW.Whole enc P fn.params.toList s.vars false W args.toList ds gs before) (hgo : GOk G W (fun b => b < W.heap.size)) {ps : List PV} (hn : ps.length = n) (hr : relL W (fun b => b < W.heap.size) ps args.toList) (hF : c.F ps = some (.bool true, [])) :
    Calls P f args W fun e W' => ∃ v, e = .returned v ∧ s.post enc P fn false true false false W args v W' := by
  have happ := hH W (fun b => b < W.heap.size) ps args.toList [] (.bool true) [] (by rw [hm]; exact args_data hn hr) (by simp) (by simp) (fun b hb => hb) hgo hF
  have hcall : (callFunc f args.toList.toArray).run P W = .ok (.enter f args) W := by
    simp only [beq_eq_false_iff_ne] at hname
    obtain ⟨b, hb⟩ := Option.isSome_iff_exists.1 hbody
    simp [callFunc, hf, hname, hb]
  unfold Applies at happ
  rw [hcall] at happ
  simp only at happ
  refine happ.mono fun e W' ⟨v, he, S', g, gps, hB⟩ => ⟨v, he, ?_⟩
  have hrv := (hB.res S' (.inl rfl)).1
  rw [hd] at hrv
  simp only [ownS, rel] at hrv
  obtain ⟨_, rfl⟩ := hrv
  exact law_post hl hread hvars hres hbool hfn hW ⟨hB.os, hB.tape, hB.output, hB.size, fun k hk => hB.same k hk (by simp)⟩

end
end Go.Proofs.YtpaifgipdhgfkaaGreatDoorV

/- The reading machine: the table of types is the program's. -/
namespace Go.Proofs.YtpaifgipdhgfkaaGreatDoorV
open Go

def zOkB : TV → Value → Bool
  | .val (.bool b), .bool b' => b == b'
  | .val (.int k n), .int k' n' => decide (k = k') && n == n'
  | .val (.str s), .string s' => s.data.toList == s'.data.toList
  | .nil _, .slice none 0 0 => true
  | .val .pnil, .pointer none => true
  | .val .mnil, .map none => true
  | .val .nilif, .nilIface => true
  | .val .fnil, .nilFunc => true
  | _, _ => false
def zsOkB : List TV → List Value → Bool
  | [], [] => true
  | z :: zs, u :: us => zOkB z u && zsOkB zs us
  | _, _ => false

def descOkB (P : Program) (t : TypeId) : TD → Bool
  | .bool => match P.underlying t with | some .bool => true | _ => false
  | .int k => match P.underlying t with | some (.int k') => decide (k' = k) | _ => false
  | .string => match P.underlying t with | some .string => true | _ => false
  | .slice e => match P.underlying t with | some (.slice e') => e' == e | _ => false
  | .array n e => match P.underlying t with | some (.array n' e') => n' == n && e' == e | _ => false
  | .struct fs => match P.underlying t with
    | some (.struct F) => F.toList.map (fun f => (f.type, f.offset)) == fs && F.toList.all (fun f => f.name != "_") && !P.stoodInHeld t && !P.eqGuardType P.depth t
    | _ => false
  | .map k e => match P.underlying t with | some (.map k' e') => k' == k && e' == e | _ => false
  | .ptr e => match P.underlying t with | some (.pointer e') => e' == e | _ => false
  | .func => match P.underlying t with | some (.func _ _ _) => true | _ => false
  | .iface => match P.underlying t with | some (.interface _) => true | _ => false
  | .other => match P.underlying t with | some (.struct _) => false | some (.array _ _) => false | some _ => true | none => false

def tyOkB (P : Program) (t : TypeId) (i : TI) : Bool :=
  (match P.info? t with
  | some f => f.size == i.size && f.bytes == i.bytes &&
    (match f.zero with
    | some z => z.cells.size == i.size && zsOkB i.zero z.cells.toList && (match z with | .agg _ => i.desc.isAgg | _ => !i.desc.isAgg && z.oneCell')
    | none => false)
  | none => false) &&
  decide (0 < i.size) && decide (0 < i.bytes) && descOkB P t i.desc && (i.desc.isAgg || i.size == 1) && (!i.desc.isAgg || !P.eqGuardType P.depth t)

theorem zOkB_ok {z : TV} {u : Value} (h : zOkB z u = true) : zOk z u := by
  unfold zOkB at h
  split at h <;> simp only [zOk, Bool.false_eq_true, Bool.and_eq_true, decide_eq_true_eq, beq_iff_eq] at h ⊢
  · rw [h]
  · rw [h.1, h.2]
  · rename_i s s'
    have : s = s' := by cases s; cases s'; simp only [ByteArray.mk.injEq]; exact (Array.toList_inj.1 h)
    rw [this]
theorem zsOkB_ok : ∀ {zs : List TV} {us : List Value}, zsOkB zs us = true → zsOk zs us
  | [], [], _ => by simp [zsOk]
  | [], _ :: _, h => by simp [zsOkB] at h
  | _ :: _, [], h => by simp [zsOkB] at h
  | z :: zs, u :: us, h => by
    simp only [zsOkB, Bool.and_eq_true] at h
    simp only [zsOk]
    exact ⟨u, us, rfl, zOkB_ok h.1, zsOkB_ok h.2⟩

theorem descOkB_ok {P : Program} {t : TypeId} {d : TD} (h : descOkB P t d = true) : descOk P t d := by
  cases d <;> simp only [descOkB] at h <;> simp only [descOk]
  case struct fs =>
    split at h
    · rename_i F hu
      simp only [Bool.and_eq_true, beq_iff_eq, List.all_eq_true, bne_iff_ne, Bool.not_eq_true'] at h
      exact ⟨F, hu, h.1.1.1, h.1.1.2, h.1.2, h.2⟩
    · cases h
  case func =>
    split at h
    · rename_i a b c hu; exact ⟨a, b, c, hu⟩
    · cases h
  case iface =>
    split at h
    · rename_i ms hu; exact ⟨ms, hu⟩
    · cases h
  case other =>
    split at h
    · cases h
    · cases h
    · rename_i d h1 h2 hu
      exact ⟨d, hu, fun F e => h1 F (by rw [← e]), fun n e hh => h2 n e (by rw [← hh])⟩
    · cases h
  all_goals
    split at h
    · rename_i hu
      first
        | exact hu
        | (simp only [decide_eq_true_eq, beq_iff_eq, Bool.and_eq_true] at h; first | (subst h; exact hu) | (obtain ⟨rfl, rfl⟩ := h; exact hu))
    · cases h

theorem tyOkB_ok {P : Program} {t : TypeId} {i : TI} (h : tyOkB P t i = true) : TyOk P t i := by
  simp only [tyOkB, Bool.and_eq_true, decide_eq_true_eq] at h
  obtain ⟨⟨⟨⟨⟨h1, h2⟩, h3⟩, h4⟩, h5⟩, h6⟩ := h
  refine ⟨?_, h2, h3, descOkB_ok h4, fun hd => ?_, fun hd => ?_⟩
  · split at h1
    · rename_i f hf
      simp only [Bool.and_eq_true, beq_iff_eq] at h1
      obtain ⟨⟨k1, k2⟩, k3⟩ := h1
      split at k3
      · rename_i z hz
        simp only [Bool.and_eq_true, beq_iff_eq] at k3
        obtain ⟨⟨q1, q2⟩, q3⟩ := k3
        refine ⟨f, z, hf, k1, k2, hz, q1, zsOkB_ok q2, fun hd => ?_, fun hd => ?_⟩
        · cases z <;> first | rfl | (simp only [hd, Bool.not_true, Bool.false_and, Bool.false_eq_true] at q3)
        · cases z <;> first | rfl | (simp [hd] at q3; done) | (simp [hd, Value.oneCell'] at q3; done)
      · cases k3
    · cases h1
  · rw [hd] at h5
    simpa using h5
  · rw [hd] at h6
    simpa using h6

theorem tOk_of {P : Program} {T : TypeId → Option TI} {tab : List (Option TI)} (hT : ∀ t, T t = match tab[t]? with | some x => x | none => none) (h : (tab.zipIdx.all fun x => match x.1 with | some i => tyOkB P x.2 i | none => true) = true) : TOk P T := by
  intro t i hi
  rw [hT] at hi
  split at hi
  · rename_i x hx
    subst hi
    simp only [List.all_eq_true] at h
    have hm : (some i, t) ∈ tab.zipIdx := by
      rw [List.mem_iff_getElem?]
      exact ⟨t, by simp [List.getElem?_zipIdx, hx]⟩
    exact tyOkB_ok (h _ hm)
  · cases hi

end Go.Proofs.YtpaifgipdhgfkaaGreatDoorV

/- The reading machine: states by their shape: what stands at their leaves. -/
namespace Go.Proofs.YtpaifgipdhgfkaaGreatDoorV
open Go

inductive Leaf where
  | int (n : Int) | bool (b : Bool) | str (s : ByteArray) | rows (es : List (List PV)) | pv (p : PV) | cells (cs : List PV) | kvs (l : List (PV × PV)) | nat (n : Nat)
  deriving Inhabited

inductive PP where
  | int (k : IntKind) | bool | str | fs | os (sz : Nat) | agg (ps : List PP) | aggx | tuple (ps : List PP) | obj (ps : List PP)
  | rp (off : Nat) | any | pnil | fnil | mnil | undef | fn (g : FuncId) (ps : List PP)

inductive TP where
  | val (p : PP) | nil (sz : Nat) | ref (id off : Nat) | eref (id j : Nat) | ow (id : Nat) | sl (id : Nat) (cp : Bool) | vc | mp (id : Nat) | it (id : Nat)
  | agg (ts : List TP) | tuple (ts : List TP) | fn (g : FuncId) (ts : List TP) | undef

inductive OP where
  | box (ts : List TP) | pbox (p : PP) (n : Nat) | row (sz : Nat) | map | sit | mit | fro (p : PP) | dead

structure SP where
  tm : List TP
  ob : List OP
  roots : List TP

mutual
def matchPV : PP → PV → Option (List Leaf)
  | .int k, .int k' n => cond (decide (k' = k)) (some [.int n]) none
  | .bool, .bool b => some [.bool b]
  | .str, .str s => some [.str s]
  | .fs, .fs es => some [.rows es]
  | .os sz, .os es sz' => cond (sz == sz') (some [.rows es]) none
  | .agg ps, .agg cs => matchPVs ps cs
  | .aggx, .agg cs => some [.cells cs]
  | .tuple ps, .tuple cs => matchPVs ps cs
  | .obj ps, .obj cs => matchPVs ps cs
  | .rp off, .rp cs off' => cond (off == off') (some [.cells cs]) none
  | .any, p => some [.pv p]
  | .pnil, .pnil => some []
  | .fnil, .fnil => some []
  | .mnil, .mnil => some []
  | .undef, .undef => some []
  | .fn g ps, .fn (.func g') cs => cond (g == g') (matchPVs ps cs) none
  | _, _ => none
def matchPVs : List PP → List PV → Option (List Leaf)
  | [], [] => some []
  | p :: ps, c :: cs => match matchPV p c, matchPVs ps cs with | some a, some b => some (a ++ b) | _, _ => none
  | _, _ => none
end

mutual
def buildPV : PP → List Leaf → PV × List Leaf
  | .int k, .int n :: l => (.int k n, l)
  | .bool, .bool b :: l => (.bool b, l)
  | .str, .str s :: l => (.str s, l)
  | .fs, .rows es :: l => (.fs es, l)
  | .os sz, .rows es :: l => (.os es sz, l)
  | .agg ps, l => ((.agg (buildPVs ps l).1), (buildPVs ps l).2)
  | .aggx, .cells cs :: l => (.agg cs, l)
  | .tuple ps, l => ((.tuple (buildPVs ps l).1), (buildPVs ps l).2)
  | .obj ps, l => ((.obj (buildPVs ps l).1), (buildPVs ps l).2)
  | .rp off, .cells cs :: l => (.rp cs off, l)
  | .any, .pv p :: l => (p, l)
  | .pnil, l => (.pnil, l)
  | .fnil, l => (.fnil, l)
  | .mnil, l => (.mnil, l)
  | .undef, l => (.undef, l)
  | .fn g ps, l => ((.fn (.func g) (buildPVs ps l).1), (buildPVs ps l).2)
  | _, l => (.undef, l)
def buildPVs : List PP → List Leaf → List PV × List Leaf
  | [], l => ([], l)
  | p :: ps, l => ((buildPV p l).1 :: (buildPVs ps (buildPV p l).2).1, (buildPVs ps (buildPV p l).2).2)
end

mutual
def matchTV : TP → TV → Option (List Leaf)
  | .val p, .val c => matchPV p c
  | .nil sz, .nil sz' => cond (sz == sz') (some []) none
  | .ref id off, .ref id' off' => cond (id == id' && off == off') (some []) none
  | .eref id j, .eref id' i j' => cond (id == id' && j == j') (some [.nat i]) none
  | .ow id, .ow id' => cond (id == id') (some []) none
  | .sl id cp, .sl id' off len cp' => cond (id == id' && cp == cp') (some [.nat off, .nat len]) none
  | .vc, .vc es => some [.rows es]
  | .mp id, .mp id' => cond (id == id') (some []) none
  | .it id, .it id' => cond (id == id') (some []) none
  | .agg ts, .agg vs => matchTVs ts vs
  | .tuple ts, .tuple vs => matchTVs ts vs
  | .fn g ts, .fn (.func g') vs => cond (g == g') (matchTVs ts vs) none
  | .undef, .undef => some []
  | _, _ => none
def matchTVs : List TP → List TV → Option (List Leaf)
  | [], [] => some []
  | p :: ps, c :: cs => match matchTV p c, matchTVs ps cs with | some a, some b => some (a ++ b) | _, _ => none
  | _, _ => none
end

mutual
def buildTV : TP → List Leaf → TV × List Leaf
  | .val p, l => (.val (buildPV p l).1, (buildPV p l).2)
  | .nil sz, l => (.nil sz, l)
  | .ref id off, l => (.ref id off, l)
  | .eref id j, .nat i :: l => (.eref id i j, l)
  | .ow id, l => (.ow id, l)
  | .sl id cp, .nat off :: .nat len :: l => (.sl id off len cp, l)
  | .vc, .rows es :: l => (.vc es, l)
  | .mp id, l => (.mp id, l)
  | .it id, l => (.it id, l)
  | .agg ts, l => (.agg (buildTVs ts l).1, (buildTVs ts l).2)
  | .tuple ts, l => (.tuple (buildTVs ts l).1, (buildTVs ts l).2)
  | .fn g ts, l => (.fn (.func g) (buildTVs ts l).1, (buildTVs ts l).2)
  | .undef, l => (.undef, l)
  | _, l => (.undef, l)
def buildTVs : List TP → List Leaf → List TV × List Leaf
  | [], l => ([], l)
  | p :: ps, l => ((buildTV p l).1 :: (buildTVs ps (buildTV p l).2).1, (buildTVs ps (buildTV p l).2).2)
end

def matchOb : OP → Ob → Option (List Leaf)
  | .box ts, .box vs => matchTVs ts vs
  | .pbox p n, .pbox c n' => cond (n == n') (matchPV p c) none
  | .row sz, .row es sz' => cond (sz == sz') (some [.rows es]) none
  | .map, .map l => some [.kvs l]
  | .sit, .sit s pos => some [.str s, .nat pos]
  | .mit, .mit l cs => some [.kvs l, .cells cs]
  | .fro p, .fro c => matchPV p c
  | .dead, .dead => some []
  | _, _ => none
def matchObs : List OP → List Ob → Option (List Leaf)
  | [], [] => some []
  | p :: ps, c :: cs => match matchOb p c, matchObs ps cs with | some a, some b => some (a ++ b) | _, _ => none
  | _, _ => none
def buildOb : OP → List Leaf → Ob × List Leaf
  | .box ts, l => (.box (buildTVs ts l).1, (buildTVs ts l).2)
  | .pbox p n, l => (.pbox (buildPV p l).1 n, (buildPV p l).2)
  | .row sz, .rows es :: l => (.row es sz, l)
  | .map, .kvs kv :: l => (.map kv, l)
  | .sit, .str s :: .nat pos :: l => (.sit s pos, l)
  | .mit, .kvs kv :: .cells cs :: l => (.mit kv cs, l)
  | .fro p, l => (.fro (buildPV p l).1, (buildPV p l).2)
  | .dead, l => (.dead, l)
  | _, l => (.dead, l)
def buildObs : List OP → List Leaf → List Ob × List Leaf
  | [], l => ([], l)
  | p :: ps, l => ((buildOb p l).1 :: (buildObs ps (buildOb p l).2).1, (buildObs ps (buildOb p l).2).2)

def matchSt (p : SP) (s : St) : Option (List Leaf) :=
  match matchTVs p.tm s.tm, matchObs p.ob s.ob, matchTVs p.roots s.roots with
  | some a, some b, some c => some (a ++ (b ++ c))
  | _, _, _ => none
def buildSt (p : SP) (l : List Leaf) : St :=
  ⟨(buildTVs p.tm l).1, (buildObs p.ob (buildTVs p.tm l).2).1, (buildTVs p.roots (buildObs p.ob (buildTVs p.tm l).2).2).1⟩

/-- A list that has mostly one thing in it. -/
def sparse {α : Type} (d : α) : List (Nat × α) → Nat → Nat → List α
  | _, _, 0 => []
  | (j, x) :: l, i, n + 1 => cond (i == j) (x :: sparse d l (i + 1) n) (d :: sparse d ((j, x) :: l) (i + 1) n)
  | [], i, n + 1 => d :: sparse d [] (i + 1) n

/-- Loops by shapes: what stands at the leaves of the state ahead of a round tells what the loop comes to. -/
def patL (norm : Code → Ex → St → St) (pat : Nat → Option SP) (L : Nat → Nat → List Leaf → (R : Type) → (Ex → St → Option R) → Option R)
    (nj : Code → Option Ex → St → St) (on : Code → Bool) (patj : Nat → Option SP) (J : Nat → Nat → List Leaf → (R : Type) → (Ex → St → Option R) → Option R) (n : Nat) : Loops where
  lp c s R k :=
    match pat (keyOf c) with
    | some p => match matchSt p (norm c .normal s) with | some ls => L n (keyOf c) ls R k | none => none
    | none => none
  on := on
  jn c s R k :=
    match on c with
    | true =>
      match patj (jkey c) with
      | some p => match matchSt p (nj c none s) with | some ls => J n (jkey c) ls R k | none => none
      | none => none
    | false => none
/-- Which code is told once. -/
def onKeys (ks : List Nat) (c : Code) : Bool := ks.contains (jkey c)

theorem cond_some {α : Type} {b : Bool} {x : Option α} {r : α} (h : cond b x none = some r) : b = true ∧ x = some r := by
  cases b <;> simp_all

mutual
theorem matchPV_ok : ∀ {p : PP} {v : PV} {ls : List Leaf}, matchPV p v = some ls → ∀ l, buildPV p (ls ++ l) = (v, l)
  | p, v, ls, h, l => by
    unfold matchPV at h
    split at h <;> try (first | (obtain ⟨h1, h2⟩ := cond_some h; simp only [decide_eq_true_eq, beq_iff_eq] at h1; subst h1) | skip)
    case h_2 | h_3 | h_4 | h_7 | h_11 | h_12 | h_13 | h_14 | h_15 => cases h; simp [buildPV]
    case h_1 | h_5 | h_10 => cases h2; simp [buildPV]
    case h_6 | h_8 | h_9 => have := matchPVs_ok h l; simp [buildPV, this]
    case h_16 => have := matchPVs_ok h2 l; simp [buildPV, this]
    case h_17 => cases h
theorem matchPVs_ok : ∀ {p : List PP} {v : List PV} {ls : List Leaf}, matchPVs p v = some ls → ∀ l, buildPVs p (ls ++ l) = (v, l)
  | [], [], _, h, l => by cases h; simp [buildPVs]
  | [], _ :: _, _, h, l => by simp [matchPVs] at h
  | _ :: _, [], _, h, l => by simp [matchPVs] at h
  | p :: ps, v :: vs, ls, h, l => by
    simp only [matchPVs] at h
    split at h
    · rename_i a b h1 h2
      cases h
      simp [buildPVs, matchPV_ok h1, matchPVs_ok h2, List.append_assoc]
    · cases h
end

mutual
theorem matchTV_ok : ∀ {p : TP} {v : TV} {ls : List Leaf}, matchTV p v = some ls → ∀ l, buildTV p (ls ++ l) = (v, l)
  | p, v, ls, h, l => by
    unfold matchTV at h
    split at h <;> try (first | (obtain ⟨h1, h2⟩ := cond_some h; simp only [Bool.and_eq_true, beq_iff_eq] at h1) | skip)
    case h_1 => have := matchPV_ok h l; simp [buildTV, this]
    case h_2 => cases h2; subst h1; simp [buildTV]
    case h_3 => cases h2; obtain ⟨rfl, rfl⟩ := h1; simp [buildTV]
    case h_4 => cases h2; obtain ⟨rfl, rfl⟩ := h1; simp [buildTV]
    case h_5 => cases h2; subst h1; simp [buildTV]
    case h_6 => cases h2; obtain ⟨rfl, rfl⟩ := h1; simp [buildTV]
    case h_7 => cases h; simp [buildTV]
    case h_8 => cases h2; subst h1; simp [buildTV]
    case h_9 => cases h2; subst h1; simp [buildTV]
    case h_10 => have := matchTVs_ok h l; simp [buildTV, this]
    case h_11 => have := matchTVs_ok h l; simp [buildTV, this]
    case h_12 => subst h1; have := matchTVs_ok h2 l; simp [buildTV, this]
    case h_13 => cases h; simp [buildTV]
    case h_14 => cases h
theorem matchTVs_ok : ∀ {p : List TP} {v : List TV} {ls : List Leaf}, matchTVs p v = some ls → ∀ l, buildTVs p (ls ++ l) = (v, l)
  | [], [], _, h, l => by cases h; simp [buildTVs]
  | [], _ :: _, _, h, l => by simp [matchTVs] at h
  | _ :: _, [], _, h, l => by simp [matchTVs] at h
  | p :: ps, v :: vs, ls, h, l => by
    simp only [matchTVs] at h
    split at h
    · rename_i a b h1 h2
      cases h
      simp [buildTVs, matchTV_ok h1, matchTVs_ok h2, List.append_assoc]
    · cases h
end

theorem matchOb_ok {p : OP} {v : Ob} {ls : List Leaf} (h : matchOb p v = some ls) (l : List Leaf) : buildOb p (ls ++ l) = (v, l) := by
  unfold matchOb at h
  split at h <;> try (first | (obtain ⟨h1, h2⟩ := cond_some h; simp only [beq_iff_eq] at h1; subst h1) | skip)
  case h_1 => have := matchTVs_ok h l; simp [buildOb, this]
  case h_2 => have := matchPV_ok h2 l; simp [buildOb, this]
  case h_3 => cases h2; simp [buildOb]
  case h_4 => cases h; simp [buildOb]
  case h_5 => cases h; simp [buildOb]
  case h_6 => cases h; simp [buildOb]
  case h_7 => have := matchPV_ok h l; simp [buildOb, this]
  case h_8 => cases h; simp [buildOb]
  case h_9 => cases h
theorem matchObs_ok : ∀ {p : List OP} {v : List Ob} {ls : List Leaf}, matchObs p v = some ls → ∀ l, buildObs p (ls ++ l) = (v, l)
  | [], [], _, h, l => by cases h; simp [buildObs]
  | [], _ :: _, _, h, l => by simp [matchObs] at h
  | _ :: _, [], _, h, l => by simp [matchObs] at h
  | p :: ps, v :: vs, ls, h, l => by
    simp only [matchObs] at h
    split at h
    · rename_i a b h1 h2
      cases h
      simp [buildObs, matchOb_ok h1, matchObs_ok h2, List.append_assoc]
    · cases h
theorem matchSt_ok {p : SP} {s : St} {ls : List Leaf} (h : matchSt p s = some ls) : buildSt p ls = s := by
  unfold matchSt at h
  split at h
  · rename_i a b c h1 h2 h3
    cases h
    have h3' := matchTVs_ok h3 []
    rw [List.append_nil] at h3'
    simp [buildSt, matchTVs_ok h1, matchObs_ok h2, h3']
  · cases h

/-- A function whose loops are told by shapes. -/
theorem fun_pat {P : Program} {T : TypeId → Option TI} {G : Nat → Option (List PV)} {Γ : FuncId → Option Cal} (hm : P.follows .mixedOrders = true) (hT : TOk P T) (hΓ : CalsOk P G Γ) {f : FuncId} {fn : Func} {c : Ctr} {F : Fun} (hf : P.funcs[f]? = some fn) (hb : fn.body = some F.code) (hnt : fn.ntmps = F.ntmps) (hrs : fn.results.toList = F.results) (hname : (fn.name == "runtime.NumGoroutine") = false)
    {norm : Code → Ex → St → St} (hnorm : NormOk G norm) {pat : Nat → Option SP} {L : Nat → Nat → List Leaf → (R : Type) → (Ex → St → Option R) → Option R}
    {nj : Code → Option Ex → St → St} (hnj : NormOk G nj) {on : Code → Bool} {patj : Nat → Option SP} {J : Nat → Nat → List Leaf → (R : Type) → (Ex → St → Option R) → Option R}
    (h0 : ∀ c ∈ loopsOf F.code, ∀ ls R k, L 0 (keyOf c) ls R k = none)
    (hs : ∀ c ∈ loopsOf F.code, ∀ p, pat (keyOf c) = some p → ∀ n ls R k r, L (n + 1) (keyOf c) ls R k = some r → roundK T G Γ norm (patL norm pat L nj on patj J n) c (buildSt p ls) R k = some r)
    (hj : ∀ c ∈ (joinsOf F.code).filter on, ∀ p, patj (jkey c) = some p → ∀ n ls R k r, J n (jkey c) ls R k = some r → joinK T G Γ nj (patL norm pat L nj on patj J n) c (buildSt p ls) R k = some r)
    (hF : ∀ ps x, c.F ps = some x → ∃ n, funK T G Γ (patL norm pat L nj on patj J n) c.res c.scal c.modes F ps = some x) : Holds P G f c := by
  refine fun_ok hm hT hΓ hf hb hnt hrs hname fun ps x hx => ?_
  obtain ⟨n, hn⟩ := hF ps x hx
  refine ⟨_, loops_fix (Λ := patL norm pat L nj on patj J) hm hT hΓ hnorm hnj (fun c hc s R k r h => ?_) (fun n c hc s R k r h => ?_) (fun n c hc s R k r h => ?_) n, hn⟩
  · simp only [patL] at h
    split at h
    · split at h
      · rw [h0 c hc] at h; cases h
      · cases h
    · cases h
  · simp only [patL] at h
    split at h
    · rename_i p hp
      split at h
      · rename_i ls hls
        have := hs c hc p hp n ls R k r h
        rwa [matchSt_ok hls] at this
      · cases h
    · cases h
  · simp only [patL] at h
    split at h
    · rename_i hon
      split at h
      · rename_i p hp
        split at h
        · rename_i ls hls
          have := hj c (List.mem_filter.2 ⟨hc, hon⟩) p hp n ls R k r h
          rwa [matchSt_ok hls] at this
        · cases h
      · cases h
    · cases h
theorem noL_ok {P : Program} {G : Nat → Option (List PV)} (c : Code) : LoopsOk P G noL c := ⟨fun _ _ _ _ _ _ h => (by cases h), fun _ _ _ _ _ _ h => (by cases h)⟩

/-- Contracts by their functions' numbers. -/
def ctrOf : List (Nat × Cal) → FuncId → Option Cal
  | [], _ => none
  | (i, c) :: l, f => if i = f then some c else ctrOf l f
def HoldsAll (P : Program) (G : Nat → Option (List PV)) : List (Nat × Cal) → Prop
  | [] => True
  | (i, c) :: l => CalOk P G i c ∧ HoldsAll P G l
theorem ctrOf_cal {P : Program} {G : Nat → Option (List PV)} : ∀ {l : List (Nat × Cal)}, HoldsAll P G l → ∀ g c, ctrOf l g = some c → CalOk P G g c
  | [], _, _, _, h => by simp [ctrOf] at h
  | (i, d) :: l, hl, g, c, h => by
    simp only [ctrOf] at h
    split at h
    · rename_i e; cases h; rw [← e]; exact hl.1
    · exact ctrOf_cal hl.2 g c h
theorem ctrOf_ok {P : Program} {G : Nat → Option (List PV)} {l : List (Nat × Cal)} (h : HoldsAll P G l) : CalsOk P G (ctrOf l) := ⟨fun g c hc => ctrOf_cal h g _ hc, fun g f hf => ctrOf_cal h g _ hf⟩

theorem args_none {w : World} {S : Nat → Prop} : ∀ {ms : List (Option (Shp × Bool))} {ps : List PV} {us : List Value} {fps : List (List Nat)}, (∀ m ∈ ms, m = none) → argsOk w S ms ps us fps → relL w S ps us ∧ fps = [] ∧ us.length = ms.length
  | [], ps, us, fps, _, h => by
    simp only [argsOk] at h
    obtain ⟨rfl, rfl, rfl⟩ := h
    exact ⟨by simp [relL], rfl, rfl⟩
  | some m :: ms, ps, us, fps, hm, h => by
    have := hm (some m) (List.mem_cons_self ..)
    cases this
  | none :: ms, ps, us, fps, hm, h => by
    simp only [argsOk] at h
    obtain ⟨p, ps', u, us', rfl, rfl, h1, h2⟩ := h
    obtain ⟨h3, h4, h5⟩ := args_none (fun m h => hm m (List.mem_cons_of_mem _ h)) h2
    exact ⟨by simp only [relL]; exact ⟨u, us', rfl, h1, h3⟩, h4, by simp [h5]⟩
theorem outs_none {w : World} {S : Nat → Prop} : ∀ {ms : List (Option (Shp × Bool))} {us : List Value}, (∀ m ∈ ms, m = none) → us.length = ms.length → outsV w S ms us [] [] []
  | [], us, _, h => by simp only [outsV, and_true]; exact List.eq_nil_of_length_eq_zero (by simpa using h)
  | some m :: ms, us, hm, h => by
    have := hm (some m) (List.mem_cons_self ..)
    cases this
  | none :: ms, [], hm, h => by simp at h
  | none :: ms, u :: us, hm, h => by
    simp only [outsV]
    exact ⟨u, us, rfl, outs_none (fun m h => hm m (List.mem_cons_of_mem _ h)) (by simpa using h)⟩

/-- A contract that is proved by hand: of a function that reads its arguments alone, and answers a tree. -/
theorem holds_lib {P : Program} {G : Nat → Option (List PV)} {f : FuncId} {fn : Func} {c : Ctr} {code : Code} (hf : P.funcs[f]? = some fn) (hb : fn.body = some code) (hname : (fn.name == "runtime.NumGoroutine") = false) (hm : ∀ m ∈ c.modes, m = none) (hres : c.res = .d)
    (hd : ∀ w S ps us r outs, relL w S ps us → (∀ b, S b → b < w.heap.size) → GOk G w S → c.F ps = some (r, outs) → outs = [] ∧
      Calls P f us.toArray w fun e w' => ∃ v, e = .returned v ∧ Go.RowKit.Below w.heap.size w w' ∧ ∃ N : Nat → Prop, (∀ b, N b → w.heap.size ≤ b ∧ b < w'.heap.size) ∧ ∀ S'' : Nat → Prop, (S'' = (fun b => S b ∨ N b) ∨ c.scal = true) → rel w' S'' r v) : Holds P G f c := by
  intro w S ps us fps r outs hargs hnd hfp hst hgo hx
  obtain ⟨h1, rfl, h3⟩ := args_none hm hargs
  obtain ⟨rfl, hc⟩ := hd w S ps us r outs h1 hst hgo hx
  have hcall : (callFunc f us.toArray).run P w = .ok (.enter f us.toArray) w := by
    simp only [beq_eq_false_iff_ne] at hname
    simp [callFunc, hf, hname, hb]
  unfold Applies
  rw [hcall]
  simp only
  refine hc.mono fun e w' ⟨v, he, hbel, N, hN, hr⟩ => ⟨v, he, fun b => S b ∨ N b, [], [], ?_⟩
  refine ⟨hbel.os, hbel.tape, hbel.output, hbel.size, fun b hb _ => hbel.block b hb, fun _ h => .inl h, ?_, ?_, by simp, fun b hb => (by cases hb), fun S'' hS => ⟨?_, outs_none hm h3⟩⟩
  · rintro b (h | h)
    · exact .inl h
    · exact .inr (.inr (hN b h).1)
  · rintro b (h | h)
    · exact Nat.lt_of_lt_of_le (hst b h) hbel.size
    · exact (hN b h).2
  · rw [hres]
    simp only [ownS]
    exact ⟨trivial, hr S'' hS⟩

/-- A part of code: 0 and 1 are the parts of two, 0 the one part of one. -/
def codeAt : List Nat → Code → Code
  | [], c => c
  | 0 :: l, .seq a _ => codeAt l a
  | _ :: l, .seq _ b => codeAt l b
  | 0 :: l, .cond _ a _ => codeAt l a
  | _ :: l, .cond _ _ b => codeAt l b
  | _ :: l, .block _ c => codeAt l c
  | _ :: l, .loop c => codeAt l c
  | _, c => c

def bodyOf (f : Func) : Code := match f.body with | some c => c | none => .skip
def funOf (f : Func) : Fun := ⟨bodyOf f, f.ntmps, f.results.toList⟩

end Go.Proofs.YtpaifgipdhgfkaaGreatDoorV

/- The reading machine: a law's arguments as trees. -/
namespace Go.Proofs.YtpaifgipdhgfkaaGreatDoorV
open Go Go.RowKit Go.ChangeShapes Go.WideShapes Go.ChangeAt

section
variable {H : Type} {enc : TypeId × Value → H} {P : Program} {W : World} {base : Nat} {t e : TypeId} {v : Value} {d : DataW H} {ps : List MemPlace}

/-- Where a slice stands. -/
theorem slice_place (ht : P.underlying t = some (.slice e)) {a : Addr} {len cap : Nat} (h : Value.okWide P W .any base t (.slice (some a) len cap)) : a.spot = none ∧ a.block < W.heap.size := by
  simp only [Value.okWide, ht, Cell.okWide, Cell.ok] at h
  obtain ⟨_, _, _, hs, row, cells, hsh, _⟩ := h
  refine ⟨hs, ?_⟩
  unfold World.shape? at hsh
  split at hsh
  · rename_i hg
    exact (Array.getElem?_eq_some_iff.1 hg).1
  · cases hsh
theorem relEs_of_cells {b o : Nat} : ∀ {es : List PV} {k : Nat} (_ : ∀ i p, es[i]? = some p → ∃ u, W.cell? ⟨b, o + k + i, none⟩ = some u ∧ u.oneCell' = true ∧ rel W (fun b => b < W.heap.size) p u),
    relEs W (fun b => b < W.heap.size) b (o + k) 1 (es.map fun p => [p])
  | [], k, _ => by simp [relEs]
  | p :: es, k, h => by
    simp only [List.map_cons, relEs, List.length_singleton, relCs, and_true, true_and]
    refine ⟨by simpa using h 0 p rfl, ?_⟩
    rw [Nat.add_assoc]
    exact relEs_of_cells fun i q hq => by
      have := h (i + 1) q (by simpa using hq)
      rw [show o + (k + 1) + i = o + k + (i + 1) by omega]
      exact this

theorem arg_ints {k : IntKind} (ht : P.underlying t = some (.slice e)) (he : P.underlying e = some (.int k)) (hc : P.cellsOf e = 1) (hval : Value.okWide P W .any base t v) (h : DataW.Trod enc P W 0 (fun _ => true) true t v d ps) :
    ∃ zs : List Int, rel W (fun b => b < W.heap.size) (.fs (zs.map fun n => [.int k n])) v ∧ (∀ n ∈ zs, (Lit.int k n).wf = true) ∧ zs.length ≤ maxLen ∧ (zs = [] ∨ ∃ sp, d = .slice (lits k zs) sp) := by
  obtain ⟨a0, len0, cap0, rfl⟩ := okWide_slice ht hval
  obtain ⟨fuel, hf⟩ := h
  have hcells : (Value.slice a0 len0 cap0).cells.toList = [Value.slice a0 len0 cap0] := rfl
  rw [hcells] at hf
  rcases open_ints ht he hc hf with ⟨h1, h2⟩ | ⟨a, len, cap, zs, h1, h2, h3, h4, h5, h6, h7, h8⟩
  · refine ⟨[], ?_, by simp, by simp, .inl rfl⟩
    simp only [List.cons.injEq, and_true] at h1
    rw [h1]
    simp only [rel, List.map_nil]
    exact .inl ⟨⟨none, rfl⟩, trivial⟩
  · simp only [List.cons.injEq, and_true] at h1
    simp only [if_true] at h5
    obtain ⟨hs, hb⟩ := slice_place ht (by rw [h1] at hval; exact hval)
    obtain ⟨ab, ao, asp⟩ := a
    simp only at hs hb
    subst hs
    simp only [Addr.add_lit] at h7
    have hlt : (zs.take len).length = len := by simp; omega
    refine ⟨zs.take len, ?_, fun n hn => h8 n (List.mem_of_mem_take hn), by omega, .inr ⟨_, by cases h6; rfl⟩⟩
    rw [h1]
    simp only [rel]
    refine .inr ⟨ab, ao, cap, 1, ?_, ?_, h4, hb, ?_⟩
    · rw [List.length_map, hlt]
    · rw [List.length_map, hlt]; exact h3
    · have := relEs_of_cells (W := W) (b := ab) (o := ao) (es := (zs.take len).map fun n => .int k n) (k := 0) fun i p hp => by
        simp only [List.getElem?_map, Option.map_eq_some_iff] at hp
        obtain ⟨n, hn, rfl⟩ := hp
        rw [List.getElem?_take] at hn
        split at hn
        · have hi : i < zs.length := (List.getElem?_eq_some_iff.1 hn).1
          have h9 := h7 i hi
          rw [List.getD_eq_getElem?_getD, hn, Option.getD_some] at h9
          exact ⟨_, by rw [Nat.add_zero]; exact h9, rfl, by simp only [rel]⟩
        · cases hn
      rw [List.map_map] at this
      exact this

theorem arg_strings (ht : P.underlying t = some (.slice e)) (he : P.underlying e = some .string) (hc : P.cellsOf e = 1) (hval : Value.okWide P W .any base t v) (h : DataW.Trod enc P W 0 (fun _ => true) true t v d ps) :
    ∃ ss : List ByteArray, rel W (fun b => b < W.heap.size) (.fs (ss.map fun s => [.str s])) v ∧ (∀ s ∈ ss, s.size ≤ maxLen) ∧ ss.length ≤ maxLen ∧ (ss = [] ∨ ∃ sp, d = .slice (strs ss) sp) := by
  obtain ⟨a0, len0, cap0, rfl⟩ := okWide_slice ht hval
  obtain ⟨fuel, hf⟩ := h
  have hcells : (Value.slice a0 len0 cap0).cells.toList = [Value.slice a0 len0 cap0] := rfl
  rw [hcells] at hf
  rcases open_strings ht he hc hf with ⟨h1, h2⟩ | ⟨a, len, cap, zs, h1, h2, h3, h4, h5, h6, h7, h8⟩
  · refine ⟨[], ?_, by simp, by simp, .inl rfl⟩
    simp only [List.cons.injEq, and_true] at h1
    rw [h1]
    simp only [rel, List.map_nil]
    exact .inl ⟨⟨none, rfl⟩, trivial⟩
  · simp only [List.cons.injEq, and_true] at h1
    simp only [if_true] at h5
    obtain ⟨hs, hb⟩ := slice_place ht (by rw [h1] at hval; exact hval)
    obtain ⟨ab, ao, asp⟩ := a
    simp only at hs hb
    subst hs
    simp only [Addr.add_lit] at h7
    have hlt : (zs.take len).length = len := by simp; omega
    refine ⟨zs.take len, ?_, fun n hn => h8 n (List.mem_of_mem_take hn), by omega, .inr ⟨_, by cases h6; rfl⟩⟩
    rw [h1]
    simp only [rel]
    refine .inr ⟨ab, ao, cap, 1, ?_, ?_, h4, hb, ?_⟩
    · rw [List.length_map, hlt]
    · rw [List.length_map, hlt]; exact h3
    · have := relEs_of_cells (W := W) (b := ab) (o := ao) (es := (zs.take len).map fun s => .str s) (k := 0) fun i p hp => by
        simp only [List.getElem?_map, Option.map_eq_some_iff] at hp
        obtain ⟨n, hn, rfl⟩ := hp
        rw [List.getElem?_take] at hn
        split at hn
        · have hi : i < zs.length := (List.getElem?_eq_some_iff.1 hn).1
          have h9 := h7 i hi
          rw [List.getD_eq_getElem?_getD, hn, Option.getD_some] at h9
          exact ⟨_, by rw [Nat.add_zero]; exact h9, rfl, by simp only [rel]⟩
        · cases hn
      rw [List.map_map] at this
      exact this
end
/-- Code (y) comes to what its twin (x) says, handed to what follows (K). -/
def Tw {σ R : Type} (x : Option σ) (y : Option R) (K : σ → Option R) : Prop := ∀ s, x = some s → y = K s
section
variable {σ σ' R α : Type} {K : σ → Option R} {c : Prop} [Decidable c]
theorem tw_none {y : Option R} : Tw none y K := fun s h => by cases h
theorem tw_some {s : σ} {y : Option R} (h : y = K s) : Tw (some s) y K := fun s' h' => by cases h'; exact h
theorem tw_bind {e : Option α} {f : α → Option σ} {g : α → Option R} (h : ∀ a, e = some a → Tw (f a) (g a) K) : Tw (e.bind f) (e.bind g) K := fun s hs => by
  cases e with
  | none => cases hs
  | some a => exact h a rfl s hs
theorem tw_ite {a : Option σ} {b : Option R} (h : c → Tw a b K) : Tw (if c then a else none) (if c then b else none) K := fun s hs => by
  by_cases hc : c
  · rw [if_pos hc] at hs ⊢; exact h hc s hs
  · rw [if_neg hc] at hs; cases hs
theorem tw_nite {a : Option σ} {b : Option R} (h : ¬ c → Tw a b K) : Tw (if c then none else a) (if c then none else b) K := fun s hs => by
  by_cases hc : c
  · rw [if_pos hc] at hs; cases hs
  · rw [if_neg hc] at hs ⊢; exact h hc s hs
theorem tw_dite {a a' : Option σ} {b b' : Option R} (h : c → Tw a b K) (h' : ¬ c → Tw a' b' K) : Tw (if c then a else a') (if c then b else b') K := fun s hs => by
  by_cases hc : c
  · rw [if_pos hc] at hs ⊢; exact h hc s hs
  · rw [if_neg hc] at hs ⊢; exact h' hc s hs
theorem tw_cond {t : Bool} {a a' : Option σ} {b b' : Option R} (h : t = true → Tw a b K) (h' : t = false → Tw a' b' K) : Tw (cond t a a') (cond t b b') K := fun s hs => by
  cases t with
  | true => exact h rfl s hs
  | false => exact h' rfl s hs
theorem tw_call {x : Option σ'} {y : Option R} {K' : σ' → Option R} {f : σ' → Option σ} (h : Tw x y K') (hc : ∀ s, Tw (f s) (K' s) K) : Tw (x.bind f) y K := fun s hs => by
  cases x with
  | none => cases hs
  | some a => exact (h a rfl).trans (hc a s hs)
theorem tw_iteI {a : Option σ} {s : σ} (h : (if c then a else none) = some s) : c ∧ a = some s := by
  by_cases hc : c
  · rw [if_pos hc] at h; exact ⟨hc, h⟩
  · rw [if_neg hc] at h; cases h
theorem tw_niteI {a : Option σ} {s : σ} (h : (if c then none else a) = some s) : ¬ c ∧ a = some s := by
  by_cases hc : c
  · rw [if_pos hc] at h; cases h
  · rw [if_neg hc] at h; exact ⟨hc, h⟩
theorem tw_diteI {a a' : Option σ} {s : σ} (h : (if c then a else a') = some s) : (c ∧ a = some s) ∨ (¬ c ∧ a' = some s) := by
  by_cases hc : c
  · rw [if_pos hc] at h; exact .inl ⟨hc, h⟩
  · rw [if_neg hc] at h; exact .inr ⟨hc, h⟩
theorem tw_condI {t : Bool} {a a' : Option σ} {s : σ} (h : cond t a a' = some s) : (t = true ∧ a = some s) ∨ (t = false ∧ a' = some s) := by
  cases t with
  | true => exact .inl ⟨rfl, h⟩
  | false => exact .inr ⟨rfl, h⟩
end
end Go.Proofs.YtpaifgipdhgfkaaGreatDoorV
