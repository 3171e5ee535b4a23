/- The reading machine: what it takes for an operation to be told rightly; operations that touch no memory. -/
import Derived.Test.YtgpjnppakffoiaaVMem
namespace Go.Proofs.YtgpjnppakffoiaaV
open Go Go.RowKit

/-- A zero of the table against the model's. -/
def zOk : TV → Value → Prop
  | .val (.bool b), v => v = .bool b
  | .val (.int k n), v => v = .int k n
  | .val (.str s), v => v = .string s
  | .nil _, v => v = .slice none 0 0
  | .val .pnil, v => v = .pointer none
  | .val .mnil, v => v = .map none
  | .val .fnil, v => v = .nilFunc
  | _, _ => False
def zsOk : List TV → List Value → Prop
  | [], us => us = []
  | z :: zs, us => ∃ u us', us = u :: us' ∧ zOk z u ∧ zsOk zs us'

def descOk (P : Program) (t : TypeId) : TD → Prop
  | .bool => P.underlying t = some .bool
  | .int k => P.underlying t = some (.int k)
  | .string => P.underlying t = some .string
  | .slice e => P.underlying t = some (.slice e)
  | .array n e => P.underlying t = some (.array n e)
  | .struct fs => ∃ F, P.underlying t = some (.struct F) ∧ F.toList.map (fun f => (f.type, f.offset)) = fs ∧ (∀ f ∈ F.toList, f.name ≠ "_") ∧ P.stoodInHeld t = false ∧ P.eqGuardType P.depth t = false
  | .map k e => P.underlying t = some (.map k e)
  | .ptr e => P.underlying t = some (.pointer e)
  | .func => ∃ a b c, P.underlying t = some (.func a b c)
  | .other => ∃ d, P.underlying t = some d ∧ (∀ F, d ≠ .struct F) ∧ (∀ n e, d ≠ .array n e)

structure TyOk (P : Program) (t : TypeId) (i : TI) : Prop where
  info : ∃ f z, P.info? t = some f ∧ f.size = i.size ∧ f.bytes = i.bytes ∧ f.zero = some z ∧ z.cells.size = i.size ∧ zsOk i.zero z.cells.toList ∧
    (i.desc.isAgg = true → z = .agg z.cells) ∧ (i.desc.isAgg = false → z.cells = #[z])
  pos : 0 < i.size
  posb : 0 < i.bytes
  desc : descOk P t i.desc
  one : i.desc.isAgg = false → i.size = 1

def TOk (P : Program) (T : TypeId → Option TI) : Prop := ∀ t i, T t = some i → TyOk P t i

theorem zOk_rel {w : World} {S : Nat → Prop} {π : Nat → Option Pl} {z : TV} {u : Value} (h : zOk z u) : relTV w S π z u ∧ u.oneCell' = true := by
  cases z with
  | val p => cases p <;> simp only [zOk] at h <;> first | exact h.elim | (subst h; exact ⟨by simp only [relTV, rel], rfl⟩)
  | nil sz => simp only [zOk] at h; subst h; exact ⟨by simp only [relTV], rfl⟩
  | _ => simp only [zOk] at h

theorem zsOk_rel {w : World} {S : Nat → Prop} {π : Nat → Option Pl} : ∀ {zs : List TV} {us : List Value}, zsOk zs us → relTVs w S π zs us ∧ ∀ u ∈ us, u.oneCell' = true
  | [], us, h => by simp only [zsOk] at h; subst h; exact ⟨by simp only [relTVs], by simp⟩
  | z :: zs, us, h => by
    simp only [zsOk] at h
    obtain ⟨u, us', rfl, h1, h2⟩ := h
    obtain ⟨r1, r2⟩ := zsOk_rel (w := w) (S := S) (π := π) h2
    obtain ⟨q1, q2⟩ := zOk_rel (w := w) (S := S) (π := π) h1
    refine ⟨by simp only [relTVs]; exact ⟨u, us', rfl, q1, r1⟩, ?_⟩
    intro v hv
    simp only [List.mem_cons] at hv
    rcases hv with rfl | hv
    · exact q2
    · exact r2 v hv

theorem descOk_agg {P : Program} {t : TypeId} {d : TD} (h : descOk P t d) :
    (d.isAgg = true → (∃ F, P.underlying t = some (.struct F)) ∨ (∃ n e, P.underlying t = some (.array n e))) ∧
    (d.isAgg = false → ∃ u, P.underlying t = some u ∧ (∀ F, u ≠ .struct F) ∧ (∀ n e, u ≠ .array n e)) := by
  cases d <;> simp only [descOk] at h <;> refine ⟨fun hh => ?_, fun hh => ?_⟩ <;> simp only [TD.isAgg, Bool.false_eq_true, Bool.true_eq_false] at hh
  case array.refine_1 => exact .inr ⟨_, _, h⟩
  case struct.refine_1 => obtain ⟨F, h, _⟩ := h; exact .inl ⟨F, h⟩
  case other.refine_2 => exact h
  case func.refine_2 => obtain ⟨a, b, c, h⟩ := h; exact ⟨_, h, by simp, by simp⟩
  all_goals exact ⟨_, h, by simp, by simp⟩

theorem isAggT_eq {T : TypeId → Option TI} {t : TypeId} {i : TI} (h : T t = some i) : isAggT T t = i.desc.isAgg := by
  obtain ⟨a, b, d, z⟩ := i
  unfold isAggT
  rw [h]
  cases d <;> rfl
theorem tsize_eq {T : TypeId → Option TI} {t : TypeId} {i : TI} (h : T t = some i) : tsize T t = i.size := by unfold tsize; rw [h]

theorem run_isAgg {P : Program} {t : TypeId} {i : TI} (h : TyOk P t i) (w : World) : (isAgg t).run P w = .ok i.desc.isAgg w := by
  obtain ⟨h1, h2⟩ := descOk_agg h.desc
  cases hd : i.desc.isAgg with
  | true =>
    rcases h1 hd with ⟨F, hu⟩ | ⟨n, e, hu⟩ <;> simp [isAgg, run_underlying hu]
  | false =>
    obtain ⟨u, hu, n1, n2⟩ := h2 hd
    simp only [isAgg, Sem.run_bind, run_underlying hu, Result.andThen_ok]
    cases u <;> first | rfl | exact absurd rfl (n1 _) | exact absurd rfl (n2 _ _)

theorem run_sizeOf {P : Program} {t : TypeId} {i : TI} (h : TyOk P t i) (w : World) : (sizeOf t).run P w = .ok i.size w := by
  obtain ⟨f, z, hf, hs, _⟩ := h.info
  simp [Go.sizeOf, typeInfo, hf, hs]

theorem run_zeroValue {P : Program} {t : TypeId} {i : TI} (h : TyOk P t i) : ∃ z, z.cells.size = i.size ∧ zsOk i.zero z.cells.toList ∧ (∀ w, (zeroValue t).run P w = .ok z w) ∧ (i.desc.isAgg = false → z.cells = #[z]) ∧ ∃ f, P.info? t = some f ∧ f.zero = some z ∧ f.size = i.size ∧ f.bytes = i.bytes := by
  obtain ⟨f, z, hf, hs, hb, hz, h1, h2, _, h3⟩ := h.info
  exact ⟨z, h1, h2, fun w => by simp [zeroValue, typeInfo, hf, hz], h3, f, hf, hz, hs, hb⟩

/-- A variable of one cell. -/
theorem run_loadVar_one {P : Program} {t : TypeId} {i : TI} (h : TyOk P t i) (hd : i.desc.isAgg = false) {w : World} {b o : Nat} {v : Value} (hc : w.cell? ⟨b, o, none⟩ = some v) :
    (loadVar t ⟨b, o, none⟩).run P w = .ok v w := by
  simp only [loadVar, Sem.run_bind, run_isAgg h, hd, Result.andThen_ok, Bool.false_eq_true, if_false, run_load_at hc]

theorem run_loadVar_agg {P : Program} {t : TypeId} {i : TI} (h : TyOk P t i) (hd : i.desc.isAgg = true) {w : World} {b o : Nat} (us : List Value) (hl : us.length = i.size)
    (hc : ∀ (j : Nat) (u : Value), us[j]? = some u → w.cell? ⟨b, o + j, none⟩ = some u) : (loadVar t ⟨b, o, none⟩).run P w = .ok (.agg us.toArray) w := by
  have hr := run_loadCells_list (P := P) w ⟨b, o, none⟩ us (fun j v hv => by rw [Addr.add_lit]; exact hc j v hv)
  rw [hl] at hr
  simp only [loadVar, Sem.run_bind, run_isAgg h, hd, Result.andThen_ok, if_true, run_sizeOf h, hr, Sem.run_pure]

def upLast : List (Nat × Ob) → Nat → Option Ob
  | [], _ => none
  | (i, o) :: r, id => match upLast r id with | some x => some x | none => if i = id then some o else none

/-- Memory of the call's own behind an operation. -/
def upd (look : Nat → Option Ob) (up : List (Nat × Ob)) (nx : Nat) (nw : List Ob) (id : Nat) : Option Ob :=
  match upLast up id with
  | some o => some o
  | none => if nx ≤ id ∧ id < nx + nw.length then nw[id - nx]? else look id

theorem upd_nil (look : Nat → Option Ob) (nx : Nat) : upd look [] nx [] = look := by
  funext id
  simp only [upd, upLast, List.length_nil, Nat.add_zero]
  rw [if_neg (by omega)]

def evOk (ev : Operand → Option TV) (a : Act) (w : World) (S : Nat → Prop) (π : Nat → Option Pl) : Prop := ∀ x v, ev x = some v → relTV w S π v (a.eval x)

theorem evOk_all {ev : Operand → Option TV} {a : Act} {w : World} {S : Nat → Prop} {π : Nat → Option Pl} (h : evOk ev a w S π) : ∀ {xs : List Operand} {vs : List TV}, allSome (xs.map ev) = some vs → relTVs w S π vs (xs.map a.eval)
  | [], vs, hx => by simp only [List.map_nil, allSome, Option.some.injEq] at hx; subst hx; simp only [relTVs, List.map_nil]
  | x :: xs, vs, hx => by
    simp only [List.map_cons] at hx
    cases hv : ev x with
    | none => rw [hv] at hx; simp only [allSome] at hx; cases hx
    | some v =>
      rw [hv] at hx
      simp only [allSome] at hx
      cases hr : allSome (xs.map ev) with
      | none => rw [hr] at hx; cases hx
      | some r =>
        rw [hr] at hx
        simp only [Option.some.injEq] at hx
        subst hx
        simp only [List.map_cons, relTVs]
        exact ⟨_, _, rfl, h x v hv, evOk_all h hr⟩

/-- What is behind an operation that is told rightly. -/
structure After (w : World) (S : Nat → Prop) (π : Nat → Option Pl) (look : Nat → Option Ob) (nx : Nat) (v : TV) (up : List (Nat × Ob)) (nw : List Ob) (u : Value) (w' : World) (S' : Nat → Prop) (π' : Nat → Option Pl) : Prop where
  v : relTV w' S' π' v u
  obs : ObsOk w' S' π' (upd look up nx nw)
  ext : Ext π π'
  only : ∀ id, π' id ≠ none → π id ≠ none ∨ (nx ≤ id ∧ id < nx + nw.length)
  step : Step w S (owned look π) w' S' (owned (upd look up nx nw) π')

def Free (look : Nat → Option Ob) (π : Nat → Option Pl) (nx n : Nat) : Prop := ∀ j, j < n → look (nx + j) = none ∧ π (nx + j) = none

def OpOk (P : Program) (look : Nat → Option Ob) (nx : Nat) (ev : Operand → Option TV) (o : Oper) (v : TV) (up : List (Nat × Ob)) (nw : List Ob) : Prop :=
  ∀ (a : Act) (w : World) (S : Nat → Prop) (π : Nat → Option Pl), evOk ev a w S π → ObsOk w S π look → Free look π nx nw.length →
    ∀ (K : Act → World → Prop) (Q : Exit → Act → World → Prop), (∀ u w' S' π', After w S π look nx v up nw u w' S' π' → K (a.put o.dst u) w') → o.wp P a w K Q

/-- An operation that touches no memory. -/
theorem opOk_pure {P : Program} {look : Nat → Option Ob} {nx : Nat} {ev : Operand → Option TV} {o : Oper} {v : TV}
    (h : ∀ a w S π, evOk ev a w S π → ObsOk w S π look → ∃ u, (execOp a.eval o).run P w = .ok (.value u) w ∧ relTV w S π v u) : OpOk P look nx ev o v [] [] := by
  intro a w S π hev hob _ K Q hK
  obtain ⟨u, hr, hv⟩ := h a w S π hev hob
  unfold Oper.wp
  rw [hr]
  exact hK u w S π ⟨hv, by rw [upd_nil]; exact hob, Ext.refl _, fun id h => .inl h, by rw [upd_nil]; exact Step.refl _ _ _⟩

theorem Step.keep {w w' : World} {S S' O' : Nat → Prop} {π : Nat → Option Pl} {look : Nat → Option Ob} (h : Step w S (owned look π) w' S' O') (hob : ObsOk w S π look) : Keep w S w' S' :=
  ⟨fun b hb => h.same b (hob.st b hb) (fun ho => (hob.out b ho).1 hb), h.sub⟩

theorem fixNil_rel {w : World} {S : Nat → Prop} {π : Nat → Option Pl} {T : TypeId → Option TI} {t : TypeId} {v : TV} {u : Value} (h : relTV w S π v u) : relTV w S π (fixNil T t v) u := by
  unfold fixNil
  split
  · simp only [relTV] at h
    split <;> simpa only [relTV] using h
  · exact h

theorem owned_lt {w : World} {S : Nat → Prop} {π : Nat → Option Pl} {look : Nat → Option Ob} (h : ObsOk w S π look) {id : Nat} {o : Ob} {pl : Pl} {b : Nat} (h1 : look id = some o) (h2 : o.live = true) (h3 : π id = some pl) (h4 : pl.blk = some b) : b < w.heap.size ∧ ¬ S b :=
  ⟨(h.out b ⟨id, o, pl, h1, h2, h3, h4⟩).2, (h.out b ⟨id, o, pl, h1, h2, h3, h4⟩).1⟩

/-- A new block, the call's own from now on. -/
theorem obs_new {w w' : World} {S : Nat → Prop} {π : Nat → Option Pl} {look : Nat → Option Ob} {nx : Nat} {ob : Ob} {c : Obj} (h : ObsOk w S π look) (hf : Free look π nx 1)
    (hos : w'.os = w.os) (htape : w'.tape = w.tape) (hout : w'.output = w.output) (hheap : w'.heap = w.heap.push c) (s cp z l : Nat)
    (hob : ∀ π', Ext π π' → π' nx = some (.at w.heap.size s cp z l) → Keep w S w' S → obOk w' S π' ob (.at w.heap.size s cp z l)) :
    ∃ π', ObsOk w' S π' (upd look [] nx [ob]) ∧ Ext π π' ∧ (∀ id, π' id ≠ none → π id ≠ none ∨ (nx ≤ id ∧ id < nx + 1)) ∧ π' nx = some (.at w.heap.size s cp z l) ∧
      Step w S (owned look π) w' S (owned (upd look [] nx [ob]) π') := by
  let π' := fun id => if id = nx then some (Pl.at w.heap.size s cp z l) else π id
  have hfn : look nx = none ∧ π nx = none := by simpa using hf 0 (by omega)
  have hext : Ext π π' := by
    intro id pl hp
    simp only [π']
    rw [if_neg]
    · exact hp
    · intro e; subst e; rw [hfn.2] at hp; cases hp
  have hsz : w'.heap.size = w.heap.size + 1 := by rw [hheap]; simp
  have hold : ∀ b, b < w.heap.size → w'.heap[b]? = w.heap[b]? := by
    intro b hb
    rw [hheap, Array.getElem?_push, if_neg (by omega)]
  have hkeep : Keep w S w' S := ⟨fun b hb => hold b (h.st b hb), fun _ hb => hb⟩
  have hnx : π' nx = some (.at w.heap.size s cp z l) := by simp [π']
  have hlook : ∀ id o, upd look [] nx [ob] id = some o → (id = nx ∧ o = ob) ∨ (id ≠ nx ∧ look id = some o) := by
    intro id o ho
    simp only [upd, upLast, List.length_singleton] at ho
    split at ho
    · rename_i hc
      have : id = nx := by omega
      subst this
      simp only [Nat.sub_self, List.getElem?_cons_zero, Option.some.injEq] at ho
      exact .inl ⟨rfl, ho.symm⟩
    · rename_i hc
      exact .inr ⟨by omega, ho⟩
  have hpi : ∀ id, id ≠ nx → π' id = π id := fun id hid => by simp [π', hid]
  have hown : ∀ b, owned (upd look [] nx [ob]) π' b → (owned look π b) ∨ b = w.heap.size := by
    rintro b ⟨id, o, pl, h1, h2, h3, h4⟩
    rcases hlook id o h1 with ⟨rfl, rfl⟩ | ⟨hne, hl⟩
    · rw [hnx] at h3; cases h3; simp only [Pl.blk, Option.some.injEq] at h4; exact .inr h4.symm
    · rw [hpi id hne] at h3; exact .inl ⟨id, o, pl, hl, h2, h3, h4⟩
  refine ⟨π', ⟨?_, ?_, ?_, ?_⟩, hext, ?_, hnx, ?_⟩
  · intro id o ho
    rcases hlook id o ho with ⟨rfl, rfl⟩ | ⟨hne, hl⟩
    · exact ⟨_, hnx, hob π' hext hnx hkeep⟩
    · obtain ⟨pl, hp, hk⟩ := h.ok id o hl
      refine ⟨pl, hext _ _ hp, ?_⟩
      exact obOk_keep hkeep hext _ pl (fun hv b hb => hold b (owned_lt h hl hv hp hb).1) hk
  · intro i j oi oj pi pj b h1 h2 h3 h4 h5 h6 h7 h8
    rcases hlook i oi h1 with ⟨rfl, rfl⟩ | ⟨hi, hli⟩
    · rcases hlook j oj h2 with ⟨rfl, rfl⟩ | ⟨hj, hlj⟩
      · rfl
      · rw [hnx] at h5; cases h5
        rw [hpi j hj] at h6
        simp only [Pl.blk, Option.some.injEq] at h7
        subst h7
        have := (owned_lt h hlj h4 h6 h8).1
        omega
    · rcases hlook j oj h2 with ⟨rfl, rfl⟩ | ⟨hj, hlj⟩
      · rw [hnx] at h6; cases h6
        rw [hpi i hi] at h5
        simp only [Pl.blk, Option.some.injEq] at h8
        subst h8
        have := (owned_lt h hli h3 h5 h7).1
        omega
      · rw [hpi i hi] at h5
        rw [hpi j hj] at h6
        exact h.apart i j oi oj pi pj b hli hlj h3 h4 h5 h6 h7 h8
  · intro b hb
    rcases hown b hb with h1 | h1
    · exact ⟨(h.out b h1).1, by have := (h.out b h1).2; omega⟩
    · subst h1
      exact ⟨fun hS => by have := h.st _ hS; omega, by omega⟩
  · intro b hb; have := h.st b hb; omega
  · intro id hid
    by_cases e : id = nx
    · exact .inr (by omega)
    · rw [hpi id e] at hid; exact .inl hid
  · exact ⟨hos, htape, hout, by omega, fun b hb _ => hold b hb, fun _ hb => hb, fun b hb => .inl hb, fun b hb => (hown b hb).imp id (fun e => by omega)⟩

/-- One of the call's own blocks has turned. -/
theorem obs_turn {w w' : World} {S : Nat → Prop} {π : Nat → Option Pl} {look : Nat → Option Ob} {nx : Nat} {id : Nat} {ob ob' : Ob} {c : Obj} {b s cp z l : Nat} (h : ObsOk w S π look)
    (hl : look id = some ob) (hlive : ob.live = true) (hlive' : ob'.live = true) (hp : π id = some (.at b s cp z l)) (hu : Upd w b c w')
    (hob : Keep w S w' S → obOk w' S π ob' (.at b s cp z l)) :
    ObsOk w' S π (upd look [(id, ob')] nx []) ∧ Step w S (owned look π) w' S (owned (upd look [(id, ob')] nx []) π) := by
  have hlook : ∀ i o, upd look [(id, ob')] nx [] i = some o → (i = id ∧ o = ob') ∨ (i ≠ id ∧ look i = some o) := by
    intro i o ho
    simp only [upd, upLast, List.length_nil, Nat.add_zero] at ho
    by_cases e : id = i
    · rw [if_pos e] at ho; exact .inl ⟨e.symm, by simpa using ho.symm⟩
    · rw [if_neg e] at ho
      simp only at ho
      rw [if_neg (by omega)] at ho
      exact .inr ⟨fun h => e h.symm, ho⟩
  have hin := owned_lt h hl hlive hp rfl
  have hkeep : Keep w S w' S := ⟨fun k hk => hu.other k (fun e => hin.2 (e ▸ hk)), fun _ hb => hb⟩
  have hown : ∀ k, owned (upd look [(id, ob')] nx []) π k → owned look π k := by
    rintro k ⟨i, o, pl, h1, h2, h3, h4⟩
    rcases hlook i o h1 with ⟨rfl, rfl⟩ | ⟨hne, hli⟩
    · exact ⟨i, ob, pl, hl, hlive, h3, h4⟩
    · exact ⟨i, o, pl, hli, h2, h3, h4⟩
  have hlv : ∀ i o, upd look [(id, ob')] nx [] i = some o → o.live = true → ∃ o', look i = some o' ∧ o'.live = true := by
    intro i o ho hv
    rcases hlook i o ho with ⟨rfl, rfl⟩ | ⟨_, hli⟩
    · exact ⟨ob, hl, hlive⟩
    · exact ⟨o, hli, hv⟩
  refine ⟨⟨?_, ?_, ?_, ?_⟩, ?_⟩
  · intro i o ho
    rcases hlook i o ho with ⟨rfl, rfl⟩ | ⟨hne, hli⟩
    · exact ⟨_, hp, hob hkeep⟩
    · obtain ⟨pl, hpi, hk⟩ := h.ok i o hli
      refine ⟨pl, hpi, ?_⟩
      refine obOk_keep hkeep (Ext.refl _) _ pl (fun hv k hk2 => hu.other k ?_) hk
      intro e; subst e
      exact hne (h.apart i id _ _ pl _ _ hli hl hv hlive hpi hp hk2 rfl)
  · intro i j oi oj pi pj k h1 h2 h3 h4 h5 h6 h7 h8
    obtain ⟨oi', hi', vi⟩ := hlv i oi h1 h3
    obtain ⟨oj', hj', vj⟩ := hlv j oj h2 h4
    exact h.apart i j oi' oj' pi pj k hi' hj' vi vj h5 h6 h7 h8
  · intro k hk
    have := h.out k (hown k hk)
    exact ⟨this.1, by rw [hu.size]; exact this.2⟩
  · intro k hk; rw [hu.size]; exact h.st k hk
  · refine ⟨hu.os, hu.tape, hu.output, by rw [hu.size]; exact Nat.le_refl _, ?_, fun _ hb => hb, fun b hb => .inl hb, fun k hk => .inl (hown k hk)⟩
    intro k hk hno
    refine hu.other k (fun e => hno ?_)
    subst e
    exact ⟨id, ob, _, hl, hlive, hp, rfl⟩

end Go.Proofs.YtgpjnppakffoiaaV
