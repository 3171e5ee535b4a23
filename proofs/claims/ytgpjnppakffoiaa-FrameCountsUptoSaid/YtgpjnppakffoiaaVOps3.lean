/- The reading machine's operations are told rightly: reckoning, addresses, parts. -/
import Derived.Test.YtgpjnppakffoiaaVOps2
import Derived.WalkSpells
import Derived.Lib.SliceRun
namespace Go.Proofs.YtgpjnppakffoiaaV
open Go Go.RowKit

theorem asI_inv {p : PV} {k : IntKind} {n : Int} (h : p.asI k = some n) : p = .int k n := by
  cases p <;> simp only [PV.asI, reduceCtorEq] at h
  split at h
  · rename_i e; subst e; cases h; rfl
  · cases h
theorem asB_inv {p : PV} {b : Bool} (h : p.asB = some b) : p = .bool b := by cases p <;> simp only [PV.asB, reduceCtorEq, Option.some.injEq] at h; subst h; rfl
theorem asS_inv {p : PV} {s : ByteArray} (h : p.asS = some s) : p = .str s := by cases p <;> simp only [PV.asS, reduceCtorEq, Option.some.injEq] at h; subst h; rfl
theorem asFs_inv {p : PV} {es : List (List PV)} (h : p.asFs = some es) : p = .fs es := by cases p <;> simp only [PV.asFs, reduceCtorEq, Option.some.injEq] at h; subst h; rfl
theorem bind_inv {α β : Type} {o : Option α} {f : α → Option β} {b : β} (h : o.bind f = some b) : ∃ a, o = some a ∧ f a = some b := Option.bind_eq_some_iff.1 h

section
variable {P : Program} {T : TypeId → Option TI} {look : Nat → Option Ob} {nx : Nat} {ev : Operand → Option TV} {o : Oper} {v : TV} {up : List (Nat × Ob)} {nw : List Ob} {rd : List Nat}

theorem ret4_inv {tv : TV} {u : List (Nat × Ob)} {n : List Ob} {d : List Nat} (h : ret4 tv u n d = some (v, up, nw, rd)) : tv = v ∧ u = up ∧ n = nw ∧ d = rd := by
  simp only [ret4, Option.some.injEq, Prod.mk.injEq] at h; exact h

theorem ev_int {x : Operand} {k : IntKind} {n : Int} (hx : ev x = some (.val (.int k n))) {a : Act} {w : World} {S : Nat → Prop} {π : Nat → Option Pl} (hev : evOk ev a w S π) : a.eval x = .int k n := by
  have := hev x _ hx; simpa only [relTV, rel] using this
theorem ev_bool {x : Operand} {b : Bool} (hx : ev x = some (.val (.bool b))) {a : Act} {w : World} {S : Nat → Prop} {π : Nat → Option Pl} (hev : evOk ev a w S π) : a.eval x = .bool b := by
  have := hev x _ hx; simpa only [relTV, rel] using this
theorem ev_str {x : Operand} {s : ByteArray} (hx : ev x = some (.val (.str s))) {a : Act} {w : World} {S : Nat → Prop} {π : Nat → Option Pl} (hev : evOk ev a w S π) : a.eval x = .string s := by
  have := hev x _ hx; simpa only [relTV, rel] using this

theorem pick_ok {c x y : Operand} {p : PV} {u v' : TV} (ho : o.op = .pick c x y) (hc : ev c = some (.val p)) (hx : ev x = some u) (hy : ev y = some v')
    (h : (p.asB.bind fun t => cond t (ret4 u [] [] []) (ret4 v' [] [] [])) = some (v, up, nw, rd)) : OpOk P look nx ev o v up nw := by
  obtain ⟨t, ht, h⟩ := bind_inv h
  have := asB_inv ht
  subst this
  cases t
  · have h : ret4 v' [] [] [] = some (v, up, nw, rd) := h
    obtain ⟨rfl, rfl, rfl, rfl⟩ := ret4_inv h
    exact opOk_pure fun a w S π hev _ => ⟨a.eval y, by simp [execOp, ho, ev_bool hc hev, asBool], hev _ _ hy⟩
  · have h : ret4 u [] [] [] = some (v, up, nw, rd) := h
    obtain ⟨rfl, rfl, rfl, rfl⟩ := ret4_inv h
    exact opOk_pure fun a w S π hev _ => ⟨a.eval x, by simp [execOp, ho, ev_bool hc hev, asBool], hev _ _ hx⟩

theorem nilCheck_ok {x : Operand} {tv : TV} (ho : o.op = .nilCheck x) (hx : ev x = some tv)
    (hk : (∃ i j, tv = .ref i j) ∨ (∃ i j m, tv = .eref i j m) ∨ (∃ cs off, tv = .val (.rp cs off)) ∨ (∃ f cs, tv = .val (.fn (.func f) cs)) ∨ (∃ f cs, tv = .fn (.func f) cs))
    (h : ret4 tv [] [] [] = some (v, up, nw, rd)) : OpOk P look nx ev o v up nw := by
  obtain ⟨rfl, rfl, rfl, rfl⟩ := ret4_inv h
  refine opOk_pure fun a w S π hev _ => ⟨a.eval x, ?_, hev x _ hx⟩
  have hv := hev x _ hx
  rcases hk with ⟨i, j, rfl⟩ | ⟨i, j, m, rfl⟩ | ⟨cs, off, rfl⟩ | ⟨f, cs, rfl⟩ | ⟨f, cs, rfl⟩ <;> simp only [relTV, rel] at hv
  · obtain ⟨b, s, c, z, l, _, he⟩ := hv; simp [execOp, ho, he]
  · obtain ⟨b, s, c, z, l, _, he⟩ := hv; simp [execOp, ho, he]
  · obtain ⟨b, s, he, _⟩ := hv; simp [execOp, ho, he]
  · obtain ⟨us, he, _⟩ := hv; simp [execOp, ho, he]
  · obtain ⟨us, he, _⟩ := hv; simp [execOp, ho, he]

theorem intK_ok {R : Type} {op : BinOp} {ik : IntKind} {a b : Int} {k : PV → Option R} {r : R} {t : TypeId} (h : intK op ik a b k = some r) (h1 : op ≠ .shl) (h2 : op ≠ .shr) :
    ∃ p, k p = some r ∧ ∀ (w : World) (S : Nat → Prop), ∃ u, (binOp op t (.int ik a) (.int ik b)).run P w = .ok u w ∧ rel w S p u := by
  cases op <;> simp only [intK, reduceCtorEq] at h <;> try exact absurd rfl h1
  all_goals try exact absurd rfl h2
  case quo =>
    split at h
    · cases h
    · rename_i hb
      refine ⟨_, h, fun w S => ⟨_, ?_, by simp only [rel]; exact rfl⟩⟩
      simp [Op.intDiv, hb, binOp_quo]
  case rem =>
    split at h
    · cases h
    · rename_i hb
      refine ⟨_, h, fun w S => ⟨_, ?_, by simp only [rel]; exact rfl⟩⟩
      simp [Op.intDiv, hb, binOp_rem]
  all_goals
    refine ⟨_, h, fun w S => ⟨_, ?_, by simp only [rel]; exact rfl⟩⟩
    first
      | (rw [binOp_add]; rfl) | (rw [binOp_sub]; rfl) | (rw [binOp_mul]; rfl) | (rw [binOp_and]; rfl) | (rw [binOp_or]; rfl) | (rw [binOp_xor]; rfl) | (rw [binOp_andNot]; rfl)
      | (rw [binOp_eql]; rfl) | (rw [binOp_neq]; rfl) | (rw [binOp_lss]; rfl) | (rw [binOp_leq]; rfl) | (rw [binOp_gtr]; rfl) | (rw [binOp_geq]; rfl)

theorem shiftK_ok {R : Type} {op : BinOp} {ik yk : IntKind} {a b : Int} {k : PV → Option R} {r : R} {t : TypeId} (h : shiftK op ik a b k = some r) (hop : op = .shl ∨ op = .shr) :
    ∃ p, k p = some r ∧ ∀ (w : World) (S : Nat → Prop), ∃ u, (binOp op t (.int ik a) (.int yk b)).run P w = .ok u w ∧ rel w S p u := by
  unfold shiftK at h
  split at h
  · cases h
  · rename_i hb
    rcases hop with rfl | rfl
    · refine ⟨_, h, fun w S => ⟨_, ?_, by simp only [rel]; exact rfl⟩⟩
      simp [binOp_shl, Op.shift, hb]
    · refine ⟨_, h, fun w S => ⟨_, ?_, by simp only [rel]; exact rfl⟩⟩
      simp [binOp_shr, Op.shift, hb]

theorem strK_ok {R : Type} {op : BinOp} {a b : ByteArray} {k : PV → Option R} {r : R} {t : TypeId} (h : strK op a b k = some r) :
    ∃ p, k p = some r ∧ ∀ (w : World) (S : Nat → Prop), ∃ u, (binOp op t (.string a) (.string b)).run P w = .ok u w ∧ rel w S p u := by
  cases op <;> simp only [strK, reduceCtorEq] at h
  case add =>
    split at h
    · rename_i hl
      refine ⟨_, h, fun w S => ⟨.string (a ++ b), ?_, by simp only [rel]⟩⟩
      rw [binOp_string_add]
      simp only [Op.stringOp, IntKind.max_i64]
      rw [if_neg (by omega)]
      rfl
    · cases h
  all_goals
    refine ⟨_, h, fun w S => ⟨_, ?_, by simp only [rel]; exact rfl⟩⟩
    first | (rw [binOp_string_eql]; rfl) | (rw [binOp_string_neq]; rfl) | (rw [binOp_string_lss]; rfl)

/-- The type of a plain value. -/
def plainD (P : Program) (t : TypeId) : Prop := P.underlying t = some .bool ∨ (∃ k, P.underlying t = some (.int k)) ∨ P.underlying t = some .string
theorem plainT_ok {t : TypeId} (hT : TOk P T) (h : plainT T t = true) : plainD P t ∧ ∃ i, T t = some i ∧ i.desc.isAgg = false := by
  unfold plainT at h
  split at h
  · rename_i a b z hi; exact ⟨.inl (hT t _ hi).desc, _, hi, rfl⟩
  · rename_i a b k z hi; exact ⟨.inr (.inl ⟨k, (hT t _ hi).desc⟩), _, hi, rfl⟩
  · rename_i a b z hi; exact ⟨.inr (.inr (hT t _ hi).desc), _, hi, rfl⟩
  · cases h

theorem eqvT_ok {t : TypeId} {p q : PV} {b : Bool} (hT : TOk P T) (h : eqvT T t p q = some b) {w : World} {S : Nat → Prop} {u u' : Value} (hp : rel w S p u) (hq : rel w S q u') (d : Nat) :
    (Op.equalIn (d + 1) t u u').run P w = .ok b w ∧ ((∃ k n m, u = .int k n ∧ u' = .int k m ∧ b = (n == m)) ∨ (∃ x y, u = .bool x ∧ u' = .bool y ∧ b = (x == y)) ∨ (∃ x y, u = .string x ∧ u' = .string y ∧ b = (x == y))) := by
  unfold eqvT at h
  split at h
  · rename_i sz by' ik z hi
    obtain ⟨n, hn, h'⟩ := bind_inv h
    obtain ⟨m, hm, h''⟩ := bind_inv h'
    clear h h'
    have h := h''; clear h''
    rw [asI_inv hn] at hp
    rw [asI_inv hm] at hq
    simp only [rel] at hp hq
    cases h
    subst hp hq
    exact ⟨run_equalIn_int w d t _ _ _ _ (hT t _ hi).desc, .inl ⟨_, _, _, rfl, rfl, rfl⟩⟩
  · rename_i sz by' z hi
    obtain ⟨n, hn, h'⟩ := bind_inv h
    obtain ⟨m, hm, h''⟩ := bind_inv h'
    clear h h'
    have h := h''; clear h''
    rw [asB_inv hn] at hp
    rw [asB_inv hm] at hq
    simp only [rel] at hp hq
    cases h
    subst hp hq
    exact ⟨run_equalIn_bool w d t _ _ (hT t _ hi).desc, .inr (.inl ⟨_, _, rfl, rfl, rfl⟩)⟩
  · rename_i sz by' z hi
    obtain ⟨n, hn, h'⟩ := bind_inv h
    obtain ⟨m, hm, h''⟩ := bind_inv h'
    clear h h'
    have h := h''; clear h''
    rw [asS_inv hn] at hp
    rw [asS_inv hm] at hq
    simp only [rel] at hp hq
    cases h
    subst hp hq
    exact ⟨run_equalIn_string w d t _ _ (hT t _ hi).desc, .inr (.inr ⟨_, _, rfl, rfl, (beq_toListBytes _ _).symm⟩)⟩
  · cases h

theorem eqvT_plain {t : TypeId} {p q : PV} {b : Bool} (h : eqvT T t p q = some b) : plainT T t = true := by
  unfold eqvT at h
  unfold plainT
  split at h <;> simp_all

theorem run_part_one {t : TypeId} {i : TI} (h : TyOk P t i) (hd : i.desc.isAgg = false) {cs : Array Value} {off : Nat} {u : Value} (hu : cs[off]? = some u) (w : World) : (part t cs off).run P w = .ok u w := by
  simp only [part, Sem.run_bind, run_isAgg h, hd, Result.andThen_ok, Bool.false_eq_true, if_false, hu, Sem.run_pure]

theorem eqvs_ok (hT : TOk P T) {w : World} {S : Nat → Prop} {d : Nat} : ∀ (F : List Field) (j : Nat) (ps qs : List PV) (b : Bool) (xs ys : Array Value), eqvs T (F.map fun f => (f.type, f.offset)) ps qs = some b → (∀ f ∈ F, f.name ≠ "_") →
    (F.map (·.offset)) = (List.range F.length).map (· + j) → relL w S ps (xs.toList.drop j) → relL w S qs (ys.toList.drop j) → (Op.eqFields (d + 1) xs ys F).run P w = .ok b w
  | [], j, ps, qs, b, xs, ys, h, _, _, _, _ => by
    cases ps <;> cases qs <;> simp only [List.map_nil, eqvs, reduceCtorEq, Option.some.injEq] at h
    subst h
    simp [Op.eqFields]
  | f :: F, j, ps, qs, b, xs, ys, h, hn, ho, hp, hq => by
    cases ps <;> cases qs <;> simp only [List.map_cons, eqvs, reduceCtorEq] at h
    rename_i p ps q qs
    obtain ⟨b1, h1, h⟩ := bind_inv h
    obtain ⟨b2, h2, h⟩ := bind_inv h
    cases h
    simp only [relL] at hp hq
    obtain ⟨u, us, hu, hp1, hp2⟩ := hp
    obtain ⟨u', us', hu', hq1, hq2⟩ := hq
    simp only [List.map_cons, List.length_cons, List.range_succ_eq_map, List.map_map] at ho
    have ho0 : f.offset = j := by have := (List.cons.inj ho).1; simpa using this
    have ho1 : F.map (·.offset) = (List.range F.length).map (· + (j + 1)) := by
      have := (List.cons.inj ho).2
      rw [this]
      apply List.map_congr_left
      intro x _
      simp only [Function.comp_apply]
      omega
    obtain ⟨_, i, hi, hd⟩ := plainT_ok hT (eqvT_plain h1)
    have e1 : xs[f.offset]? = some u := by
      rw [ho0]
      have := congrArg (fun l : List Value => l[0]?) hu
      simpa [List.getElem?_drop] using this
    have e2 : ys[f.offset]? = some u' := by
      rw [ho0]
      have := congrArg (fun l : List Value => l[0]?) hu'
      simpa [List.getElem?_drop] using this
    have r1 := run_part_one (hT _ _ hi) hd e1 w
    have r2 := run_part_one (hT _ _ hi) hd e2 w
    obtain ⟨r3, _⟩ := eqvT_ok hT h1 hp1 hq1 d
    have hn0 := hn f (by simp)
    have d1 : xs.toList.drop (j + 1) = us := by
      have := congrArg List.tail hu
      simpa using this
    have d2 : ys.toList.drop (j + 1) = us' := by
      have := congrArg List.tail hu'
      simpa using this
    have ih := eqvs_ok hT (d := d) F (j + 1) ps qs b2 xs ys h2 (fun g hg => hn g (by simp [hg])) ho1 (by rw [d1]; exact hp2) (by rw [d2]; exact hq2)
    simp only [Op.eqFields]
    rw [if_pos hn0]
    simp only [Sem.run_bind, r1, r2, r3, Result.andThen_ok]
    cases b1
    · simp
    · simpa using ih

theorem bin_struct {t : TypeId} {i : TI} {fs : List (TypeId × Nat)} {ps qs : List PV} {b : Bool} (hT : TOk P T) (hi : T t = some i) (hd : i.desc = .struct fs) (ho : fs.map (·.2) = List.range fs.length) (h : eqvs T fs ps qs = some b) {w : World} {S : Nat → Prop}
    {xs ys : Array Value} (hp : relL w S ps xs.toList) (hq : relL w S qs ys.toList) (X Y : Operand) :
    ((do eqGuard .eql t X Y (.agg xs) (.agg ys); binOp .eql t (.agg xs) (.agg ys)) : Sem Value).run P w = .ok (.bool b) w ∧ ((do eqGuard .neq t X Y (.agg xs) (.agg ys); binOp .neq t (.agg xs) (.agg ys)) : Sem Value).run P w = .ok (.bool (!b)) w := by
  have hdesc := (hT t i hi).desc
  rw [hd] at hdesc
  simp only [descOk] at hdesc
  obtain ⟨F, hu, hF, hn, hst, heg⟩ := hdesc
  have hfo : P.fieldsOf t = F := by simp [Program.fieldsOf, hu]
  have he : (Op.equal t (.agg xs) (.agg ys)).run P w = .ok b w := by
    unfold Op.equal Op.maxDepth
    rw [run_equalIn_struct w 9999 t xs ys (by rw [hfo]; exact hu) hst, hfo]
    refine eqvs_ok hT F.toList 0 ps qs b xs ys (by rw [hF]; exact h) hn ?_ (by simpa using hp) (by simpa using hq)
    rw [← hF] at ho
    simpa [Function.comp_def] using ho
  constructor
  · simp [eqGuard, binOp, heg, he]
  · simp [eqGuard, binOp, heg, he]

def nilF : Value → Bool | .nilFunc => true | _ => false
theorem bin_ok {op : BinOp} {xt yt : TypeId} {x y : Operand} {u u' : TV} (hT : TOk P T) (ho : o.op = .binOp op xt x y yt) (hx : ev x = some u) (hy : ev y = some u')
    (h : binK T op xt yt u u' (fun p => ret4 (.val p) [] [] []) = some (v, up, nw, rd)) : OpOk P look nx ev o v up nw := by
  have fin : ∀ p, ret4 (.val p) [] [] [] = some (v, up, nw, rd) → (∀ a w S π, evOk ev a w S π → ObsOk w S π look → ∃ z, ((do eqGuard op xt x y (a.eval x) (a.eval y); binOp op xt (a.eval x) (a.eval y)) : Sem Value).run P w = .ok z w ∧ rel w S p z) → OpOk P look nx ev o v up nw := by
    intro p h hr
    obtain ⟨rfl, rfl, rfl, rfl⟩ := ret4_inv h
    refine opOk_pure fun a w S π hev hob => ?_
    obtain ⟨z, h1, h2⟩ := hr a w S π hev hob
    refine ⟨z, ?_, by simpa only [relTV] using h2⟩
    simp only [execOp, ho, Sem.run_bind] at h1 ⊢
    rw [h1]
    rfl
  unfold binK at h
  split at h
  · rename_i sz by' ik z hi
    split at h
    · rename_i p q
      by_cases hs : op = .shl ∨ op = .shr
      · replace h : (match T yt with | some ⟨_, _, .int yk, _⟩ => (p.asI ik).bind fun a => (q.asI yk).bind fun b => shiftK op ik a b (fun p => ret4 (.val p) [] [] []) | _ => none) = some (v, up, nw, rd) := by
          rcases hs with rfl | rfl <;> exact h
        split at h
        · rename_i yk _ _
          obtain ⟨n, hn, h'⟩ := bind_inv h
          obtain ⟨m, hm, h''⟩ := bind_inv h'
          clear h h'
          have h := h''; clear h''
          cases asI_inv hn
          cases asI_inv hm
          obtain ⟨p, h, hr⟩ := shiftK_ok (P := P) (yk := yk) (t := xt) h hs
          refine fin p h fun a w S π hev _ => ?_
          obtain ⟨z, h1, h2⟩ := hr w S
          refine ⟨z, ?_, h2⟩
          rw [ev_int hx hev, ev_int hy hev, eqGuard_at_int]
          simpa using h1
        · cases h
      · replace h : ((p.asI ik).bind fun a => (q.asI ik).bind fun b => intK op ik a b (fun p => ret4 (.val p) [] [] [])) = some (v, up, nw, rd) := by
          cases op <;> first | exact h | exact absurd (.inl rfl) hs | exact absurd (.inr rfl) hs
        obtain ⟨n, hn, h'⟩ := bind_inv h
        obtain ⟨m, hm, h''⟩ := bind_inv h'
        clear h h'
        have h := h''; clear h''
        cases asI_inv hn
        cases asI_inv hm
        obtain ⟨p, h, hr⟩ := intK_ok (P := P) (t := xt) h (fun e => hs (.inl e)) (fun e => hs (.inr e))
        refine fin p h fun a w S π hev _ => ?_
        obtain ⟨z, h1, h2⟩ := hr w S
        refine ⟨z, ?_, h2⟩
        rw [ev_int hx hev, ev_int hy hev, eqGuard_at_int]
        simpa using h1
    · cases h
  · rename_i sz by' z hi
    split at h
    · rename_i p q
      obtain ⟨n, hn, h'⟩ := bind_inv h
      obtain ⟨m, hm, h''⟩ := bind_inv h'
      clear h h'
      have h := h''; clear h''
      cases asS_inv hn
      cases asS_inv hm
      obtain ⟨p, h, hr⟩ := strK_ok (P := P) (t := xt) h
      refine fin p h fun a w S π hev _ => ?_
      obtain ⟨z, h1, h2⟩ := hr w S
      refine ⟨z, ?_, h2⟩
      rw [ev_str hx hev, ev_str hy hev, eqGuard_at_string]
      simpa using h1
    · cases h
  · rename_i sz by' z hi
    have hd := (hT xt _ hi).desc
    simp only [descOk] at hd
    split at h
    · rename_i p q
      split at h
      · obtain ⟨n, hn, h'⟩ := bind_inv h
        obtain ⟨m, hm, h''⟩ := bind_inv h'
        clear h h'
        have h := h''; clear h''
        cases asB_inv hn
        cases asB_inv hm
        refine fin _ h fun a w S π hev _ => ⟨_, ?_, by simp only [rel]; exact rfl⟩
        rw [ev_bool hx hev, ev_bool hy hev, eqGuard_at_bool]
        simpa using run_eql_bool w xt n m hd
      · obtain ⟨n, hn, h'⟩ := bind_inv h
        obtain ⟨m, hm, h''⟩ := bind_inv h'
        clear h h'
        have h := h''; clear h''
        cases asB_inv hn
        cases asB_inv hm
        refine fin _ h fun a w S π hev _ => ⟨_, ?_, by simp only [rel]; exact rfl⟩
        rw [ev_bool hx hev, ev_bool hy hev, eqGuard_at_bool]
        simpa [bne] using run_neq_bool w xt n m hd
      · cases h
    · cases h
  · rename_i sz by' fs z hi
    split at h
    · rename_i hfs
      simp only [Bool.and_eq_true, beq_iff_eq] at hfs
      split at h
      · rename_i p q
        split at h
        · obtain ⟨ps, hps, h⟩ := bind_inv h
          obtain ⟨qs, hqs, h⟩ := bind_inv h
          obtain ⟨b, hb, h⟩ := bind_inv h
          refine fin _ h fun a w S π hev _ => ⟨_, ?_, by simp only [rel]; exact rfl⟩
          have r1 := hev x _ hx
          have r2 := hev y _ hy
          cases p <;> simp only [PV.asAgg, reduceCtorEq, Option.some.injEq] at hps
          cases q <;> simp only [PV.asAgg, reduceCtorEq, Option.some.injEq] at hqs
          subst hps hqs
          simp only [relTV, rel] at r1 r2
          obtain ⟨us, e1, _, l1⟩ := r1
          obtain ⟨vs, e2, _, l2⟩ := r2
          rw [e1, e2]
          exact (bin_struct hT hi rfl hfs.2 hb l1 l2 x y).1
        · obtain ⟨ps, hps, h⟩ := bind_inv h
          obtain ⟨qs, hqs, h⟩ := bind_inv h
          obtain ⟨b, hb, h⟩ := bind_inv h
          refine fin _ h fun a w S π hev _ => ⟨_, ?_, by simp only [rel]; exact rfl⟩
          have r1 := hev x _ hx
          have r2 := hev y _ hy
          cases p <;> simp only [PV.asAgg, reduceCtorEq, Option.some.injEq] at hps
          cases q <;> simp only [PV.asAgg, reduceCtorEq, Option.some.injEq] at hqs
          subst hps hqs
          simp only [relTV, rel] at r1 r2
          obtain ⟨us, e1, _, l1⟩ := r1
          obtain ⟨vs, e2, _, l2⟩ := r2
          rw [e1, e2]
          exact (bin_struct hT hi rfl hfs.2 hb l1 l2 x y).2
        · cases h
      · cases h
    · cases h
  · rename_i sz by' e z hi
    have hd := (hT xt _ hi).desc
    simp only [descOk] at hd
    have eqp : ∀ (d : Nat) (w : World) (A B : Option Addr), (A = none ∨ B = none) → (Op.equalIn (d + 1) xt (.pointer A) (.pointer B)).run P w = .ok (A.isNone && B.isNone) w := by
      intro d w A B hAB
      cases A <;> cases B <;> simp only [reduceCtorEq, or_self] at hAB <;> simp [Op.equalIn, run_underlying hd]
    have nn : ∀ (op : BinOp) (w : World) (A B : Option Addr), (A = none ∨ B = none) → ∀ b, (A.isNone && B.isNone) = b → op = .eql ∨ op = .neq → ((do eqGuard op xt x y (.pointer A) (.pointer B); binOp op xt (.pointer A) (.pointer B)) : Sem Value).run P w = .ok (.bool (if op = .eql then b else !b)) w := by
      intro op w A B hAB b hb hop
      rw [eqGuard_at_pointer]
      subst hb
      have e := eqp 9999 w A B hAB
      have e' : (Op.equal xt (.pointer A) (.pointer B)).run P w = .ok (A.isNone && B.isNone) w := e
      rcases hop with rfl | rfl
      · have : binOp .eql xt (.pointer A) (.pointer B) = (do pure (.bool (← Op.equal xt (.pointer A) (.pointer B))) : Sem Value) := by cases A <;> cases B <;> rfl
        rw [this]
        simp [e']
      · have : binOp .neq xt (.pointer A) (.pointer B) = (do pure (.bool (!(← Op.equal xt (.pointer A) (.pointer B)))) : Sem Value) := by cases A <;> cases B <;> rfl
        rw [this]
        simp [e']
    split at h
    · rename_i i j
      split at h
      · refine fin _ h fun a w S π hev _ => ?_
        have r1 := hev x _ hx
        have r2 := hev y _ hy
        simp only [relTV, rel] at r1 r2
        obtain ⟨b, s, c, z', l, _, e1⟩ := r1
        rw [e1, r2]
        exact ⟨_, nn .eql w _ _ (.inr rfl) _ rfl (.inl rfl), by simp only [rel]; rfl⟩
      · refine fin _ h fun a w S π hev _ => ?_
        have r1 := hev x _ hx
        have r2 := hev y _ hy
        simp only [relTV, rel] at r1 r2
        obtain ⟨b, s, c, z', l, _, e1⟩ := r1
        rw [e1, r2]
        exact ⟨_, nn .neq w _ _ (.inr rfl) _ rfl (.inr rfl), by simp only [rel]; rfl⟩
      · cases h
    · split at h
      · refine fin _ h fun a w S π hev _ => ?_
        have r1 := hev x _ hx
        have r2 := hev y _ hy
        simp only [relTV, rel] at r1 r2
        rw [r1, r2]
        exact ⟨_, nn .eql w _ _ (.inr rfl) _ rfl (.inl rfl), by simp only [rel]; rfl⟩
      · refine fin _ h fun a w S π hev _ => ?_
        have r1 := hev x _ hx
        have r2 := hev y _ hy
        simp only [relTV, rel] at r1 r2
        rw [r1, r2]
        exact ⟨_, nn .neq w _ _ (.inr rfl) _ rfl (.inr rfl), by simp only [rel]; rfl⟩
      · cases h
    · rename_i cs off
      split at h
      · refine fin _ h fun a w S π hev _ => ?_
        have r1 := hev x _ hx
        have r2 := hev y _ hy
        simp only [relTV, rel] at r1 r2
        obtain ⟨b, s, e1, _⟩ := r1
        rw [e1, r2]
        exact ⟨_, nn .eql w _ _ (.inr rfl) _ rfl (.inl rfl), by simp only [rel]; rfl⟩
      · refine fin _ h fun a w S π hev _ => ?_
        have r1 := hev x _ hx
        have r2 := hev y _ hy
        simp only [relTV, rel] at r1 r2
        obtain ⟨b, s, e1, _⟩ := r1
        rw [e1, r2]
        exact ⟨_, nn .neq w _ _ (.inr rfl) _ rfl (.inr rfl), by simp only [rel]; rfl⟩
      · cases h
    · cases h
  · rename_i sz by' z hi
    have hd := (hT xt _ hi).desc
    simp only [descOk] at hd
    obtain ⟨A, B, C, hd⟩ := hd
    have eqp : ∀ (d : Nat) (w : World) (u : Value), (u = .nilFunc ∨ ∃ f a c, u = .func f a c) → (Op.equalIn (d + 1) xt u .nilFunc).run P w = .ok (nilF u) w := by
      intro d w u hu
      rcases hu with rfl | ⟨f, a, c, rfl⟩ <;> simp [Op.equalIn, run_underlying hd, nilF]
    have nn : ∀ (op : BinOp) (w : World) (u : Value), (u = .nilFunc ∨ ∃ f a c, u = .func f a c) → ∀ b, (nilF u) = b → op = .eql ∨ op = .neq → ((do eqGuard op xt x y u .nilFunc; binOp op xt u .nilFunc) : Sem Value).run P w = .ok (.bool (if op = .eql then b else !b)) w := by
      intro op w u hu b hb hop
      subst hb
      have e := eqp 9999 w u hu
      have e' : (Op.equal xt u .nilFunc).run P w = .ok (nilF u) w := e
      rcases hu with rfl | ⟨f, a, c, rfl⟩
      · rw [eqGuard_at_nilFunc]
        rcases hop with rfl | rfl
        · have : binOp .eql xt .nilFunc .nilFunc = (do pure (.bool (← Op.equal xt .nilFunc .nilFunc)) : Sem Value) := rfl
          rw [this]; simp [e']
        · have : binOp .neq xt .nilFunc .nilFunc = (do pure (.bool (!(← Op.equal xt .nilFunc .nilFunc))) : Sem Value) := rfl
          rw [this]; simp [e']
      · rw [eqGuard_at_func]
        rcases hop with rfl | rfl
        · have : binOp .eql xt (.func f a c) .nilFunc = (do pure (.bool (← Op.equal xt (.func f a c) .nilFunc)) : Sem Value) := rfl
          rw [this]; simp [e']
        · have : binOp .neq xt (.func f a c) .nilFunc = (do pure (.bool (!(← Op.equal xt (.func f a c) .nilFunc))) : Sem Value) := rfl
          rw [this]; simp [e']
    split at h
    · split at h
      · refine fin _ h fun a w S π hev _ => ?_
        have r1 := hev x _ hx
        have r2 := hev y _ hy
        simp only [relTV, rel] at r1 r2
        obtain ⟨us, e1, _⟩ := r1
        rw [e1, r2]
        exact ⟨_, nn .eql w _ (.inr ⟨_, _, _, rfl⟩) _ rfl (.inl rfl), by simp only [rel]; rfl⟩
      · refine fin _ h fun a w S π hev _ => ?_
        have r1 := hev x _ hx
        have r2 := hev y _ hy
        simp only [relTV, rel] at r1 r2
        obtain ⟨us, e1, _⟩ := r1
        rw [e1, r2]
        exact ⟨_, nn .neq w _ (.inr ⟨_, _, _, rfl⟩) _ rfl (.inr rfl), by simp only [rel]; rfl⟩
      · cases h
    · split at h
      · refine fin _ h fun a w S π hev _ => ?_
        have r1 := hev x _ hx
        have r2 := hev y _ hy
        simp only [relTV, rel] at r1 r2
        obtain ⟨us, e1, _⟩ := r1
        rw [e1, r2]
        exact ⟨_, nn .eql w _ (.inr ⟨_, _, _, rfl⟩) _ rfl (.inl rfl), by simp only [rel]; rfl⟩
      · refine fin _ h fun a w S π hev _ => ?_
        have r1 := hev x _ hx
        have r2 := hev y _ hy
        simp only [relTV, rel] at r1 r2
        obtain ⟨us, e1, _⟩ := r1
        rw [e1, r2]
        exact ⟨_, nn .neq w _ (.inr ⟨_, _, _, rfl⟩) _ rfl (.inr rfl), by simp only [rel]; rfl⟩
      · cases h
    · split at h
      · refine fin _ h fun a w S π hev _ => ?_
        have r1 := hev x _ hx
        have r2 := hev y _ hy
        simp only [relTV, rel] at r1 r2
        rw [r1, r2]
        exact ⟨_, nn .eql w _ (.inl rfl) _ rfl (.inl rfl), by simp only [rel]; rfl⟩
      · refine fin _ h fun a w S π hev _ => ?_
        have r1 := hev x _ hx
        have r2 := hev y _ hy
        simp only [relTV, rel] at r1 r2
        rw [r1, r2]
        exact ⟨_, nn .neq w _ (.inl rfl) _ rfl (.inr rfl), by simp only [rel]; rfl⟩
      · cases h
    · cases h
  · cases h

end
end Go.Proofs.YtgpjnppakffoiaaV
