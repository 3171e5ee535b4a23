/- The reading machine's operations are told rightly: parts of tuples, lengths, conversions, iterators. -/
import Derived.Test.YtgpjnppakffoiaaVOps5
import Derived.Laws.RangeString
namespace Go.Proofs.YtgpjnppakffoiaaV
open Go Go.RowKit

section
variable {P : Program} {T : TypeId → Option TI} {look : Nat → Option Ob} {nx : Nat} {ev : Operand → Option TV} {o : Oper} {v : TV} {up : List (Nat × Ob)} {nw : List Ob} {rd : List Nat}

theorem extract_ok {x : Operand} {i : Nat} {u : TV} (ho : o.op = .extract x i) (hx : ev x = some u)
    (h : (match u with
      | .tuple vs => match vs[i]? with | some v => ret4 v [] [] [] | none => none
      | .val p => (p.proj i).bind fun c => coeK T o.type c fun c => ret4 (.val c) [] [] []
      | _ => none) = some (v, up, nw, rd)) : OpOk P look nx ev o v up nw := by
  have hexec : ∀ (a : Act) (w : World) (r : Value), (Instr.extract (a.eval x) i).run P w = .ok r w → (execOp a.eval o).run P w = .ok (.value r) w := by
    intro a w r hr
    simp [execOp, ho, hr]
  cases u <;> simp only [reduceCtorEq] at h
  case tuple vs =>
    split at h
    · rename_i z hz
      obtain ⟨rfl, rfl, rfl, rfl⟩ := ret4_inv h
      refine opOk_pure fun a w S π hev hob => ?_
      have hv := hev x _ hx
      simp only [relTV] at hv
      obtain ⟨us, he, hr⟩ := hv
      obtain ⟨y, hy, hzy⟩ := relTVs_get hr hz
      refine ⟨y, hexec a w _ ?_, hzy⟩
      rw [he]
      simp only [Array.getElem?_toList] at hy
      simp [Instr.extract, hy]
    · cases h
  case val p =>
    obtain ⟨c, hc, h'⟩ := bind_inv h
    obtain ⟨h1, _⟩ := coeK_spec h'
    obtain ⟨rfl, rfl, rfl, rfl⟩ := ret4_inv h1
    refine opOk_pure fun a w S π hev hob => ?_
    have hv := hev x _ hx
    simp only [relTV] at hv
    cases p <;> simp only [PV.proj, reduceCtorEq] at hc
    simp only [rel] at hv
    obtain ⟨us, he, hr⟩ := hv
    obtain ⟨y, hy, hzy⟩ := relL_get hr hc
    refine ⟨y, hexec a w _ ?_, by simpa only [relTV] using hzy⟩
    rw [he]
    simp only [Array.getElem?_toList] at hy
    simp [Instr.extract, hy]

theorem run_getObj_at {w : World} {r : Nat} {x : Obj} (h : w.heap[r]? = some x) (hx : (x matches .cells _ _ _) = false) : (getObj r).run P w = .ok x w := by
  cases x <;> simp [getObj, Sem.run, h] at hx ⊢
theorem run_setObj_at {w : World} {r : Nat} {x y : Obj} (h : w.heap[r]? = some x) (hx : (x matches .cells _ _ _) = false) : ∃ w', (setObj r y).run P w = .ok () w' ∧ Upd w r y w' := by
  refine ⟨{ w with heap := w.heap.setIfInBounds r y }, ?_, rfl, rfl, rfl, by simp, ?_, ?_⟩
  · cases x <;> simp [setObj, Sem.run, h] at hx ⊢
  · intro k hk
    simp only [Array.getElem?_setIfInBounds]
    rw [if_neg (fun e => hk e.symm)]
  · have : r < w.heap.size := by
      cases hl : decide (r < w.heap.size) with
      | true => simpa using hl
      | false => rw [Array.getElem?_eq_none (by simpa using hl)] at h; cases h
    simp [this]

theorem relKV_length {w : World} {S : Nat → Prop} : ∀ {kvs : List (PV × PV)} {l : List MapEntry}, relKV w S kvs l → kvs.length = l.length
  | [], l, h => by simp only [relKV] at h; subst h; rfl
  | kv :: kvs, l, h => by
    simp only [relKV] at h
    obtain ⟨e, es', rfl, _, _, h3⟩ := h
    simp only [List.length_cons, relKV_length h3]

theorem list_one {α : Type} {l : List α} {f : α → Option TV} {x : TV} (h : allSome (l.map f) = some [x]) : ∃ a, l = [a] ∧ f a = some x := by
  cases l with
  | nil => simp [allSome] at h
  | cons a l =>
    simp only [List.map_cons] at h
    cases ha : f a with
    | none => rw [ha] at h; simp [allSome] at h
    | some y =>
      rw [ha] at h
      simp only [allSome] at h
      cases l with
      | nil => simp [allSome] at h; subst h; exact ⟨a, rfl, ha⟩
      | cons b l =>
        simp only [List.map_cons] at h
        split at h
        · rename_i r hr
          simp only [Option.some.injEq, List.cons.injEq] at h
          obtain ⟨rfl, rfl⟩ := h
          cases hb : f b <;> rw [hb] at hr <;> simp only [allSome] at hr
          · cases hr
          · split at hr <;> cases hr
        · cases h
theorem list_two {α : Type} {l : List α} {f : α → Option TV} {x y : TV} (h : allSome (l.map f) = some [x, y]) : ∃ a b, l = [a, b] ∧ f a = some x ∧ f b = some y := by
  cases l with
  | nil => simp [allSome] at h
  | cons a l =>
    simp only [List.map_cons] at h
    cases ha : f a with
    | none => rw [ha] at h; simp [allSome] at h
    | some z =>
      rw [ha] at h
      simp only [allSome] at h
      split at h
      · rename_i r hr
        simp only [Option.some.injEq, List.cons.injEq] at h
        obtain ⟨rfl, rfl⟩ := h
        obtain ⟨b, rfl, hb⟩ := list_one hr
        exact ⟨a, b, rfl, ha, hb⟩
      · cases h

theorem arr_one {α : Type} {a : Array α} {x : α} (h : a.toList = [x]) : a = #[x] := by apply Array.ext'; simpa using h
theorem arr_two {α : Type} {a : Array α} {x y : α} (h : a.toList = [x, y]) : a = #[x, y] := by apply Array.ext'; simpa using h
theorem arr_head {α : Type} {a : Array α} {x : α} {l : List α} (h : a.toList = x :: l) : a[0]? = some x := by rw [← Array.getElem?_toList, h]; rfl
theorem arr_snd {α : Type} {a : Array α} {x y : α} {l : List α} (h : a.toList = x :: y :: l) : a[1]? = some y := by rw [← Array.getElem?_toList, h]; rfl

theorem len_ok {c : Call} {x : TV} {t : TypeId} {ts : List TypeId} (hT : TOk P T) (ho : o.op = .call c) (hc : c.callee = .builtin .len) (hx : allSome (c.args.toList.map ev) = some [x]) (ht : c.argTypes.toList = t :: ts)
    (h : lenK T look t x ret4 = some (v, up, nw, rd)) : OpOk P look nx ev o v up nw := by
  obtain ⟨X, hX, hevX⟩ := list_one hx
  have hX' := arr_one hX
  have ht' := arr_head ht
  have hexec : ∀ (a : Act) (w : World) (r : Value), (∀ ty, (Builtin.len_ c.argTypes ty #[a.eval X]).run P w = .ok r w) → (execOp a.eval o).run P w = .ok (.value r) w := by
    intro a w r hr
    simp [execOp, ho, resolve, hc, hX', invoke, builtin, hr]
  unfold lenK at h
  split at h
  · rename_i sz by' z hi
    have hu := (hT t _ hi).desc
    simp only [descOk] at hu
    split at h
    · rename_i p
      obtain ⟨s, hs, h'⟩ := bind_inv h
      cases asS_inv hs
      obtain ⟨rfl, rfl, rfl, rfl⟩ := ret4_inv h'
      refine opOk_pure fun a w S π hev hob => ⟨_, hexec a w _ fun ty => ?_, by simp only [relTV, rel]; rfl⟩
      rw [ev_str hevX hev]
      simp [Builtin.len_, ht', run_underlying hu, goInt]
    · cases h
  · rename_i sz by' n e z hi
    have hu := (hT t _ hi).desc
    simp only [descOk] at hu
    obtain ⟨rfl, rfl, rfl, rfl⟩ := ret4_inv h
    refine opOk_pure fun a w S π hev hob => ⟨_, hexec a w _ fun ty => ?_, by simp only [relTV, rel]; rfl⟩
    simp [Builtin.len_, ht', run_underlying hu, goInt]
  · rename_i sz by' e z hi
    have hu := (hT t _ hi).desc
    simp only [descOk] at hu
    have hsl : ∀ (a : Act) (w : World) (ty : TypeId) A (n cap : Nat), a.eval X = .slice A n cap → (Builtin.len_ c.argTypes ty #[a.eval X]).run P w = .ok (.int .i64 n) w := by
      intro a w ty A n cap he
      rw [he]
      simp [Builtin.len_, ht', run_underlying hu, goInt]
    split at h
    · rename_i p
      obtain ⟨es, hs, h'⟩ := bind_inv h
      cases asFs_inv hs
      obtain ⟨rfl, rfl, rfl, rfl⟩ := ret4_inv h'
      refine opOk_pure fun a w S π hev hob => ⟨_, hexec a w (.int .i64 es.length) fun ty => ?_, by simp only [relTV, rel]⟩
      have hv := hev X _ hevX
      simp only [relTV, rel] at hv
      rcases hv with ⟨⟨A, he⟩, rfl⟩ | ⟨b, s, cap, sz', he, _⟩
      · exact hsl a w ty _ _ _ he
      · exact hsl a w ty _ _ _ he
    · rename_i id
      split at h
      · rename_i es sz' hl
        obtain ⟨rfl, rfl, rfl, rfl⟩ := ret4_inv h
        refine opOk_pure fun a w S π hev hob => ⟨_, hexec a w (.int .i64 es.length) fun ty => ?_, by simp only [relTV, rel]⟩
        have hv := hev X _ hevX
        simp only [relTV] at hv
        obtain ⟨pl, hp', hk⟩ := hob.ok id _ hl
        rcases hv with ⟨hp, he⟩ | ⟨b, s, c', z', l', ad, hp, he, _⟩
        · rw [hp] at hp'; cases hp'
          simp only [obOk] at hk; subst hk
          exact hsl a w ty _ _ _ he
        · rw [hp] at hp'; cases hp'
          simp only [obOk] at hk
          obtain ⟨rfl, _⟩ := hk
          exact hsl a w ty _ _ _ he
      · cases h
    · rename_i id off len cp
      obtain ⟨rfl, rfl, rfl, rfl⟩ := ret4_inv h
      refine opOk_pure fun a w S π hev hob => ⟨_, hexec a w (.int .i64 len) fun ty => ?_, by simp only [relTV, rel]⟩
      have hv := hev X _ hevX
      simp only [relTV] at hv
      rcases hv with ⟨_, he, _, rfl⟩ | ⟨b, s, c', z', l', ad, cv, hp, he, _⟩
      · exact hsl a w ty _ _ _ he
      · exact hsl a w ty _ _ _ he
    · obtain ⟨rfl, rfl, rfl, rfl⟩ := ret4_inv h
      refine opOk_pure fun a w S π hev hob => ⟨_, hexec a w (.int .i64 0) fun ty => ?_, by simp only [relTV, rel]⟩
      have hv := hev X _ hevX
      simp only [relTV] at hv
      exact hsl a w ty _ _ _ hv
    · cases h
  · rename_i sz by' kt et z hi
    have hu := (hT t _ hi).desc
    simp only [descOk] at hu
    split at h
    · rename_i id
      split at h
      · rename_i kvs hl
        obtain ⟨rfl, rfl, rfl, rfl⟩ := ret4_inv h
        refine opOk_pure fun a w S π hev hob => ⟨_, hexec a w (.int .i64 kvs.length) fun ty => ?_, by simp only [relTV, rel]⟩
        have hv := hev X _ hevX
        simp only [relTV] at hv
        obtain ⟨b, s, c', z', l', hp, he⟩ := hv
        obtain ⟨pl, hp', hk⟩ := hob.ok id _ hl
        rw [hp] at hp'; cases hp'
        simp only [obOk] at hk
        obtain ⟨es, clock, hg, hr⟩ := hk
        have hlen : kvs.length = es.size := by rw [← Array.length_toList]; exact relKV_length hr
        rw [he]
        simp [Builtin.len_, ht', run_underlying hu, goInt, run_getObj_at hg rfl, hlen]
      · cases h
    · obtain ⟨rfl, rfl, rfl, rfl⟩ := ret4_inv h
      refine opOk_pure fun a w S π hev hob => ⟨_, hexec a w (.int .i64 0) fun ty => ?_, by simp only [relTV, rel]⟩
      have hv := hev X _ hevX
      simp only [relTV, rel] at hv
      rw [hv]
      simp [Builtin.len_, ht', run_underlying hu, goInt]
    · cases h
  · cases h

theorem min_ok {c : Call} {p q : PV} {ik : IntKind} (ho : o.op = .call c) (hc : c.callee = .builtin .min) (hx : allSome (c.args.toList.map ev) = some [.val p, .val q])
    (h : ((p.asI ik).bind fun a => (q.asI ik).bind fun b => ret4 (.val (.int ik (if b < a then b else a))) [] [] []) = some (v, up, nw, rd)) : OpOk P look nx ev o v up nw := by
  obtain ⟨X, Y, hX, hevX, hevY⟩ := list_two hx
  have hX' := arr_two hX
  obtain ⟨a, ha, h'⟩ := bind_inv h
  obtain ⟨b, hb, h''⟩ := bind_inv h'
  cases asI_inv ha
  cases asI_inv hb
  obtain ⟨rfl, rfl, rfl, rfl⟩ := ret4_inv h''
  refine opOk_pure fun A w S π hev hob => ⟨_, ?_, by simp only [relTV, rel]; rfl⟩
  simp [execOp, ho, resolve, hc, hX', invoke, builtin, Builtin.min_, ev_int hevX hev, ev_int hevY hev, Builtin.min2]
theorem max_ok {c : Call} {p q : PV} {ik : IntKind} (ho : o.op = .call c) (hc : c.callee = .builtin .max) (hx : allSome (c.args.toList.map ev) = some [.val p, .val q])
    (h : ((p.asI ik).bind fun a => (q.asI ik).bind fun b => ret4 (.val (.int ik (if a < b then b else a))) [] [] []) = some (v, up, nw, rd)) : OpOk P look nx ev o v up nw := by
  obtain ⟨X, Y, hX, hevX, hevY⟩ := list_two hx
  have hX' := arr_two hX
  obtain ⟨a, ha, h'⟩ := bind_inv h
  obtain ⟨b, hb, h''⟩ := bind_inv h'
  cases asI_inv ha
  cases asI_inv hb
  obtain ⟨rfl, rfl, rfl, rfl⟩ := ret4_inv h''
  refine opOk_pure fun A w S π hev hob => ⟨_, ?_, by simp only [relTV, rel]; rfl⟩
  simp [execOp, ho, resolve, hc, hX', invoke, builtin, Builtin.max_, ev_int hevX hev, ev_int hevY hev, Builtin.max2]

theorem makeMap_ok {t : TypeId} (ho : o.op = .makeMap t none) (h : ret4 (.mp nx) [] [.map []] [] = some (v, up, nw, rd)) : OpOk P look nx ev o v up nw := by
  obtain ⟨rfl, rfl, rfl, rfl⟩ := ret4_inv h
  intro a w S π hev hob hf K Q hK
  obtain ⟨π', h1, h2, h3, h4, h5⟩ := obs_new (w' := w.alloc (.map #[] 0)) (ob := .map []) (c := .map #[] 0) hob hf rfl rfl rfl rfl 0 0 0 0 (by
    intro π' _ _ _
    simp only [obOk]
    exact ⟨#[], 0, by show (w.heap.push _)[w.heap.size]? = _; simp, by simp only [relKV]⟩)
  unfold Oper.wp
  have hr : (execOp a.eval o).run P w = .ok (.value (.map (some w.heap.size))) (w.alloc (.map #[] 0)) := by
    simp [execOp, ho, Instr.makeMap]
  rw [hr]
  refine hK _ _ S π' ⟨?_, h1, h2, h3, h5⟩
  simp only [relTV]
  exact ⟨_, _, _, _, _, h4, rfl⟩

theorem range_ok {t : TypeId} {x : Operand} {sz by' : Nat} {z : List TV} {s : ByteArray} (hT : TOk P T) (ho : o.op = .range t x) (hi : T t = some ⟨sz, by', .string, z⟩) (hx : ev x = some (.val (.str s)))
    (h : ret4 (.it nx) [] [.sit s 0] [] = some (v, up, nw, rd)) : OpOk P look nx ev o v up nw := by
  obtain ⟨rfl, rfl, rfl, rfl⟩ := ret4_inv h
  have hu := (hT t _ hi).desc
  simp only [descOk] at hu
  intro a w S π hev hob hf K Q hK
  obtain ⟨π', h1, h2, h3, h4, h5⟩ := obs_new (w' := w.alloc (.stringIter s 0)) (ob := .sit s 0) (c := .stringIter s 0) hob hf rfl rfl rfl rfl 0 0 0 0 (by
    intro π' _ _ _
    simp only [obOk]
    show (w.heap.push _)[w.heap.size]? = _; simp)
  unfold Oper.wp
  have hr : (execOp a.eval o).run P w = .ok (.value (.pointer (some ⟨w.heap.size, 0, none⟩))) (w.alloc (.stringIter s 0)) := by
    simp [execOp, ho, ev_str hx hev, Instr.range, run_underlying hu]
  rw [hr]
  refine hK _ _ S π' ⟨?_, h1, h2, h3, h5⟩
  simp only [relTV]
  exact ⟨_, _, _, _, _, h4, rfl⟩

theorem next_ok {x : Operand} {u : TV} (ho : o.op = .next x true) (hx : ev x = some u) (h : nextK look u ret4 = some (v, up, nw, rd)) : OpOk P look nx ev o v up nw := by
  have hexec : ∀ (a : Act) (w w' : World) (r : Value), (Instr.next (a.eval x) true o.type).run P w = .ok r w' → (execOp a.eval o).run P w = .ok (.value r) w' := by
    intro a w w' r hr
    simp [execOp, ho, hr]
  unfold nextK at h
  split at h
  · rename_i id
    split at h
    · rename_i s pos hl
      split at h
      · rename_i hlt
        obtain ⟨rfl, rfl, rfl, rfl⟩ := ret4_inv h
        intro a w S π hev hob hf K Q hK
        have hv := hev x _ hx
        simp only [relTV] at hv
        obtain ⟨b, s', c', z', l', hp, he⟩ := hv
        obtain ⟨pl, hp', hk⟩ := hob.ok id _ hl
        rw [hp] at hp'; cases hp'
        simp only [obOk] at hk
        obtain ⟨w', hw1, hw2⟩ := run_setObj_at (P := P) (y := .stringIter s (pos + (Utf8.decode s pos).2)) hk rfl
        obtain ⟨h1, h2⟩ := obs_turn (nx := nx) (ob' := .sit s (pos + (Utf8.decode s pos).2)) hob hl rfl rfl hp hw2 (fun _ => by simp only [obOk]; exact hw2.here)
        unfold Oper.wp
        rw [hexec a w w' (.tuple #[.bool true, .int .i64 pos, .int .i32 (Utf8.decode s pos).1]) (by
          rw [he]
          simp [Instr.next, run_getObj_at hk rfl, hlt, hw1, goInt])]
        refine hK _ _ S π ⟨?_, h1, Ext.refl _, fun id h => .inl h, h2⟩
        simp only [relTV, relTVs]
        refine ⟨_, rfl, _, _, rfl, ?_, _, _, rfl, ?_, _, _, rfl, ?_, rfl⟩ <;> simp only [rel]
      · rename_i hlt
        obtain ⟨rfl, rfl, rfl, rfl⟩ := ret4_inv h
        refine opOk_pure fun a w S π hev hob => ⟨_, hexec a w w (.tuple #[.bool false]) ?_, ?_⟩
        · have hv := hev x _ hx
          simp only [relTV] at hv
          obtain ⟨b, s', c', z', l', hp, he⟩ := hv
          obtain ⟨pl, hp', hk⟩ := hob.ok id _ hl
          rw [hp] at hp'; cases hp'
          simp only [obOk] at hk
          rw [he]
          simp [Instr.next, run_getObj_at hk rfl, hlt]
        · simp only [relTV, relTVs]
          exact ⟨_, rfl, _, _, rfl, by simp only [rel], rfl⟩
    · cases h
  · cases h

end
end Go.Proofs.YtgpjnppakffoiaaV
