/- The reading machine's operations are told rightly: maps. -/
import Derived.Test.YtgpjnppakffoiaaVOps11
namespace Go.Proofs.YtgpjnppakffoiaaV
open Go Go.RowKit

section
variable {P : Program} {T : TypeId → Option TI} {look : Nat → Option Ob} {nx : Nat} {ev : Operand → Option TV} {o : Oper} {v : TV} {up : List (Nat × Ob)} {nw : List Ob} {rd : List Nat}

theorem toList_beq (a b : ByteArray) : (a.toList == b.toList) = (a == b) := (beq_toListBytes a b).symm

theorem eqvT_now {t : TypeId} {p q : PV} {b : Bool} (hT : TOk P T) (h : eqvT T t p q = some b) {w : World} {S : Nat → Prop} {u u' : Value} (hp : rel w S p u) (hq : rel w S q u') :
    ∃ d, P.underlying t = some d ∧ Instr.sameNow d u u' = some b ∧ (b = true → Instr.sameBits 10000 u' u = true) := by
  unfold eqvT at h
  split at h
  · rename_i hi
    obtain ⟨a, ha, h'⟩ := bind_inv h
    obtain ⟨a', ha', h''⟩ := bind_inv h'
    cases asI_inv ha
    cases asI_inv ha'
    simp only [Option.some.injEq] at h''
    subst h''
    simp only [rel] at hp hq
    subst hp hq
    have := (hT t _ hi).desc
    simp only [descOk] at this
    refine ⟨_, this, by simp [Instr.sameNow], fun hb => ?_⟩
    simp only [beq_iff_eq] at hb
    subst hb
    simp [Instr.sameBits]
  · rename_i hi
    obtain ⟨a, ha, h'⟩ := bind_inv h
    obtain ⟨a', ha', h''⟩ := bind_inv h'
    cases asB_inv ha
    cases asB_inv ha'
    simp only [Option.some.injEq] at h''
    subst h''
    simp only [rel] at hp hq
    subst hp hq
    have := (hT t _ hi).desc
    simp only [descOk] at this
    refine ⟨_, this, by simp [Instr.sameNow], fun hb => ?_⟩
    simp only [beq_iff_eq] at hb
    subst hb
    simp [Instr.sameBits]
  · rename_i hi
    obtain ⟨a, ha, h'⟩ := bind_inv h
    obtain ⟨a', ha', h''⟩ := bind_inv h'
    cases asS_inv ha
    cases asS_inv ha'
    simp only [Option.some.injEq] at h''
    subst h''
    simp only [rel] at hp hq
    subst hp hq
    have := (hT t _ hi).desc
    simp only [descOk] at this
    refine ⟨_, this, by rw [toList_beq]; simp [Instr.sameNow], fun hb => ?_⟩
    have hb := eq_of_beq hb
    simp only [Instr.sameBits, beq_toListBytes, hb, beq_self_eq_true]
  · cases h

theorem run_checkKey {t : TypeId} (h : plainD P t) (e : Bool) (n : Nat) (u : Value) (w : World) : (Instr.checkKey e (n + 1) t u).run P w = .ok () w := by
  rcases h with h | ⟨k, h⟩ | h <;> simp [Instr.checkKey, run_underlying h]

theorem find_ok {w : World} {S : Nat → Prop} {kt : TypeId} {d : TypeDesc} {key : PV} {u : Value} (hT : TOk P T) (hd : P.underlying kt = some d) (hu : rel w S key u) : ∀ (kvs : List (PV × PV)) (es : List MapEntry) (r : Option PV) (i : Nat),
    mget T kt key kvs = some r → relKV w S kvs es → (r = none ∧ Instr.findNow d u es i = some none) ∨ ∃ x j z, r = some x ∧ Instr.findNow d u es i = some (some (j, z)) ∧ rel w S x z
  | [], es, r, i, h, hr => by
    simp only [mget, Option.some.injEq] at h
    simp only [relKV] at hr
    subst h hr
    exact .inl ⟨rfl, rfl⟩
  | kv :: kvs, es, r, i, h, hr => by
    simp only [mget] at h
    obtain ⟨b, hb, h'⟩ := bind_inv h
    simp only [relKV] at hr
    obtain ⟨e, es', rfl, hk, hv, hr'⟩ := hr
    obtain ⟨d', hd', hs, _⟩ := eqvT_now hT hb hu hk
    rw [hd] at hd'; cases hd'
    cases b with
    | true =>
      simp only [if_true, Option.some.injEq] at h'
      subst h'
      exact .inr ⟨_, i, e.val, rfl, by simp [Instr.findNow, hs], hv⟩
    | false =>
      simp only [Bool.false_eq_true, if_false] at h'
      rcases find_ok hT hd hu kvs es' r (i + 1) h' hr' with ⟨h1, h2⟩ | ⟨x, j, z, h1, h2, h3⟩
      · exact .inl ⟨h1, by simp [Instr.findNow, hs, h2]⟩
      · exact .inr ⟨x, j, z, h1, by simp [Instr.findNow, hs, h2], h3⟩

theorem lookup_ok {t : TypeId} {X I : Operand} {x i : TV} {ok : Bool} (hT : TOk P T) (ho : o.op = .lookup t X I ok) (hx : ev X = some x) (hy : ev I = some i) (h : lookupK T look t x i ok ret4 = some (v, up, nw, rd)) : OpOk P look nx ev o v up nw := by
  unfold lookupK at h
  split at h
  · rename_i sz by' kt et z hi
    have hu := (hT t _ hi).desc
    simp only [descOk] at hu
    split at h
    · rename_i hpl
      simp only [Bool.and_eq_true] at hpl
      obtain ⟨hk1, ik, hik, hikd⟩ := plainT_ok hT hpl.1
      obtain ⟨he1, ie, hie, hied⟩ := plainT_ok hT hpl.2
      split at h
      · rename_i id key z0 hz0
        split at h
        · rename_i kvs hl
          obtain ⟨r, hr, h'⟩ := bind_inv h
          obtain ⟨dk, hdk⟩ : ∃ d, P.underlying kt = some d := by
            rcases hk1 with h | ⟨k, h⟩ | h <;> exact ⟨_, h⟩
          -- the zero
          have hzero : ∀ (w : World) (S : Nat → Prop), ∃ zv, (∀ w', (zeroValue et).run P w' = .ok zv w') ∧ rel w S z0 zv := by
            intro w S
            have hty := hT et ie hie
            obtain ⟨zv, hz1, hz2, hz3, hz4, _⟩ := run_zeroValue hty
            refine ⟨zv, hz3, ?_⟩
            rw [hie] at hz0
            split at hz0
            · rename_i heq
              simp only [Option.some.injEq] at heq hz0
              subst hz0 heq
              rw [hz4 hied] at hz2
              simp only [zsOk] at hz2
              obtain ⟨u, us', hu', hzo, _⟩ := hz2
              simp only [List.cons.injEq] at hu'
              have := (zOk_rel (w := w) (S := S) (π := fun _ => none) hzo).1
              rw [← hu'.1] at this
              simpa only [relTV] using this
            · cases hz0
          have main : ∀ (a : Act) (w : World) (S : Nat → Prop) (π : Nat → Option Pl), evOk ev a w S π → ObsOk w S π look →
              ∃ uv, (execOp a.eval o).run P w = .ok (.value (if ok then .tuple #[uv, .bool r.isSome] else uv)) w ∧ rel w S (r.getD z0) uv := by
            intro a w S π hev hob
            have hv := hev X _ hx
            simp only [relTV] at hv
            obtain ⟨b, s, c', z', l', hp, he⟩ := hv
            have hkr := hev I _ hy
            simp only [relTV] at hkr
            obtain ⟨pl, hp', hk⟩ := hob.ok id _ hl
            rw [hp] at hp'; cases hp'
            simp only [obOk] at hk
            obtain ⟨es, clock, hg, hkv⟩ := hk
            obtain ⟨zv, hz1, hz2⟩ := hzero w S
            have hck : (Instr.checkKey es.isEmpty 10000 kt (a.eval I)).run P w = .ok () w := run_checkKey hk1 _ 9999 _ w
            rcases find_ok hT hdk hkr kvs es.toList r 0 hr hkv with ⟨rfl, hf⟩ | ⟨y, j, zz, rfl, hf, hzr⟩
            · refine ⟨zv, ?_, hz2⟩
              cases ok <;> simp [execOp, ho, Instr.lookup, run_underlying hu, he, run_getObj_at hg rfl, hck, Instr.findKey, run_underlying hdk, hf, hz1]
            · refine ⟨zz, ?_, hzr⟩
              cases ok <;> simp [execOp, ho, Instr.lookup, run_underlying hu, he, run_getObj_at hg rfl, hck, Instr.findKey, run_underlying hdk, hf]
          split at h'
          · obtain ⟨rfl, rfl, rfl, rfl⟩ := ret4_inv h'
            refine opOk_pure fun a w S π hev hob => ?_
            obtain ⟨uv, h1, h2⟩ := main a w S π hev hob
            refine ⟨_, h1, ?_⟩
            simp only [if_true, relTV, relTVs]
            exact ⟨_, rfl, _, _, rfl, h2, _, _, rfl, by simp only [rel], rfl⟩
          · obtain ⟨rfl, rfl, rfl, rfl⟩ := ret4_inv h'
            refine opOk_pure fun a w S π hev hob => ?_
            obtain ⟨uv, h1, h2⟩ := main a w S π hev hob
            exact ⟨_, h1, by simpa only [Bool.false_eq_true, if_false, relTV] using h2⟩
        · cases h
      · cases h
    · cases h
  · cases h

/-- Behind a change a map's entries are the new list's. -/
theorem mset_ok {w : World} {S : Nat → Prop} {kt : TypeId} {d : TypeDesc} {key x : PV} {u z : Value} {clock : Nat} (hT : TOk P T) (hd : P.underlying kt = some d) (hu : rel w S key u) (hz : rel w S x z) : ∀ (kvs kvs' : List (PV × PV)) (es : List MapEntry) (i : Nat),
    mset T kt key x kvs = some kvs' → relKV w S kvs es → (Instr.findNow d u es i = some none ∧ relKV w S kvs' (es ++ [{ key := u, val := z, born := clock }])) ∨
      ∃ j e, Instr.findNow d u es i = some (some (i + j, e.val)) ∧ es[j]? = some e ∧ Instr.sameBits 10000 e.key u = true ∧ ∀ e', e'.key = u → e'.val = z → relKV w S kvs' (es.set j e')
  | [], kvs', es, i, h, hr => by
    simp only [mset, Option.some.injEq] at h
    simp only [relKV] at hr
    subst h hr
    exact .inl ⟨rfl, by simp only [List.nil_append, relKV]; exact ⟨_, _, rfl, hu, hz, rfl⟩⟩
  | kv :: kvs, kvs', es, i, h, hr => by
    simp only [mset] at h
    obtain ⟨b, hb, h'⟩ := bind_inv h
    simp only [relKV] at hr
    obtain ⟨e, es', rfl, hk, hv, hr'⟩ := hr
    obtain ⟨d', hd', hs, hsb⟩ := eqvT_now hT hb hu hk
    rw [hd] at hd'; cases hd'
    cases b with
    | true =>
      simp only [if_true, Option.some.injEq] at h'
      subst h'
      refine .inr ⟨0, e, by simp [Instr.findNow, hs], rfl, hsb rfl, fun e' h1 h2 => ?_⟩
      simp only [List.set_cons_zero, relKV]
      exact ⟨_, _, rfl, by rw [h1]; exact hu, by rw [h2]; exact hz, hr'⟩
    | false =>
      simp only [Bool.false_eq_true, if_false] at h'
      obtain ⟨r, hr1, hr2⟩ := bind_inv h'
      simp only [Option.some.injEq] at hr2
      subst hr2
      rcases mset_ok (clock := clock) hT hd hu hz kvs r es' (i + 1) hr1 hr' with ⟨h1, h2⟩ | ⟨j, e0, h1, h2, h3, h4⟩
      · exact .inl ⟨by simp [Instr.findNow, hs, h1], by simp only [List.cons_append, relKV]; exact ⟨_, _, rfl, hk, hv, h2⟩⟩
      · refine .inr ⟨j + 1, e0, by simp only [Instr.findNow, hs, h1]; congr 3; omega, by simpa using h2, h3, fun e' q1 q2 => ?_⟩
        simp only [List.set_cons_succ, relKV]
        exact ⟨_, _, rfl, hk, hv, h4 e' q1 q2⟩

theorem mapUpdate_ok {t : TypeId} {M I X : Operand} {m i x : TV} (hT : TOk P T) (ho : o.op = .mapUpdate t M I X) (hm : ev M = some m) (hi : ev I = some i) (hx : ev X = some x) (h : mapUpdateK T look t m i x ret4 = some (v, up, nw, rd)) : OpOk P look nx ev o v up nw := by
  unfold mapUpdateK at h
  split at h
  · rename_i sz by' kt et z hti
    have hu := (hT t _ hti).desc
    simp only [descOk] at hu
    split at h
    · rename_i hpl
      simp only [Bool.and_eq_true] at hpl
      obtain ⟨hk1, ik, hik, hikd⟩ := plainT_ok hT hpl.1
      split at h
      · rename_i id key val
        split at h
        · rename_i kvs hl
          obtain ⟨r, hr, h'⟩ := bind_inv h
          obtain ⟨rfl, rfl, rfl, rfl⟩ := ret4_inv h'
          obtain ⟨dk, hdk⟩ : ∃ d, P.underlying kt = some d := by
            rcases hk1 with h | ⟨k, h⟩ | h <;> exact ⟨_, h⟩
          intro a w S π hev hob hf K Q hK
          have hv := hev M _ hm
          simp only [relTV] at hv
          obtain ⟨b, s, c', z', l', hp, he⟩ := hv
          have hkr := hev I _ hi
          simp only [relTV] at hkr
          have hxr := hev X _ hx
          simp only [relTV] at hxr
          obtain ⟨pl, hp', hk⟩ := hob.ok id _ hl
          rw [hp] at hp'; cases hp'
          simp only [obOk] at hk
          obtain ⟨es, clock, hg, hkv⟩ := hk
          have hck : (Instr.checkKey false 10000 kt (a.eval I)).run P w = .ok () w := run_checkKey hk1 _ 9999 _ w
          have fin : ∀ (es' : Array MapEntry) (clock' : Nat) (w' : World), Upd w b (.map es' clock') w' → relKV w S r es'.toList → (execOp a.eval o).run P w = .ok .skip w' → o.wp P a w K Q := by
            intro es' clock' w' hupd hrel hrun
            obtain ⟨h1, h2⟩ := obs_turn (nx := nx) (ob' := .map r) hob hl rfl rfl hp hupd (fun hkeep => by simp only [obOk]; exact ⟨es', clock', hupd.here, relKV_keep hkeep _ _ hrel⟩)
            unfold Oper.wp
            rw [hrun]
            refine hK (.tuple #[]) w' S π ⟨by simp only [relTV], h1, Ext.refl _, fun id h => .inl h, h2⟩
          rcases mset_ok (clock := clock) hT hdk hkr hxr kvs r es.toList 0 hr hkv with ⟨h1, h2⟩ | ⟨j, e, h1, h2, h3, h4⟩
          · obtain ⟨w', hw1, hw2⟩ := run_setObj_at (P := P) (y := .map (es.push { key := a.eval I, val := a.eval X, born := clock }) (clock + 1)) hg rfl
            refine fin _ _ w' hw2 (by simpa using h2) ?_
            simp [execOp, ho, Instr.mapUpdate, run_underlying hu, he, run_getObj_at hg rfl, hck, Instr.findKey, run_underlying hdk, h1, hw1]
          · rw [Array.getElem?_toList] at h2
            obtain ⟨w', hw1, hw2⟩ := run_setObj_at (P := P) (y := .map (es.modify j fun e => { e with key := a.eval I, val := a.eval X }) clock) hg rfl
            refine fin _ _ w' hw2 ?_ ?_
            · have hj : j < es.size := (Array.getElem?_eq_some_iff.1 h2).1
              have : (es.modify j fun e => { e with key := a.eval I, val := a.eval X }).toList = es.toList.set j { e with key := a.eval I, val := a.eval X } := by
                apply List.ext_getElem?
                intro k
                rw [Array.getElem?_toList, Array.getElem?_modify, List.getElem?_set, Array.getElem?_toList]
                by_cases hk : j = k
                · subst hk
                  have he : es[j] = e := (Array.getElem?_eq_some_iff.1 h2).2
                  simp [hj, he]
                · simp [hk]
              rw [this]
              exact h4 _ rfl rfl
            · simp [execOp, ho, Instr.mapUpdate, run_underlying hu, he, run_getObj_at hg rfl, hck, Instr.findKey, run_underlying hdk, h1, h2, Instr.keyThatStays, h3, hw1]
        · cases h
      · cases h
    · cases h
  · cases h

end
end Go.Proofs.YtgpjnppakffoiaaV
