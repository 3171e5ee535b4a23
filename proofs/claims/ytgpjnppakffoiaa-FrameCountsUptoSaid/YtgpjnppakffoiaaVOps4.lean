/- The reading machine's operations are told rightly: addresses, parts, slices of slices, lengths. -/
import Derived.Test.YtgpjnppakffoiaaVOps3
namespace Go.Proofs.YtgpjnppakffoiaaV
open Go Go.RowKit

section
variable {P : Program} {T : TypeId → Option TI} {look : Nat → Option Ob} {nx : Nat} {ev : Operand → Option TV} {o : Oper} {v : TV} {up : List (Nat × Ob)} {nw : List Ob} {rd : List Nat}

theorem un_ok {op : UnOp} {xt : TypeId} {x : Operand} {u : TV} (ho : o.op = .unOp op xt x) (hx : ev x = some u)
    (h : unK T op xt u (fun p => ret4 (.val p) [] [] []) = some (v, up, nw, rd)) : OpOk P look nx ev o v up nw := by
  unfold unK at h
  split at h
  · obtain ⟨n, hn, h'⟩ := bind_inv h
    clear h
    cases asI_inv hn
    obtain ⟨rfl, rfl, rfl, rfl⟩ := ret4_inv h'
    exact opOk_pure fun a w S π hev _ => ⟨_, by simp only [execOp, ho, ev_int hx hev, Op.unary, Op.intArith]; rfl, by simp only [relTV, rel]⟩
  · obtain ⟨n, hn, h'⟩ := bind_inv h
    clear h
    cases asB_inv hn
    obtain ⟨rfl, rfl, rfl, rfl⟩ := ret4_inv h'
    exact opOk_pure fun a w S π hev _ => ⟨_, by simp only [execOp, ho, ev_bool hx hev, Op.unary]; rfl, by simp only [relTV, rel]⟩
  · cases h

theorem makeFunc_ok {fn : Fn} {first caps : Array Operand} {vs : List TV} (ho : o.op = .makeFunc fn first caps) (hf : first.toList = []) (hc : allSome (caps.toList.map ev) = some vs)
    (h : (match valsOf vs with | some ps => ret4 (.val (.fn fn ps)) [] [] [] | none => ret4 (.fn fn vs) [] [] []) = some (v, up, nw, rd)) : OpOk P look nx ev o v up nw := by
  have hf' : first = #[] := by apply Array.ext'; simpa using hf
  have hrun : ∀ a w, (execOp (Act.eval a) o).run P w = .ok (.value (.func fn #[] (caps.map a.eval))) w := by
    intro a w
    simp [execOp, ho, Instr.makeFunc, hf']
  split at h
  · rename_i ps hps
    obtain ⟨rfl, rfl, rfl, rfl⟩ := ret4_inv h
    refine opOk_pure fun a w S π hev _ => ⟨_, hrun a w, ?_⟩
    have := evOk_all hev hc
    simp only [relTV, rel]
    exact ⟨_, rfl, by simpa using allSome_vals hps this⟩
  · obtain ⟨rfl, rfl, rfl, rfl⟩ := ret4_inv h
    refine opOk_pure fun a w S π hev _ => ⟨_, hrun a w, ?_⟩
    have := evOk_all hev hc
    simp only [relTV]
    exact ⟨_, rfl, by simpa using this⟩

/-- A field's place of a struct type. -/
theorem field_at {t : TypeId} {i : TI} {fs : List (TypeId × Nat)} (hT : TOk P T) (hi : T t = some i) (hd : i.desc = .struct fs) {f ft fo : Nat} (hf : fs[f]? = some (ft, fo)) :
    ∃ F, P.underlying t = some (.struct F) ∧ ∃ fd, F[f]? = some fd ∧ fd.type = ft ∧ fd.offset = fo := by
  have hdesc := (hT t i hi).desc
  rw [hd] at hdesc
  simp only [descOk] at hdesc
  obtain ⟨F, hu, hF, _⟩ := hdesc
  rw [← hF, List.getElem?_map] at hf
  cases hg : F.toList[f]? with
  | none => rw [hg] at hf; cases hf
  | some fd =>
    rw [hg] at hf
    simp only [Option.map_some, Option.some.injEq, Prod.mk.injEq] at hf
    exact ⟨F, hu, fd, by simpa using hg, hf.1, hf.2⟩

theorem tsize_some {t : TypeId} (h : tsize T t ≠ 0) : ∃ i, T t = some i ∧ i.size = tsize T t := by
  unfold tsize at h ⊢
  split at h
  · rename_i i hi; exact ⟨i, hi, rfl⟩
  · exact absurd rfl h

theorem fieldAddr_ok {t : TypeId} {x : Operand} {f : Nat} {u : TV} (hT : TOk P T) (ho : o.op = .fieldAddr t x f) (hx : ev x = some u)
    (h : fieldAddrK T t u f ret4 = some (v, up, nw, rd)) : OpOk P look nx ev o v up nw := by
  unfold fieldAddrK at h
  split at h
  · rename_i sz by' fs z hi
    split at h
    · rename_i ft fo hf
      split at h
      · cases h
      · rename_i hsz
        obtain ⟨F, hu, fd, hF, rfl, rfl⟩ := field_at hT hi rfl hf
        obtain ⟨i, hti, his⟩ := tsize_some hsz
        have hrun : ∀ (a : Act) (w : World) (b o' : Nat), a.eval x = .pointer (some ⟨b, o', none⟩) → (execOp a.eval o).run P w = .ok (.value (.pointer (some ⟨b, o' + fd.offset, none⟩))) w := by
          intro a w b o' he
          have hs := run_sizeOf (hT _ i hti) w
          have hne : i.size ≠ 0 := by omega
          simp [execOp, ho, Instr.fieldAt, run_underlying hu, hF, he, Instr.sureAddr, fieldPlace, hs, hne, Addr.add_lit]
        split at h
        · obtain ⟨rfl, rfl, rfl, rfl⟩ := ret4_inv h
          refine opOk_pure fun a w S π hev _ => ?_
          have hv := hev x _ hx
          simp only [relTV] at hv ⊢
          obtain ⟨b, s, c, z, l, hp, he⟩ := hv
          exact ⟨_, hrun a w _ _ he, b, s, c, z, l, hp, by rw [Nat.add_assoc]⟩
        · obtain ⟨rfl, rfl, rfl, rfl⟩ := ret4_inv h
          refine opOk_pure fun a w S π hev _ => ?_
          have hv := hev x _ hx
          simp only [relTV] at hv ⊢
          obtain ⟨b, s, c, z, l, hp, he⟩ := hv
          exact ⟨_, hrun a w _ _ he, b, s, c, z, l, hp, by rw [Nat.add_assoc]⟩
        · obtain ⟨rfl, rfl, rfl, rfl⟩ := ret4_inv h
          refine opOk_pure fun a w S π hev _ => ?_
          have hv := hev x _ hx
          simp only [relTV, rel] at hv ⊢
          obtain ⟨b, s, he, hr⟩ := hv
          exact ⟨_, hrun a w _ _ he, b, s, by rw [Nat.add_assoc], hr⟩
        · cases h
    · cases h
  · cases h

theorem run_part_agg {t : TypeId} {i : TI} (h : TyOk P t i) (hd : i.desc.isAgg = true) {cs : Array Value} {off : Nat} (w : World) : (part t cs off).run P w = .ok (.agg (cs.extract off (off + i.size))) w := by
  simp only [part, Sem.run_bind, run_isAgg h, hd, Result.andThen_ok, if_true, run_sizeOf h, Sem.run_pure]

theorem isAggT_some {t : TypeId} (h : isAggT T t = true) : ∃ i, T t = some i ∧ i.desc.isAgg = true := by
  cases hi : T t with
  | none => unfold isAggT at h; rw [hi] at h; cases h
  | some i => exact ⟨i, rfl, by rw [← isAggT_eq hi]; exact h⟩

theorem extract_toList (C : Array Value) (a b : Nat) : (C.extract a b).toList = (C.toList.drop a).take (b - a) := by
  simp

theorem asAgg_inv {p : PV} {cs : List PV} (h : p.asAgg = some cs) : p = .agg cs := by cases p <;> simp only [PV.asAgg, reduceCtorEq, Option.some.injEq] at h; subst h; rfl

theorem subAgg_list {w : World} {S : Nat → Prop} {off n : Nat} {cs : List PV} {p : PV} {us : Array Value} (hs : subAgg cs off n = some p) (h : relL w S cs us.toList) (h1 : ∀ u ∈ us.toList, u.oneCell' = true) : rel w S p (.agg (us.extract off (off + n))) := by
  unfold subAgg at hs
  split at hs
  · cases hs
    simp only [rel]
    refine ⟨_, rfl, ?_, ?_⟩
    · intro u hu
      rw [extract_toList] at hu
      exact h1 u (List.mem_of_mem_drop (List.mem_of_mem_take hu))
    · rw [extract_toList, show off + n - off = n by omega]
      exact relL_take (relL_drop h off) n
  · cases hs

theorem field_ok {t : TypeId} {x : Operand} {f : Nat} {u : TV} (hT : TOk P T) (ho : o.op = .field t x f) (hx : ev x = some u)
    (h : fieldK T t u f ret4 = some (v, up, nw, rd)) : OpOk P look nx ev o v up nw := by
  unfold fieldK at h
  split at h
  · rename_i sz by' fs z hi
    split at h
    · rename_i ft fo hf
      obtain ⟨F, hu, fd, hF, rfl, rfl⟩ := field_at hT hi rfl hf
      have hrun : ∀ (a : Act) (w : World) (us : Array Value) (r : Value), a.eval x = .agg us → (part fd.type us fd.offset).run P w = .ok r w → (execOp a.eval o).run P w = .ok (.value r) w := by
        intro a w us r he hr
        simp [execOp, ho, Instr.field, run_underlying hu, hF, he, asAgg, hr]
      split at h
      · rename_i p
        obtain ⟨cs, hcs, h'⟩ := bind_inv h
        clear h
        have := asAgg_inv hcs
        subst this
        split at h'
        · cases h'
        · rename_i i hti
          split at h'
          · rename_i hA
            obtain ⟨q, hq, h⟩ := bind_inv h'
            clear h'
            obtain ⟨rfl, rfl, rfl, rfl⟩ := ret4_inv h
            refine opOk_pure fun a w S π hev _ => ?_
            have hv := hev x _ hx
            simp only [relTV, rel] at hv
            obtain ⟨us, he, h1, hl⟩ := hv
            exact ⟨_, hrun a w us _ he (run_part_agg (hT _ i hti) hA w), by simp only [relTV]; exact subAgg_list hq hl h1⟩
          · rename_i hA
            obtain ⟨c, hc, h⟩ := bind_inv h'
            clear h'
            obtain ⟨h', _⟩ := coeK_spec h
            clear h
            obtain ⟨rfl, rfl, rfl, rfl⟩ := ret4_inv h'
            refine opOk_pure fun a w S π hev _ => ?_
            have hv := hev x _ hx
            simp only [relTV, rel] at hv
            obtain ⟨us, he, h1, hl⟩ := hv
            obtain ⟨u, hu1, hu2⟩ := relL_get hl hc
            exact ⟨u, hrun a w us _ he (run_part_one (hT _ i hti) (by simpa using hA) (by simpa using hu1) w), by simpa only [relTV] using hu2⟩
      · rename_i cs
        split at h
        · cases h
        · rename_i i hti
          split at h
          · cases h
          · rename_i hA
            split at h
            · rename_i c hc
              obtain ⟨rfl, rfl, rfl, rfl⟩ := ret4_inv h
              refine opOk_pure fun a w S π hev _ => ?_
              have hv := hev x _ hx
              simp only [relTV] at hv
              obtain ⟨us, he, h1, hl⟩ := hv
              obtain ⟨u, hu1, hu2⟩ := relTVs_get hl hc
              exact ⟨u, hrun a w us _ he (run_part_one (hT _ i hti) (by simpa using hA) (by simpa using hu1) w), hu2⟩
            · cases h
      · cases h
    · cases h
  · cases h

theorem run_indexAt_in {t e : TypeId} {i : TI} (hT : TOk P T) (hu : P.underlying t = some (.slice e)) (he : T e = some i) {b off len cap : Nat} {k : IntKind} {n : Int} (h0 : 0 ≤ n) (h1 : n < len) (w : World) :
    (Instr.indexAt t (.slice (some ⟨b, off, none⟩) len cap) (.int k n)).run P w = .ok (.pointer (some ⟨b, off + n.toNat * i.size, none⟩)) w := by
  have hs := run_sizeOf (hT _ i he) w
  simp [Instr.indexAt, run_underlying hu, asIntOf, h0, h1, hs, Addr.add_lit]
theorem run_indexAt_arr {t e : TypeId} {i : TI} {m : Nat} (hT : TOk P T) (hu : P.underlying t = some (.array m e)) (he : T e = some i) {b off : Nat} {k : IntKind} {n : Int} (h0 : 0 ≤ n) (h1 : n < m) (w : World) :
    (Instr.indexAt t (.pointer (some ⟨b, off, none⟩)) (.int k n)).run P w = .ok (.pointer (some ⟨b, off + n.toNat * i.size, none⟩)) w := by
  have hs := run_sizeOf (hT _ i he) w
  simp [Instr.indexAt, run_underlying hu, asIntOf, Instr.sureAddr, h0, h1, hs, Addr.add_lit]

theorem indexAddr_ok {t : TypeId} {x y : Operand} {u u' : TV} (hT : TOk P T) (ho : o.op = .indexAddr t x y) (hx : ev x = some u) (hy : ev y = some u')
    (h : indexAddrK T look t u u' ret4 = some (v, up, nw, rd)) : OpOk P look nx ev o v up nw := by
  have hexec : ∀ (a : Act) (w : World) (r : Value), (Instr.indexAt t (a.eval x) (a.eval y)).run P w = .ok r w → (execOp a.eval o).run P w = .ok (.value r) w := by
    intro a w r hr
    simp [execOp, ho, hr]
  unfold indexAddrK at h
  split at h
  · rename_i sz by' e z i hi
    have hu := (hT t _ hi).desc
    simp only [descOk] at hu
    cases hte : T e with
    | none => rw [hte] at h; simp only at h; cases h
    | some ei =>
    rw [hte] at h
    simp only at h
    split at h
    · rename_i id
      obtain ⟨n, hn, h'⟩ := bind_inv h
      clear h
      cases asI_inv hn
      split at h'
      · rename_i es sz' hl
        split at h'
        · rename_i hz
          split at h'
          · rename_i hlt
            obtain ⟨rfl, rfl, rfl, rfl⟩ := ret4_inv h'
            refine opOk_pure fun a w S π hev hob => ?_
            have hv := hev x _ hx
            simp only [relTV] at hv
            obtain ⟨pl, hp', hk⟩ := hob.ok id _ hl
            rcases hv with ⟨hp, he⟩ | ⟨b, s, c, z', l, ad, hp, he, had⟩
            · rw [hp] at hp'; cases hp'
              simp only [obOk] at hk
              subst hk
              have h1 := hlt.1
              have h2 : n < (0 : Nat) := hlt.2
              exact absurd h2 (by omega)
            · rw [hp] at hp'; cases hp'
              simp only [obOk] at hk
              obtain ⟨rfl, rfl, hlc, _⟩ := hk
              have had' : ad = ⟨b, s, none⟩ := by
                rcases had with h0 | h0
                · exfalso; omega
                · exact h0
              subst had'
              refine ⟨(.pointer (some ⟨b, s + n.toNat * ei.size, none⟩)), hexec a w _ ?_, ?_⟩
              · rw [he, ev_int hy hev]
                exact run_indexAt_in hT hu hte hlt.1 hlt.2 w
              · simp only [relTV]
                exact ⟨b, s, c, _, _, hp, by rw [hz]; rfl⟩
          · cases h'
        · cases h'
      · cases h'
    · rename_i id off len cp
      obtain ⟨n, hn, h'⟩ := bind_inv h
      clear h
      cases asI_inv hn
      split at h'
      · rename_i es sz' hl
        split at h'
        · rename_i hz
          split at h'
          · rename_i hlt
            obtain ⟨rfl, rfl, rfl, rfl⟩ := ret4_inv h'
            refine opOk_pure fun a w S π hev hob => ?_
            have hv := hev x _ hx
            simp only [relTV] at hv
            obtain ⟨pl, hp', hk⟩ := hob.ok id _ hl
            rcases hv with ⟨hp, he, h0, h1⟩ | ⟨b, s, c, z', l, ad, cv, hp, he, hcv, had, _⟩
            · exfalso
              have h1' := hlt.1
              have h2 := hlt.2
              omega
            · rw [hp] at hp'; cases hp'
              simp only [obOk] at hk
              obtain ⟨rfl, rfl, hlc, _⟩ := hk
              have had' : ad = ⟨b, s + off * z', none⟩ := by
                rcases had with h0 | h0
                · exfalso; omega
                · exact h0
              subst had'
              refine ⟨(.pointer (some ⟨b, s + off * z' + n.toNat * ei.size, none⟩)), hexec a w _ ?_, ?_⟩
              · rw [he, ev_int hy hev]
                exact run_indexAt_in hT hu hte hlt.1 hlt.2 w
              · simp only [relTV]
                exact ⟨b, s, c, _, _, hp, by rw [← hz, Nat.add_mul]; congr 2; simp only [Addr.mk.injEq, true_and, and_true]; omega⟩
          · cases h'
        · cases h'
      · cases h'
    · rename_i p
      obtain ⟨n, hn, h'⟩ := bind_inv h
      obtain ⟨es, hes, h''⟩ := bind_inv h'
      obtain ⟨e', he', h3⟩ := bind_inv h''
      clear h h' h''
      cases asI_inv hn
      cases asFs_inv hes
      split at h3
      · rename_i hlen
        obtain ⟨rfl, rfl, rfl, rfl⟩ := ret4_inv h3
        unfold idx at he'
        split at he'
        · rename_i hn0
          refine opOk_pure fun a w S π hev hob => ?_
          have hv := hev x _ hx
          simp only [relTV, rel] at hv
          have hlt := (List.getElem?_eq_some_iff.1 he').1
          rcases hv with ⟨he, h0⟩ | ⟨b, s, cap, sz', he, hcap, hmax, hS, hr⟩
          · subst h0; simp at hlt
          · obtain ⟨g1, g2⟩ := relEs_get hr he'
            refine ⟨(.pointer (some ⟨b, s + n.toNat * ei.size, none⟩)), hexec a w _ ?_, ?_⟩
            · rw [he, ev_int hy hev]
              exact run_indexAt_in hT hu hte hn0 (by omega) w
            · simp only [relTV, rel]
              exact ⟨b, s + n.toNat * ei.size, rfl, hS, by rw [← hlen, g1]; exact g2⟩
        · cases he'
      · cases h3
    · cases h
  · rename_i sz by' m e z i hi
    have hu := (hT t _ hi).desc
    simp only [descOk] at hu
    cases hte : T e with
    | none => rw [hte] at h; simp only at h; cases h
    | some ei =>
    rw [hte] at h
    simp only at h
    split at h
    · rename_i id off
      obtain ⟨n, hn, h'⟩ := bind_inv h
      clear h
      cases asI_inv hn
      split at h'
      · rename_i hlt
        obtain ⟨rfl, rfl, rfl, rfl⟩ := ret4_inv h'
        refine opOk_pure fun a w S π hev hob => ?_
        have hv := hev x _ hx
        simp only [relTV] at hv
        obtain ⟨b, s, c, z', l, hp, he⟩ := hv
        refine ⟨(.pointer (some ⟨b, s + off + n.toNat * ei.size, none⟩)), hexec a w _ ?_, ?_⟩
        · rw [he, ev_int hy hev]
          exact run_indexAt_arr hT hu hte hlt.1 hlt.2 w
        · simp only [relTV]
          exact ⟨b, s, c, _, _, hp, by rw [Nat.add_assoc]⟩
      · cases h'
    · rename_i id q off
      obtain ⟨n, hn, h'⟩ := bind_inv h
      clear h
      cases asI_inv hn
      split at h'
      · rename_i hlt
        obtain ⟨rfl, rfl, rfl, rfl⟩ := ret4_inv h'
        refine opOk_pure fun a w S π hev hob => ?_
        have hv := hev x _ hx
        simp only [relTV] at hv
        obtain ⟨b, s, c, z', l, hp, he⟩ := hv
        refine ⟨(.pointer (some ⟨b, s + q * z' + off + n.toNat * ei.size, none⟩)), hexec a w _ ?_, ?_⟩
        · rw [he, ev_int hy hev]
          exact run_indexAt_arr hT hu hte hlt.1 hlt.2 w
        · simp only [relTV]
          exact ⟨b, s, c, _, _, hp, by rw [Nat.add_assoc (s + _)]⟩
      · cases h'
    · rename_i cs off
      obtain ⟨n, hn, h'⟩ := bind_inv h
      clear h
      cases asI_inv hn
      split at h'
      · rename_i hlt
        obtain ⟨rfl, rfl, rfl, rfl⟩ := ret4_inv h'
        refine opOk_pure fun a w S π hev hob => ?_
        have hv := hev x _ hx
        simp only [relTV, rel] at hv
        obtain ⟨b, s, he, hS, hr⟩ := hv
        refine ⟨(.pointer (some ⟨b, s + off + n.toNat * ei.size, none⟩)), hexec a w _ ?_, ?_⟩
        · rw [he, ev_int hy hev]
          exact run_indexAt_arr hT hu hte hlt.1 hlt.2 w
        · simp only [relTV, rel]
          exact ⟨b, s, by rw [Nat.add_assoc], hS, hr⟩
      · cases h'
    · cases h
  · cases h

theorem index_ok {t : TypeId} {x y : Operand} {u u' : TV} (hT : TOk P T) (ho : o.op = .index t x y) (hx : ev x = some u) (hy : ev y = some u')
    (h : indexK T t u u' ret4 = some (v, up, nw, rd)) : OpOk P look nx ev o v up nw := by
  have hexec : ∀ (a : Act) (w : World) (r : Value), (Instr.index t (a.eval x) (a.eval y)).run P w = .ok r w → (execOp a.eval o).run P w = .ok (.value r) w := by
    intro a w r hr
    simp [execOp, ho, hr]
  unfold indexK at h
  split at h
  · rename_i sz by' m e z p i hi
    have hu := (hT t _ hi).desc
    simp only [descOk] at hu
    cases hte : T e with
    | none => rw [hte] at h; simp only at h; cases h
    | some ei =>
    rw [hte] at h
    simp only at h
    split at h
    · cases h
    · rename_i hA
      obtain ⟨cs, hcs, h1⟩ := bind_inv h
      obtain ⟨n, hn, h2⟩ := bind_inv h1
      clear h h1
      cases asI_inv hn
      have := asAgg_inv hcs
      subst this
      split at h2
      · rename_i hlt
        obtain ⟨c, hc, h3⟩ := bind_inv h2
        clear h2
        obtain ⟨h4, _⟩ := coeK_spec h3
        clear h3
        obtain ⟨rfl, rfl, rfl, rfl⟩ := ret4_inv h4
        refine opOk_pure fun a w S π hev hob => ?_
        have hv := hev x _ hx
        simp only [relTV, rel] at hv
        obtain ⟨us, he, h1, hl⟩ := hv
        obtain ⟨u, hu1, hu2⟩ := relL_get hl hc
        refine ⟨u, hexec a w u ?_, by simpa only [relTV] using hu2⟩
        rw [he, ev_int hy hev]
        have hs := run_sizeOf (hT _ _ hte) w
        have hone := (hT _ _ hte).one (by simpa using hA)
        have hp := run_part_one (cs := us) (off := n.toNat * ei.size) (hT _ _ hte) (by simpa using hA) (by rw [hone]; simpa using hu1) w
        simp [Instr.index, run_underlying hu, asIntOf, hlt.1, hlt.2, hs, hp]
      · cases h2
  · rename_i sz by' z p i hi
    have hu := (hT t _ hi).desc
    simp only [descOk] at hu
    obtain ⟨n, hn, h1⟩ := bind_inv h
    obtain ⟨s, hs, h2⟩ := bind_inv h1
    obtain ⟨b, hb, h3⟩ := bind_inv h2
    clear h h1 h2
    cases asI_inv hn
    cases asS_inv hs
    obtain ⟨rfl, rfl, rfl, rfl⟩ := ret4_inv h3
    unfold idx at hb
    split at hb
    · rename_i hn0
      have hlt := (List.getElem?_eq_some_iff.1 hb)
      obtain ⟨hl, hbe⟩ := hlt
      have hl' : n.toNat < s.size := by simpa using hl
      refine opOk_pure fun a w S π hev hob => ⟨.int .u8 (b.toNat : Nat), hexec a w _ ?_, by simp only [relTV, rel]⟩
      rw [ev_str hx hev, ev_int hy hev]
      have : s[n.toNat]? = some b := by
        rw [ByteArray.getElem?_lt' s _ hl']
        congr 1
      simp [Instr.index, run_underlying hu, asIntOf, hn0, this]
    · cases hb
  · cases h

end
end Go.Proofs.YtgpjnppakffoiaaV
