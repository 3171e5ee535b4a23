/- The reading machine's operations are told rightly: append. -/
import Derived.Test.YtgpjnppakffoiaaVOps8
namespace Go.Proofs.YtgpjnppakffoiaaV
open Go Go.RowKit

section
variable {P : Program} {T : TypeId → Option TI} {look : Nat → Option Ob} {nx : Nat} {ev : Operand → Option TV} {o : Oper} {v : TV} {up : List (Nat × Ob)} {nw : List Ob} {rd : List Nat}

theorem srcOk_slice {size : Nat} {tx e' : TypeId} {u : Value} {ms : List (List PV)} {w : World} {S : Nat → Prop} (hk : P.underlying tx = some (.slice e')) (hl : ∀ e ∈ ms, e.length = size)
    (h : ((∃ A, u = .slice A 0 0) ∧ ms = []) ∨ ∃ a cap us, u = .slice (some a) ms.length cap ∧ us.length = ms.length * size ∧ (∀ (j : Nat) (u : Value), us[j]? = some u → w.cell? (a.add j) = some u) ∧ (∀ u ∈ us, u.oneCell' = true) ∧ relL w S ms.flatten us) :
    SrcOk P size tx u ms w S := by
  refine ⟨?_, hl⟩
  rcases h with ⟨⟨A, rfl⟩, rfl⟩ | ⟨a, cap, us, rfl, h1, h2, h3, h4⟩
  · cases A with
    | none => exact ⟨[], Src.ofNil w hk 0, by simp [relL]⟩
    | some a => exact ⟨[], Src.ofSlice w hk a 0 0 [] (by simp) (by simp) (by simp), by simp [relL]⟩
  · exact ⟨us, Src.ofSlice w hk a _ cap us h1 h2 h3, h4⟩

theorem srcOk_string {tx : TypeId} {s : ByteArray} {w : World} {S : Nat → Prop} (hk : P.underlying tx = some .string) : SrcOk P 1 tx (.string s) (bytesOf s) w S := by
  have hlen : (bytesOf s).length = s.size := by simp [bytesOf]
  refine ⟨⟨byteCells s, by rw [hlen]; exact Src.ofString w hk s, ?_⟩, fun e he => ?_⟩
  · simp only [bytesOf, byteCells]
    generalize s.data.toList = l
    induction l with
    | nil => simp [relL]
    | cons b l ih => simp only [List.map_cons, List.flatten_cons, List.singleton_append, relL]; exact ⟨_, _, rfl, by simp only [rel], ih⟩
  · simp only [bytesOf, List.mem_map] at he
    obtain ⟨b, _, rfl⟩ := he
    rfl

theorem rd_data {w : World} {S : Nat → Prop} {size : Nat} {es : List (List PV)} {A : Option Addr} {u : Value} (h : rel w S (.fs es) u) (he : u = .slice A es.length es.length) (hl : ∀ e ∈ es, e.length = size) : Rd w S size A es.length es.length es := by
  subst he
  simp only [rel] at h
  rcases h with ⟨⟨A', he'⟩, rfl⟩ | ⟨b, s, cap, sz, he', hle, hm, hS, hr⟩
  · refine ⟨rfl, hl, Nat.le_refl _, by simp [maxLen], [], fun P => ?_, by simp [relL], by simp, by simp⟩
    cases A with
    | none => exact run_firstCells_none w.drew size 0 0 0
    | some a => simpa using run_firstCells_some (P := P) w.drew size 0 a 0 0 [] (by simp) (by simp)
  · simp only [Value.slice.injEq] at he'
    obtain ⟨rfl, _, rfl⟩ := he'
    obtain ⟨us, h1, h2, h3, h4⟩ := relEs_flat hr
    have hus : us.length = es.length * size := by
      cases es with
      | nil => simpa using h1
      | cons e es =>
        have g1 := (relEs_get hr (i := 0) rfl).1
        have g2 := hl e (List.mem_cons_self ..)
        rw [h1, ← g2, g1]
    exact ⟨rfl, hl, Nat.le_refl _, hm, us, fun P => run_firstCells_some (P := P) w.drew size es.length ⟨b, s, none⟩ es.length es.length us hus (fun j u hu => by rw [Addr.add_lit]; simpa using h2 j u hu), h4, h3, hus⟩

theorem grow_ok {c : Call} {X Y : Operand} {t tx e : TypeId} {i : TI} {ts : List TypeId} {x : TV} {ms : List (List PV)} {rd0 : List Nat} (hT : TOk P T) (ho : o.op = .call c) (hc : c.callee = .builtin .append) (hX : c.args = #[X, Y]) (hx : ev X = some x)
    (ht : c.argTypes.toList = t :: tx :: ts) (hi : T e = some i) (hu : P.underlying t = some (.slice e))
    (hsrc : ∀ (a : Act) (w : World) (S : Nat → Prop) (π : Nat → Option Pl), evOk ev a w S π → ObsOk w S π look → SrcOk P i.size tx (a.eval Y) ms w S)
    (h : growK look nx i x ms rd0 ret4 = some (v, up, nw, rd)) : OpOk P look nx ev o v up nw := by
  have hexec : ∀ (a : Act) (w w' : World) (r : Value), (∀ ty, (Builtin.append_ #[t, tx] ty #[a.eval X, a.eval Y]).run P w = .ok r w') → (execOp a.eval o).run P w = .ok (.value r) w' := by
    intro a w w' r hr
    have h0 : Builtin.append_ c.argTypes o.type #[a.eval X, a.eval Y] = Builtin.append_ #[t, tx] o.type #[a.eval X, a.eval Y] := by
      simp only [Builtin.append_, arr_head ht, arr_snd ht, List.getElem?_toArray, List.getElem?_cons_zero, List.getElem?_cons_succ]
    simp [execOp, ho, resolve, hc, hX, invoke, builtin, h0, hr]
  -- a new row, some of the old given up
  have put : ∀ (ids : List Nat) (es : List (List PV)), (∀ i ∈ ids, (look i).isSome = true) →
      (∀ (a : Act) (w : World) (S : Nat → Prop) (π : Nat → Option Pl), evOk ev a w S π → ObsOk w S π look → ∃ A len cap, a.eval X = .slice A len cap ∧ (len + ms.length) * i.bytes ≤ maxBytes ∧ Rd w S i.size A len cap es ∧ ((ids = [] ∧ (0 < ms.length → cap = len) ∧ (ms.length = 0 → A = none ∧ cap = 0)) ∨
        View w S i.size A len cap es fun b _ => ∃ i ∈ ids, ∃ x pi, look i = some x ∧ x.live = true ∧ π i = some pi ∧ pi.blk = some b)) →
      OpOk P look nx ev o (.ow nx) (deadAll ids) [.row (es ++ ms) i.size] := by
    intro ids es hids hv a w S π hev hob hf K Q hK
    obtain ⟨A, len, cap, he, hb, h1, h2⟩ := hv a w S π hev hob
    have hrun : ∃ u w' π', (Builtin.append_ #[t, tx] o.type #[a.eval X, a.eval Y]).run P w = .ok u w' ∧ After w S π look nx (.ow nx) (deadAll ids) [.row (es ++ ms) i.size] u w' S π' := by
      rw [he]
      exact append_put (P := P) (T := T) hT hi hu hob hf hids h1 h2 (hsrc a w S π hev hob) hb
    obtain ⟨u, w', π', hr, hA⟩ := hrun
    unfold Oper.wp
    rw [hexec a w w' u fun ty => by rw [← hr]; rfl]
    exact hK u w' S π' hA
  have empty : ∀ (a : Act) (w : World) (S : Nat → Prop) (π : Nat → Option Pl), evOk ev a w S π → ObsOk w S π look → ms.isEmpty = true → ∀ {A : Option Addr} {len cap : Nat}, len ≤ cap → ∀ ty, (Builtin.append_ #[t, tx] ty #[.slice A len cap, a.eval Y]).run P w = .ok (.slice A len cap) w := by
    intro a w S π hev hob hm A len cap hle ty
    have hms : ms = [] := List.isEmpty_iff.1 hm
    subst hms
    obtain ⟨news, hs, _⟩ := (hsrc a w S π hev hob).src
    have hn : news = [] := List.eq_nil_of_length_eq_zero (by simpa using hs.newsLen)
    subst hn
    obtain ⟨f, z, hf, hs2, _⟩ := (hT e i hi).info
    rw [← hs2] at hs
    exact run_append_none (P := P) hu hf (by simpa using hs) hle
  unfold growK at h
  split at h
  · rename_i sz
    split at h
    · rename_i hb
      obtain ⟨rfl, rfl, rfl, rfl⟩ := ret4_inv h
      refine put [] [] (by simp) fun a w S π hev hob => ?_
      have hv := hev X _ hx
      simp only [relTV] at hv
      exact ⟨none, 0, 0, hv, by simpa using hb, ⟨rfl, by simp, Nat.le_refl _, by simp [maxLen], [], fun P => run_firstCells_none w.drew i.size 0 0 0, by simp [relL], by simp, by simp⟩, .inl ⟨rfl, fun _ => rfl, fun _ => ⟨rfl, rfl⟩⟩⟩
    · cases h
  · rename_i es
    split at h
    · rename_i hb
      obtain ⟨hb, ha⟩ := hb
      cases hm : ms.isEmpty with
      | true =>
        rw [hm] at h
        simp only [cond_true] at h
        obtain ⟨rfl, rfl, rfl, rfl⟩ := ret4_inv h
        refine opOk_pure fun a w S π hev hob => ⟨a.eval X, hexec a w w _ fun ty => ?_, hev X _ hx⟩
        have hv := hev X _ hx
        simp only [relTV] at hv
        obtain ⟨A, he⟩ := hv.2
        rw [he]
        exact empty a w S π hev hob hm (Nat.le_refl _) ty
      | false =>
        rw [hm] at h
        simp only [cond_false] at h
        obtain ⟨rfl, rfl, rfl, rfl⟩ := ret4_inv h
        have hpos : 0 < ms.length := by cases ms with
          | nil => cases hm
          | cons _ _ => simp
        refine put [] es (by simp) fun a w S π hev hob => ?_
        have hv := hev X _ hx
        simp only [relTV] at hv
        obtain ⟨hr, A, he⟩ := hv
        refine ⟨A, es.length, es.length, he, hb, rd_data hr he (allLen_get ha), .inl ⟨rfl, fun _ => rfl, fun h0 => by omega⟩⟩
    · cases h
  · rename_i id
    split at h
    · rename_i es sz hl
      split at h
      · rename_i hsz
        subst hsz
        split at h
        · rename_i hb
          obtain ⟨rfl, rfl, rfl, rfl⟩ := ret4_inv h
          refine put [id] es (by simp [hl]) fun a w S π hev hob => ?_
          obtain ⟨A, len, cap, he, hv⟩ := view_ow hob hl (hev X _ hx)
          have := hv.hlen
          exact ⟨A, len, cap, he, by rw [← this]; exact hb, hv.read, .inr ⟨hv.hlen, hv.lens, hv.le, hv.max, hv.at'.imp (fun h => h) fun ⟨b, s, C, t, fr, h1, h2, h3, h4⟩ => ⟨b, s, C, t, fr, h1, h2, ⟨_, List.mem_singleton.2 rfl, h3⟩, h4⟩⟩⟩
        · cases h
      · cases h
    · cases h
  · rename_i id off len cp
    split at h
    · rename_i es sz hl
      split at h
      · rename_i hsz
        subst hsz
        split at h
        · rename_i hb
          split at h
          · cases hm : ms.isEmpty with
            | true =>
              rw [hm] at h
              simp only [cond_true] at h
              obtain ⟨rfl, rfl, rfl, rfl⟩ := ret4_inv h
              refine opOk_pure fun a w S π hev hob => ⟨a.eval X, hexec a w w _ fun ty => ?_, hev X _ hx⟩
              obtain ⟨A, cap, he, hcl, hv⟩ := view_sl hob hl (hev X _ hx)
              rw [he]
              exact empty a w S π hev hob hm hv.le ty
            | false =>
              rw [hm] at h
              simp only [cond_false] at h
              obtain ⟨rfl, rfl, rfl, rfl⟩ := ret4_inv h
              refine put [] _ (by simp) fun a w S π hev hob => ?_
              obtain ⟨A, cap, he, hcl, hv⟩ := view_sl hob hl (hev X _ hx)
              exact ⟨A, len, cap, he, hb, hv.read, .inl ⟨rfl, fun _ => hcl rfl, fun h0 => by rw [List.eq_nil_of_length_eq_zero h0] at hm; cases hm⟩⟩
          · obtain ⟨rfl, rfl, rfl, rfl⟩ := ret4_inv h
            refine put [id] _ (by simp [hl]) fun a w S π hev hob => ?_
            obtain ⟨A, cap, he, _, hv⟩ := view_sl hob hl (hev X _ hx)
            exact ⟨A, len, cap, he, hb, hv.read, .inr ⟨hv.hlen, hv.lens, hv.le, hv.max, hv.at'.imp (fun h => h) fun ⟨b, s, C, t, fr, h1, h2, h3, h4⟩ => ⟨b, s, C, t, fr, h1, h2, ⟨_, List.mem_singleton.2 rfl, h3⟩, h4⟩⟩⟩
        · cases h
      · cases h
    · cases h
  · cases h

theorem append_ok {c : Call} {x y : TV} {t tx : TypeId} {ts : List TypeId} (hT : TOk P T) (ho : o.op = .call c) (hc : c.callee = .builtin .append) (hx : allSome (c.args.toList.map ev) = some [x, y]) (ht : c.argTypes.toList = t :: tx :: ts)
    (h : appendK T look nx t tx x y ret4 = some (v, up, nw, rd)) : OpOk P look nx ev o v up nw := by
  obtain ⟨X, Y, hX, hevX, hevY⟩ := list_two hx
  have hX' := arr_two hX
  unfold appendK at h
  split at h
  · rename_i sz by' e z hi
    have hu := (hT t _ hi).desc
    simp only [descOk] at hu
    split at h
    · cases h
    · rename_i i hie
      split at h
      · rename_i sz2 by2 z2 hi2
        have hu2 := (hT tx _ hi2).desc
        simp only [descOk] at hu2
        split at h
        · rename_i p
          obtain ⟨s, hs, h'⟩ := bind_inv h
          cases asS_inv hs
          split at h'
          · rename_i h1
            refine grow_ok hT ho hc hX' hevX ht hie hu (fun a w S π hev hob => ?_) h'
            rw [ev_str hevY hev, h1]
            exact srcOk_string hu2
          · cases h'
        · cases h
      · rename_i sz2 by2 e2 z2 hi2
        have hu2 := (hT tx _ hi2).desc
        simp only [descOk] at hu2
        obtain ⟨ms, rd0, h', hel⟩ := elems_ok h
        refine grow_ok hT ho hc hX' hevX ht hie hu (fun a w S π hev hob => ?_) h'
        obtain ⟨h1, h2⟩ := hel w S π _ (hev Y _ hevY) hob
        exact srcOk_slice hu2 h1 h2
      · cases h
  · cases h

end
end Go.Proofs.YtgpjnppakffoiaaV
