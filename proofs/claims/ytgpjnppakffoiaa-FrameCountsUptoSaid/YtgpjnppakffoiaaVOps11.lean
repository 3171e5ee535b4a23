/- The reading machine's operations are told rightly: slices built of parts, made slices, conversions. -/
import Derived.Test.YtgpjnppakffoiaaVOps10
namespace Go.Proofs.YtgpjnppakffoiaaV
open Go Go.RowKit

section
variable {P : Program} {T : TypeId → Option TI} {look : Nat → Option Ob} {nx : Nat} {ev : Operand → Option TV} {o : Oper} {v : TV} {up : List (Nat × Ob)} {nw : List Ob} {rd : List Nat}

/-- A new block that holds a row. -/
theorem row_new {w w' : World} {S : Nat → Prop} {π : Nat → Option Pl} {es : List (List PV)} {n sz cap : Nat} {C : Array Value} {e : TypeId} {fr : Nat × Nat} (hob : ObsOk w S π look) (hf : Free look π nx 1)
    (hos : w'.os = w.os) (htape : w'.tape = w.tape) (hout : w'.output = w.output) (hsz : w'.heap.size = w.heap.size + 1) (hold : ∀ k, k < w.heap.size → w'.heap[k]? = w.heap[k]?)
    (hg : w'.heap[w.heap.size]? = some (.cells C e fr)) (hfr : unfrozen C fr) (ho : oneCells C) (hn : n = es.length) (hnc : n ≤ cap) (hc : cap * sz ≤ C.size) (hmax : cap ≤ maxLen)
    (hr : Keep w S w' S → relEs w' S w.heap.size 0 sz es) :
    ∃ π', After w S π look nx (.ow nx) [] [.row es sz] (.slice (some ⟨w.heap.size, 0, none⟩) n cap) w' S π' := by
  obtain ⟨π', g1, g2, g3, g4, g5⟩ := obs_put (nx := nx) (ids := []) (ob := .row es sz) (pl := .at w.heap.size 0 cap sz n) hob hf (by simp) hos htape hout (by omega) (fun k hk _ => hold k hk)
    (fun b hb => by simp only [Pl.blk, Option.some.injEq] at hb; subst hb; exact .inl ⟨Nat.le_refl _, by omega⟩)
    (fun π' _ _ hkeep => by
      simp only [obOk]
      exact ⟨hn, trivial, hnc, hmax, C, e, fr, hg, hfr, ho, fun _ => by omega, hr hkeep⟩)
  refine ⟨π', ?_, g1, g2, g3, g5⟩
  simp only [relTV]
  exact .inr ⟨_, _, _, _, _, _, g4, rfl, .inr rfl⟩

theorem put_new {a : Act} {w w' : World} {S : Nat → Prop} {π : Nat → Option Pl} {K : Act → World → Prop} {Q : Exit → Act → World → Prop} {u : Value} {x : TV} {ns : List Ob} (hr : (execOp a.eval o).run P w = .ok (.value u) w')
    (hK : ∀ u w' S' π', After w S π look nx x up ns u w' S' π' → K (a.put o.dst u) w') (h : ∃ π', After w S π look nx x up ns u w' S π') : o.wp P a w K Q := by
  obtain ⟨π', hA⟩ := h
  unfold Oper.wp
  rw [hr]
  exact hK u w' S π' hA

theorem lit_ok {e : TypeId} {i : TI} {w : World} {S : Nat → Prop} {π : Nat → Option Pl} {a : Act} (hT : TOk P T) (hi : T e = some i) (hev : evOk ev a w S π) :
    ∀ (parts : List (Nat × Operand)) (j : Nat) (es : List (List PV)) (cells : Array Value), litRows T e j (parts.map fun x => (x.1, ev x.2)) = some es → (j + parts.length) * i.size = cells.size →
      ∃ cells' us, Instr.fill (fun k => some (k * i.size, i.size)) cells (parts.map fun x => (x.1, a.eval x.2)) = some cells' ∧ cells'.toList = cells.toList.take (j * i.size) ++ us ∧ us.length = parts.length * i.size ∧ es.length = parts.length ∧ (∀ e ∈ es, e.length = i.size) ∧
        (∀ u ∈ us, u.oneCell' = true) ∧ relL w S es.flatten us
  | [], j, es, cells, h, hs => by
    simp only [List.map_nil, litRows, Option.some.injEq] at h
    subst h
    refine ⟨cells, [], by simp [Instr.fill], ?_, by simp, by simp, by simp, by simp, by simp [relL]⟩
    simp only [List.length_nil, Nat.add_zero] at hs
    rw [hs, List.append_nil, ← Array.length_toList, List.take_length]
  | (k, x) :: parts, j, es, cells, h, hs => by
    simp only [List.map_cons, litRows] at h
    split at h
    · rename_i hk
      subst hk
      split at h
      · rename_i tv hx
        split at h
        · rename_i p es' hp hes
          have hpr := toPV_rel hp (hev x tv hx)
          simp only [List.length_cons] at hs
          -- the part's cells
          have hpart : ∃ (e' : List PV) (us : List Value), es = e' :: es' ∧ (a.eval x).cells.toList = us ∧ us.length = i.size ∧ e'.length = i.size ∧ (∀ u ∈ us, u.oneCell' = true) ∧ relL w S e' us := by
            rw [isAggT_eq hi] at h
            cases hd : i.desc.isAgg with
            | true =>
              rw [hd, if_pos rfl] at h
              split at h
              · rename_i ha
                simp only [Option.some.injEq] at h
                subst h
                obtain ⟨cs, us, rfl, he, h1, h2, h3, h4⟩ := rel_agg hpr ha
                rw [tsize_eq hi] at h3 h4
                exact ⟨cs, us.toList, rfl, by rw [he]; rfl, by simpa using h4, h3, h1, h2⟩
              · cases h
            | false =>
              rw [hd, if_neg (by simp)] at h
              split at h
              · rename_i ho
                simp only [Option.some.injEq] at h
                subst h
                have h1 := rel_one hpr ho
                have h0 := (hT e i hi).one hd
                refine ⟨[p], [a.eval x], rfl, by rw [oneCell_cells h1], by rw [h0]; rfl, by rw [h0]; rfl, by simpa using h1, ?_⟩
                simp only [relL]
                exact ⟨_, _, rfl, hpr, rfl⟩
              · cases h
          obtain ⟨e', us, rfl, hu1, hu2, hu3, hu4, hu5⟩ := hpart
          have hsz : (a.eval x).cells.size = i.size := by rw [← Array.length_toList, hu1, hu2]
          have hle : k * i.size + i.size ≤ cells.size := by
            rw [← hs]
            calc k * i.size + i.size = (k + 1) * i.size := by rw [Nat.add_mul, Nat.one_mul]
              _ ≤ _ := Nat.mul_le_mul_right _ (by omega)
          obtain ⟨cells', hf1, hf2, hf3⟩ := fill_step (place := fun k => some (k * i.size, i.size)) (rest := parts.map fun x => (x.1, a.eval x.2)) (i := k) rfl hsz hle
          obtain ⟨cells'', us', g1, g2, g3, g4, g5, g6, g7⟩ := lit_ok hT hi hev parts (k + 1) es' cells' hes (by rw [hf3, ← hs]; congr 1; omega)
          refine ⟨cells'', us ++ us', by simp only [List.map_cons]; rw [hf1, g1], ?_, ?_, by simp [g4], ?_, ?_, ?_⟩
          · rw [g2, hf2, hu1]
            have hk1 : (k + 1) * i.size = k * i.size + i.size := by rw [Nat.add_mul, Nat.one_mul]
            have hcl : cells.toList.length = cells.size := Array.length_toList
            rw [hk1, ← List.append_assoc (List.take (k * i.size) cells.toList) us us']
            congr 1
            rw [List.take_append_of_le_length (by simp; omega)]
            have : (List.take (k * i.size) cells.toList ++ us).length = k * i.size + i.size := by simp; omega
            rw [← this, List.take_length]
          · simp only [List.length_append, List.length_cons, hu2, g3, Nat.add_mul, Nat.one_mul]; omega
          · intro q hq
            rcases List.mem_cons.1 hq with rfl | hq
            · exact hu3
            · exact g5 q hq
          · intro q hq
            rcases List.mem_append.1 hq with hq | hq
            · exact hu4 q hq
            · exact g6 q hq
          · simp only [List.flatten_cons]
            exact relL_append hu5 g7
        · cases h
      · cases h
    · cases h

theorem buildSlice_ok {t : TypeId} {n : Nat} {parts : Array (Nat × Operand)} (hT : TOk P T) (ho : o.op = .buildSlice t n parts) (h : buildSliceK T nx t n (parts.toList.map fun x => (x.1, ev x.2)) ret4 = some (v, up, nw, rd)) : OpOk P look nx ev o v up nw := by
  unfold buildSliceK at h
  split at h
  · rename_i sz by' e z hi
    split at h
    · rename_i i hie
      split at h
      · rename_i hle
        obtain ⟨hn, hsmall⟩ := hle
        split at h
        · rename_i es hes
          obtain ⟨rfl, rfl, rfl, rfl⟩ := ret4_inv h
          have hu := (hT t _ hi).desc
          simp only [descOk] at hu
          have hty := hT e i hie
          obtain ⟨zv, hz1, hz2, _, _, f, hf1, hf2, hf3, hf4⟩ := run_zeroValue hty
          have hpos := hty.pos
          simp only [List.length_map, Array.length_toList] at hn
          intro a w S π hev hob hf K Q hK
          have hzz : ∃ zs : Array Value, zs.size = n * i.size ∧ ∀ cells, Instr.fill (fun k => some (k * i.size, i.size)) zs (parts.toList.map fun x => (x.1, a.eval x.2)) = some cells → (execOp a.eval o).run P w = .ok (.value (.slice (some ⟨w.heap.size, 0, none⟩) n n)) (w.alloc (.cells cells e)) := by
            by_cases h0 : n * i.size = 0
            · refine ⟨#[], by simp [h0], fun cells hc => ?_⟩
              simp [execOp, ho, Instr.buildSlice, run_underlying hu, sizeOf, typeInfo, hf1, hf3, h0, hc, newRow, Array.range_zero']
            · refine ⟨(Array.range (n * i.size)).map (zv.cells[· % zv.cells.size]!), by simp, fun cells hc => ?_⟩
              have := run_buildSlice (P := P) w t e n (parts.map fun x => (x.1, a.eval x.2)) cells f zv hu hf1 hf2 (by rw [hf3]; omega) (by rw [hf3]; exact h0) (by rw [hf3]; simpa using hc)
              simp [execOp, ho, this]
          obtain ⟨zs, hzs, hrun⟩ := hzz
          obtain ⟨cells, us, g1, g2, g3, g4, g5, g6, g7⟩ := lit_ok hT hie hev parts.toList 0 es zs hes (by rw [hzs, Nat.zero_add, Array.length_toList, hn])
          simp only [Nat.zero_mul, List.take_zero, List.nil_append] at g2
          have hpl : parts.toList.length = n := by rw [Array.length_toList, hn]
          rw [hpl] at g3 g4
          refine put_new (hrun cells g1) hK ?_
          have hg : (w.alloc (.cells cells e)).heap[w.heap.size]? = some (.cells cells e (0, 0)) := by show (w.heap.push _)[w.heap.size]? = _; simp
          refine row_new hob hf rfl rfl rfl (by show (w.heap.push _).size = _; simp) (fun k hk => by show (w.heap.push _)[k]? = _; rw [Array.getElem?_push, if_neg (by omega)]) hg (.inl rfl) ?_ g4.symm (Nat.le_refl _) (by rw [← Array.length_toList, g2, g3]; exact Nat.le_refl _) ?_ fun hkeep => ?_
          · intro u hu'; rw [g2] at hu'; exact g6 u hu'
          · have : n * 1 ≤ n * i.size := Nat.mul_le_mul_left _ hpos
            simp only [maxLen]; omega
          · refine relEs_cells g5 (relL_keep hkeep _ _ g7) g6 fun j u hu' => ?_
            rw [cell_of_row _ _ _ _ _ _ hg, Nat.zero_add, ← Array.getElem?_toList, g2]
            exact hu'
        · cases h
      · cases h
    · cases h
  · cases h

theorem madeCells_get {z : Array Value} {n j : Nat} (hz : 0 < z.size) (hj : j < n) : ∃ u, (madeCells z n)[j]? = some u ∧ z[j % z.size]? = some u := by
  have : j % z.size < z.size := Nat.mod_lt _ hz
  refine ⟨z[j % z.size], ?_, by simp [this]⟩
  simp only [madeCells, Array.getElem?_map, Array.getElem?_range, hj, if_true, Option.map_some, getElem!_pos z (j % z.size) this]

theorem makeSlice_ok {t : TypeId} {l c : Operand} {x y : TV} (hT : TOk P T) (ho : o.op = .makeSlice t l c) (hx : ev l = some x) (hy : ev c = some y) (h : makeSliceK T nx t x y ret4 = some (v, up, nw, rd)) : OpOk P look nx ev o v up nw := by
  unfold makeSliceK at h
  split at h
  · rename_i sz by' e z hi
    split at h
    · rename_i p q i hie
      split at h
      · rename_i zp hzp
        obtain ⟨m, hm, h'⟩ := bind_inv h
        obtain ⟨m', hm', h''⟩ := bind_inv h'
        cases asI_inv hm
        cases asI_inv hm'
        split at h''
        · rename_i hle
          obtain ⟨rfl, h0, hb, hsz⟩ := hle
          obtain ⟨rfl, rfl, rfl, rfl⟩ := ret4_inv h''
          have hu := (hT t _ hi).desc
          simp only [descOk] at hu
          have hty := hT e i hie
          obtain ⟨zv, hz1, hz2, _, hzd, f, hf1, hf2, hf3, hf4⟩ := run_zeroValue hty
          have hpos := hty.pos
          have hposb := hty.posb
          have hmul : m * 1 ≤ m * i.bytes := Int.mul_le_mul_of_nonneg_left (by omega) h0
          simp only [maxBytes] at hb
          have hml : m ≤ 140737488355328 := by omega
          intro a w S π hev hob hf K Q hK
          have hrun := run_make (P := P) w t e f zv hu hf1 hf2 .i64 .i64 m m h0 (Int.le_refl _) (by rw [hf4, Int.mul_comm]; omega) (by omega)
          have hg : (w.alloc (.cells (madeCells zv.cells (m.toNat * f.size)) e)).heap[w.heap.size]? = some (.cells (madeCells zv.cells (m.toNat * f.size)) e (0, 0)) := by show (w.heap.push _)[w.heap.size]? = _; simp
          obtain ⟨hz3, hz4⟩ := zsOk_rel (w := w) (S := S) (π := π) hz2
          have hzrel : relL w S zp.cells zv.cells.toList := by
            have hr := packTV_rel hz3 hz4
            have hr2 := toPV_rel hzp hr
            cases zp with
            | agg cs =>
              simp only [rel] at hr2
              obtain ⟨us, he, _, hl⟩ := hr2
              simp only [Value.agg.injEq] at he
              subst he
              exact hl
            | _ =>
              exfalso
              unfold packTV at hzp
              split at hzp <;> simp only [toPV, Option.some.injEq, reduceCtorEq] at hzp
              split at hzp <;> simp at hzp
          refine put_new (u := .slice (some ⟨w.heap.size, 0, none⟩) m.toNat m.toNat) (w' := w.alloc (.cells (madeCells zv.cells (m.toNat * f.size)) e)) (by simp [execOp, ho, ev_int hx hev, ev_int hy hev, hrun]) hK ?_
          refine row_new hob hf rfl rfl rfl (by show (w.heap.push _).size = _; simp) (fun k hk => by show (w.heap.push _)[k]? = _; rw [Array.getElem?_push, if_neg (by omega)]) hg (.inl rfl) ?_ (by simp) (Nat.le_refl _) (by rw [size_madeCells, hf3]; exact Nat.le_refl _) (by simp only [maxLen]; omega) fun hkeep => ?_
          · intro u hu'
            obtain ⟨j, hj⟩ := List.mem_iff_getElem?.1 hu'
            rw [Array.getElem?_toList] at hj
            have hjl : j < m.toNat * f.size := by
              have := (Array.getElem?_eq_some_iff.1 hj).1
              rwa [size_madeCells] at this
            obtain ⟨u', k1, k2⟩ := madeCells_get (by rw [hz1]; exact hpos) hjl
            rw [k1] at hj; cases hj
            rw [← Array.getElem?_toList] at k2
            exact hz4 u (List.mem_of_getElem? k2)
          · refine relEs_of fun k e' he' => ?_
            rw [List.getElem?_replicate] at he'
            split at he'
            · rename_i hk
              cases he'
              refine ⟨hsz.symm, relCs_of fun j p hp => ?_⟩
              obtain ⟨u, k1, k2⟩ := relL_get (relL_keep hkeep _ _ hzrel) hp
              have hj : j < i.size := by rw [hsz]; exact (List.getElem?_eq_some_iff.1 hp).1
              have hlt : k * i.size + j < m.toNat * f.size := by
                rw [hf3]
                calc k * i.size + j < k * i.size + i.size := by omega
                  _ = (k + 1) * i.size := by rw [Nat.add_mul, Nat.one_mul]
                  _ ≤ m.toNat * i.size := Nat.mul_le_mul_right _ hk
              obtain ⟨u', q1, q2⟩ := madeCells_get (z := zv.cells) (by rw [hz1]; exact hpos) hlt
              have hmod : (k * i.size + j) % zv.cells.size = j := by rw [hz1, Nat.mul_comm, Nat.mul_add_mod, Nat.mod_eq_of_lt hj]
              rw [hmod, ← Array.getElem?_toList, k1] at q2
              cases q2
              refine ⟨u, ?_, hz4 u (List.mem_of_getElem? k1), k2⟩
              rw [cell_of_row _ _ _ _ _ _ hg, Nat.zero_add]
              exact q1
            · cases he'
        · cases h''
      · cases h
    · cases h
  · cases h

theorem strOf_rel {w : World} {S : Nat → Prop} : ∀ {es : List (List PV)} {l : List UInt8} {us : List Value}, strOf es = some l → relL w S es.flatten us → ∃ ns : List Int, us = ns.map (Value.int .u8) ∧ l = ns.map fun n => UInt8.ofNat n.toNat
  | [], l, us, h, hr => by
    simp only [strOf, Option.some.injEq] at h
    simp only [List.flatten_nil, relL] at hr
    subst h hr
    exact ⟨[], rfl, rfl⟩
  | e :: es, l, us, h, hr => by
    match e, h with
    | [.int .u8 n], h =>
      simp only [strOf] at h
      obtain ⟨l', hl', h'⟩ := bind_inv h
      simp only [Option.some.injEq] at h'
      subst h'
      simp only [List.flatten_cons, List.singleton_append, relL, rel] at hr
      obtain ⟨u, us', rfl, rfl, h2⟩ := hr
      obtain ⟨ns, rfl, rfl⟩ := strOf_rel hl' h2
      exact ⟨n :: ns, rfl, rfl⟩

theorem foldl_push_list : ∀ (ns : List Int) (r : ByteArray), ns.foldl (fun r n => r.push (UInt8.ofNat n.toNat)) r = ⟨r.data ++ (ns.map fun n => UInt8.ofNat n.toNat).toArray⟩
  | [], r => by simp
  | n :: ns, r => by
    simp only [List.foldl_cons]
    rw [foldl_push_list ns]
    simp [ByteArray.push]

theorem convert_ok {src dst : TypeId} {X : Operand} {x : TV} (hT : TOk P T) (ho : o.op = .convert src dst X) (hx : ev X = some x) (h : convertK T look nx src dst x ret4 = some (v, up, nw, rd)) : OpOk P look nx ev o v up nw := by
  have hexec : ∀ (a : Act) (w w' : World) (r : Value), (convert src dst (a.eval X)).run P w = .ok r w' → (execOp a.eval o).run P w = .ok (.value r) w' := by
    intro a w w' r hr
    simp [execOp, ho, hr]
  unfold convertK at h
  split at h
  · rename_i i1 i2 i3 i4 i5 i6 i7 i8 hs hd
    have us := (hT src _ hs).desc
    have ud := (hT dst _ hd).desc
    simp only [descOk] at us ud
    split at h
    · rename_i p
      obtain ⟨n, hn, h'⟩ := bind_inv h
      cases asI_inv hn
      obtain ⟨rfl, rfl, rfl, rfl⟩ := ret4_inv h'
      refine opOk_pure fun a w S π hev hob => ⟨_, hexec a w w _ ?_, by simp only [relTV, rel]; rfl⟩
      rw [ev_int hx hev]
      simp [convert, run_underlying us, run_underlying ud, Conv.intToInt]
    · cases h
  · rename_i i1 i2 i3 i4 i5 i6 hs hd
    have us := (hT src _ hs).desc
    have ud := (hT dst _ hd).desc
    simp only [descOk] at us ud
    split at h
    · rename_i p
      obtain ⟨n, hn, h'⟩ := bind_inv h
      cases asS_inv hn
      obtain ⟨rfl, rfl, rfl, rfl⟩ := ret4_inv h'
      refine opOk_pure fun a w S π hev hob => ⟨_, hexec a w w _ ?_, by simp only [relTV, rel]; rfl⟩
      rw [ev_str hx hev]
      simp [convert, run_underlying us, run_underlying ud]
    · cases h
  · rename_i i1 i2 i3 i4 i5 e i6 hs hd
    have us := (hT src _ hs).desc
    have ud := (hT dst _ hd).desc
    simp only [descOk] at us ud
    split at h
    · rename_i z he
      have ue := (hT e _ he).desc
      simp only [descOk] at ue
      split at h
      · rename_i p
        obtain ⟨s, hn, h'⟩ := bind_inv h
        cases asS_inv hn
        split at h'
        · rename_i hsz
          obtain ⟨rfl, rfl, rfl, rfl⟩ := ret4_inv h'
          intro a w S π hev hob hf K Q hK
          have hrun := Lib.run_convert_string_bytes (P := P) w src dst e s us ud ue
          have hge := grownCap_ge w s.size 0 e
          have hle := grownCap_le_maxLen w s.size 0 e (by simp only [maxBytes] at hsz; simp only [maxLen]; omega)
          have hsz2 : (Lib.bytesCells w e s).size = grownCap w s.size 0 e := by
            simp only [Lib.bytesCells, Array.size_append, Array.size_map, Array.size_replicate]
            show s.size + _ = _
            omega
          have hlen : (bytesOf s).length = s.size := by simp [bytesOf]
          refine put_new (u := .slice (some ⟨w.heap.size, 0, none⟩) s.size (grownCap w s.size 0 e)) (by rw [hexec a w _ _ (by rw [ev_str hx hev]; exact hrun)]) hK ?_
          refine row_new hob hf rfl rfl rfl (Lib.bytesWorld_size w e s) (fun k hk => Lib.bytesWorld_at_old w e s k hk) (Lib.bytesWorld_at_new w e s) (.inr (Nat.le_refl _)) ?_ hlen.symm hge (by rw [hsz2, Nat.mul_one]; exact Nat.le_refl _) hle fun hkeep => ?_
          · intro u hu
            simp only [Lib.bytesCells, Array.toList_append, Array.toList_map, Array.toList_replicate, List.mem_append, List.mem_map, List.mem_replicate] at hu
            rcases hu with ⟨b, _, rfl⟩ | ⟨_, rfl⟩ <;> rfl
          · refine relEs_of fun j q hq => ?_
            simp only [bytesOf, List.getElem?_map] at hq
            cases hb : s.data.toList[j]? with
            | none => rw [hb] at hq; cases hq
            | some b =>
              rw [hb] at hq
              simp only [Option.map_some, Option.some.injEq] at hq
              subst hq
              have hj : j < s.size := by
                have := (List.getElem?_eq_some_iff.1 hb).1
                simpa using this
              refine ⟨rfl, ?_⟩
              simp only [relCs, Nat.zero_add, Nat.mul_one]
              refine ⟨⟨.int .u8 b.toNat, ?_, rfl, by simp only [rel]⟩, trivial⟩
              rw [Lib.bytesWorld_cell w e s j hj]
              simp [List.getD, hb]
        · cases h'
      · cases h
    · cases h
  · rename_i i1 i2 e i3 i4 i5 i6 hs hd
    have us := (hT src _ hs).desc
    have ud := (hT dst _ hd).desc
    simp only [descOk] at us ud
    split at h
    · rename_i z he
      have ue := (hT e _ he).desc
      simp only [descOk] at ue
      obtain ⟨ms, rd0, h', hel⟩ := elems_ok h
      obtain ⟨l, hl, h''⟩ := bind_inv h'
      obtain ⟨rfl, rfl, rfl, rfl⟩ := ret4_inv h''
      refine opOk_pure fun a w S π hev hob => ⟨_, hexec a w w _ ?_, by simp only [relTV, rel]; rfl⟩
      obtain ⟨h1, h2⟩ := hel w S π _ (hev X _ hx) hob
      rcases h2 with ⟨⟨A, he⟩, rfl⟩ | ⟨ad, cap, vs, he, h3, h4, h5, h6⟩
      · simp only [strOf, Option.some.injEq] at hl
        subst hl
        rw [he]
        cases A with
        | none =>
          simp [convert, run_underlying us, run_underlying ud, run_underlying ue, Conv.bytesToString]
          rfl
        | some ad =>
          have hlc := run_loadCells_list (P := P) w ad ([].map (Value.int .u8)) (by simp)
          have hrun := run_bytesToString (P := P) w ad 0 0 [] (by simpa using hlc)
          simp [convert, run_underlying us, run_underlying ud, run_underlying ue, hrun]
          rfl
      · obtain ⟨ns, rfl, rfl⟩ := strOf_rel hl h6
        have hlc := run_loadCells_list (P := P) w ad (ns.map (Value.int .u8)) h4
        have hrun := run_bytesToString (P := P) w ad ms.length cap ns (by rw [← hlc]; congr 2; rw [h3, Nat.mul_one])
        rw [he]
        simp [convert, run_underlying us, run_underlying ud, run_underlying ue, hrun, foldl_push_list]
    · cases h
  · rename_i i1 i2 e i3 i4 i5 e' i6 hs hd
    have us := (hT src _ hs).desc
    have ud := (hT dst _ hd).desc
    simp only [descOk] at us ud
    split at h
    case h_2 => cases h
    rename_i z he
    have ue := (hT e _ he).desc
    simp only [descOk] at ue
    split at h
    case isFalse => cases h
    rename_i hsd
    subst hsd
    split at h
    case h_2 => cases h
    rename_i id
    split at h
    case h_2 => cases h
    rename_i es sz hl
    cases hem : es.isEmpty with
    | true => rw [hem] at h; cases h
    | false =>
      rw [hem, cond_false] at h
      simp only [ret4, Option.some.injEq, Prod.mk.injEq] at h
      obtain ⟨rfl, rfl, rfl, rfl⟩ := h
      intro a w S π hev hob hf K Q hK
      have hv := hev X _ hx
      simp only [relTV] at hv
      obtain ⟨pl, hp', hk⟩ := hob.ok id _ hl
      have hne : es ≠ [] := by intro h0; rw [h0] at hem; cases hem
      rcases hv with ⟨hp, hv⟩ | ⟨b, s, c, zz, l, aa, hp, hv⟩
      · rw [hp] at hp'; cases hp'
        simp only [obOk] at hk
        exact absurd hk hne
      · rw [hp] at hp'; cases hp'
        have hk0 := hk
        simp only [obOk] at hk
        obtain ⟨h1, h2, h3, h4, C, t, fr, hg, hu, ho1, hc, hr⟩ := hk
        let w' := w.freeze ⟨b, C.size, none⟩ 1
        obtain ⟨lo, hi⟩ := fr
        have hu' : Upd w b (.cells C t (if (lo == hi) = true then (C.size, C.size + 1) else (min lo C.size, max hi (C.size + 1)))) w' := by
          refine ⟨rfl, rfl, rfl, by simp [w', World.freeze], ?_, ?_⟩
          · intro k hk
            simp only [w', World.freeze, Nat.one_ne_zero, if_false, Array.getElem?_modify]
            rw [if_neg (by omega)]
          · simp only [w', World.freeze, Nat.one_ne_zero, if_false, Array.getElem?_modify]
            simp [hg]
        have hunf : unfrozen C (if (lo == hi) = true then (C.size, C.size + 1) else (min lo C.size, max hi (C.size + 1))) := by
          split
          · exact .inr (Nat.le_refl _)
          · rename_i hlh
            rcases hu with hu | hu
            · exact absurd (by simpa using hu) hlh
            · simp only at hu
              exact .inr (by simp only; omega)
        have hrun : (convert src src (a.eval X)).run P w = .ok (a.eval X) w' := by
          have hsh : w.shape? b = some (t, C.size) := by simp [World.shape?, hg]
          have hl0 : es.length ≠ 0 := fun h0 => hne (List.eq_nil_of_length_eq_zero h0)
          have hv' : a.eval X = .slice (some ⟨b, s, none⟩) l c := by
            rcases hv.2 with h0 | h0
            · omega
            · rw [hv.1, h0]
          rw [hv']
          simp [convert, run_underlying us, run_underlying ue, markStringish, hsh, w']
        obtain ⟨k1, k2⟩ := obs_turn (nx := nx) (ob' := .row es sz) hob hl rfl rfl hp hu' fun hkeep => by
          simp only [obOk]
          refine ⟨h1, h2, h3, h4, C, t, _, hu'.here, hunf, ho1, hc, ?_⟩
          refine relEs_of fun i q hq => ?_
          obtain ⟨q1, q2⟩ := relEs_get hr hq
          refine ⟨q1, relCs_other hkeep (fun j hj => ?_) q2⟩
          rw [cell_upd hu', cell_of_row w b _ C t (lo, hi) hg]
        unfold Oper.wp
        rw [hexec a w w' _ hrun, Oper.upon_value]
        exact hK (a.eval X) w' S π ⟨by simp only [relTV]; exact .inr ⟨b, s, c, zz, l, aa, hp, hv⟩, k1, Ext.refl _, fun _ h => .inl h, k2⟩
  · cases h

end
end Go.Proofs.YtgpjnppakffoiaaV
