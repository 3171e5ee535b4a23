/- The reading machine's operations are told rightly: appending, whole. -/
import Derived.Test.YtgpjnppakffoiaaVOps7
namespace Go.Proofs.YtgpjnppakffoiaaV
open Go Go.RowKit

section
variable {P : Program} {T : TypeId → Option TI} {look : Nat → Option Ob} {nx : Nat} {ev : Operand → Option TV} {o : Oper} {v : TV} {up : List (Nat × Ob)} {nw : List Ob} {rd : List Nat}

/-- A slice as it lies: what its elements are, and whose block it is in. -/
structure View (w : World) (S : Nat → Prop) (size : Nat) (A : Option Addr) (len cap : Nat) (es : List (List PV)) (B : Nat → Nat → Prop) : Prop where
  hlen : es.length = len
  lens : ∀ e ∈ es, e.length = size
  le : len ≤ cap
  max : cap ≤ maxLen
  at' : (A = none ∧ cap = 0) ∨ ∃ b s C t fr, (cap = 0 ∨ A = some ⟨b, s, none⟩) ∧ A.isSome = true ∧ B b s ∧ w.heap[b]? = some (.cells C t fr) ∧ unfrozen C fr ∧ oneCells C ∧ (cap ≠ 0 → s + cap * size ≤ C.size) ∧ relEs w S b s size es

theorem View.olds {w : World} {S : Nat → Prop} {size : Nat} {A : Option Addr} {len cap : Nat} {es : List (List PV)} {B : Nat → Nat → Prop} (h : View w S size A len cap es B) :
    ∃ olds, (∀ P, (Builtin.firstCells size len (.slice A len cap)).run P w.drew = .ok olds.toArray w.drew) ∧ relL w S es.flatten olds ∧ (∀ u ∈ olds, u.oneCell' = true) ∧ olds.length = es.length * size := by
  by_cases h0 : len = 0
  · have he : es = [] := List.eq_nil_of_length_eq_zero (by rw [h.hlen, h0])
    subst he
    refine ⟨[], fun P => ?_, by simp [relL], by simp, by simp⟩
    subst h0
    cases A with
    | none => exact run_firstCells_none w.drew size 0 0 cap
    | some a => simpa using run_firstCells_some (P := P) w.drew size 0 a 0 cap [] (by simp) (by simp)
  · rcases h.at' with ⟨_, hc⟩ | ⟨b, s, C, t, fr, hc, _, _, hg, _, _, _, hr⟩
    · have := h.le; omega
    · have hA : A = some ⟨b, s, none⟩ := by
        rcases hc with hc | hc
        · have := h.le; omega
        · exact hc
      subst hA
      obtain ⟨us, h1, h2, h3, h4⟩ := relEs_flat hr
      refine ⟨us, fun P => ?_, h4, h3, h1⟩
      exact run_firstCells_some (P := P) w.drew size len ⟨b, s, none⟩ len cap us (by rw [h1, h.hlen]) (fun j u hu => by rw [Addr.add_lit]; simpa using h2 j u hu)

/-- A slice as one reads it. -/
structure Rd (w : World) (S : Nat → Prop) (size : Nat) (A : Option Addr) (len cap : Nat) (es : List (List PV)) : Prop where
  hlen : es.length = len
  lens : ∀ e ∈ es, e.length = size
  le : len ≤ cap
  max : cap ≤ maxLen
  olds : ∃ olds, (∀ P, (Builtin.firstCells size len (.slice A len cap)).run P w.drew = .ok olds.toArray w.drew) ∧ relL w S es.flatten olds ∧ (∀ u ∈ olds, u.oneCell' = true) ∧ olds.length = es.length * size

theorem View.read {w : World} {S : Nat → Prop} {size : Nat} {A : Option Addr} {len cap : Nat} {es : List (List PV)} {B : Nat → Nat → Prop} (h : View w S size A len cap es B) : Rd w S size A len cap es :=
  ⟨h.hlen, h.lens, h.le, h.max, h.olds⟩

/-- Nothing is appended. -/
theorem run_append_none {w : World} {t tx ty e : TypeId} {i : TypeInfo} (ht : P.underlying t = some (.slice e)) (hi : P.info? e = some i) {A : Option Addr} {len cap : Nat} {x : Value} (hs : Src P i.size tx x 0 [] w) (hle : len ≤ cap) :
    (Builtin.append_ #[t, tx] ty #[.slice A len cap, x]).run P w = .ok (.slice A len cap) w := by
  rcases hs.kind with ⟨e', hk⟩ | hk <;> cases A <;> simp [Builtin.append_, run_underlying ht, run_underlying hk, sizeOf, typeInfo, hi, hs.len, hle, hs.cells, storeCells]

theorem zeroCells_one {z : Array Value} {n : Nat} (h : ∀ u ∈ z.toList, u.oneCell' = true) (hz : 0 < z.size) : ∀ u ∈ (Builtin.zeroCells z n).toList, u.oneCell' = true := by
  intro u hu
  simp only [Builtin.zeroCells, Array.toList_map, List.mem_map] at hu
  obtain ⟨i, _, rfl⟩ := hu
  have : i % z.size < z.size := Nat.mod_lt _ hz
  rw [getElem!_pos z _ this]
  exact h _ (by simp)

/-- A slice that is appended to becomes a row of the call's own: 'ids' are given up. -/
theorem append_put {w : World} {S : Nat → Prop} {π : Nat → Option Pl} {ids : List Nat} {t tx ty e : TypeId} {i : TI} {A : Option Addr} {len cap : Nat} {es ms : List (List PV)} {x : Value} (hT : TOk P T) (hi : T e = some i) (ht : P.underlying t = some (.slice e))
    (hob : ObsOk w S π look) (hf : Free look π nx 1) (hids : ∀ i ∈ ids, (look i).isSome = true)
    (hv : Rd w S i.size A len cap es) (hvw : (ids = [] ∧ (0 < ms.length → cap = len) ∧ (ms.length = 0 → A = none ∧ cap = 0)) ∨ View w S i.size A len cap es fun b _ => ∃ i ∈ ids, ∃ x pi, look i = some x ∧ x.live = true ∧ π i = some pi ∧ pi.blk = some b)
    (hs : SrcOk P i.size tx x ms w S) (hb : (len + ms.length) * i.bytes ≤ maxBytes) :
    ∃ u w' π', (Builtin.append_ #[t, tx] ty #[.slice A len cap, x]).run P w = .ok u w' ∧ After w S π look nx (.ow nx) (deadAll ids) [.row (es ++ ms) i.size] u w' S π' := by
  have hty := hT e i hi
  obtain ⟨z, hz1, hz2, hz3, _, f, hf1, hf2, hf3, hf4⟩ := run_zeroValue hty
  obtain ⟨news, hsrc, hn⟩ := hs.src
  rw [← hf3] at hsrc
  have hnl : news.length = ms.length * i.size := by rw [← hf3]; exact hsrc.newsLen
  have hpb := hty.posb
  have hmaxlen : len + ms.length ≤ maxLen := by
    have : (len + ms.length) * 1 ≤ (len + ms.length) * i.bytes := Nat.mul_le_mul_left _ hpb
    simp only [maxBytes] at hb
    simp only [maxLen]
    omega
  -- put a piece in its place
  have put : ∀ (w' : World) (u : Value) (pl : Pl), (Builtin.append_ #[t, tx] ty #[.slice A len cap, x]).run P w = .ok u w' → w'.os = w.os → w'.tape = w.tape → w'.output = w.output → w.heap.size ≤ w'.heap.size →
      (∀ k, k < w.heap.size → pl.blk ≠ some k → w'.heap[k]? = w.heap[k]?) →
      (∀ b, pl.blk = some b → (w.heap.size ≤ b ∧ b < w'.heap.size) ∨ ∃ i ∈ ids, ∃ x pi, look i = some x ∧ x.live = true ∧ π i = some pi ∧ pi.blk = some b) →
      (∀ π', Ext π π' → π' nx = some pl → Keep w S w' S → obOk w' S π' (.row (es ++ ms) i.size) pl) → (∀ (π' : Nat → Option Pl), π' nx = some pl → relTV w' S π' (.ow nx) u) →
      ∃ u w' π', (Builtin.append_ #[t, tx] ty #[.slice A len cap, x]).run P w = .ok u w' ∧ After w S π look nx (.ow nx) (deadAll ids) [.row (es ++ ms) i.size] u w' S π' := by
    intro w' u pl h1 h2 h3 h4 h5 h6 h7 h8 h9
    obtain ⟨π', g1, g2, g3, g4, g5⟩ := obs_put (nx := nx) (ids := ids) (ob := .row (es ++ ms) i.size) (pl := pl) hob hf hids h2 h3 h4 h5 h6 h7 h8
    exact ⟨u, w', π', h1, h9 π' g4, g1, g2, g3, g5⟩
  by_cases hm0 : ms.length = 0
  · have hms : ms = [] := List.eq_nil_of_length_eq_zero hm0
    subst hms
    have hnews : news = [] := List.eq_nil_of_length_eq_zero (by simpa using hnl)
    subst hnews
    have hrun := run_append_none (P := P) (t := t) (ty := ty) (A := A) (len := len) (cap := cap) ht hf1 (by simpa using hsrc) hv.le
    have hat : (A = none ∧ cap = 0) ∨ ∃ b s C t fr, (cap = 0 ∨ A = some ⟨b, s, none⟩) ∧ A.isSome = true ∧ (∃ i ∈ ids, ∃ x pi, look i = some x ∧ x.live = true ∧ π i = some pi ∧ pi.blk = some b) ∧ w.heap[b]? = some (.cells C t fr) ∧ unfrozen C fr ∧ oneCells C ∧ (cap ≠ 0 → s + cap * i.size ≤ C.size) ∧ relEs w S b s i.size es := by
      rcases hvw with ⟨_, _, h2⟩ | hvw
      · exact .inl (h2 rfl)
      · exact hvw.at'
    rcases hat with ⟨rfl, hc⟩ | ⟨b, s, C, ct, fr, hc, hA, hB, hg, hu, ho, hcs, hr⟩
    · have hl0 : len = 0 := by have := hv.le; omega
      have he : es = [] := List.eq_nil_of_length_eq_zero (by rw [hv.hlen, hl0])
      subst hl0 he hc
      refine put w _ .nil hrun rfl rfl rfl (Nat.le_refl _) (fun _ _ _ => rfl) (fun b hb => by cases hb) (fun π' _ _ _ => by simp [obOk]) fun π' hp => ?_
      simp only [relTV]
      exact .inl ⟨hp, trivial⟩
    · refine put w _ (.at b s cap i.size len) hrun rfl rfl rfl (Nat.le_refl _) (fun _ _ _ => rfl) (fun k hk => ?_) (fun π' _ _ _ => ?_) fun π' hp => ?_
      · simp only [Pl.blk, Option.some.injEq] at hk
        subst hk
        exact .inr hB
      · simp only [obOk, List.append_nil]
        exact ⟨hv.hlen.symm, trivial, hv.le, hv.max, C, ct, fr, hg, hu, ho, hcs, hr⟩
      · simp only [relTV]
        obtain ⟨a, rfl⟩ := Option.isSome_iff_exists.1 hA
        exact .inr ⟨b, s, cap, _, _, a, hp, rfl, by simpa using hc⟩
  · by_cases hroom : len + ms.length ≤ cap
    · have hvw' := hvw.resolve_left fun h => by have := h.2.1 (by omega); omega
      rcases hvw'.at' with ⟨rfl, hc⟩ | ⟨b, s, C, ct, fr, hc, hA, hB, hg, hu, ho, hcs, hr⟩
      · omega
      · have hA' : A = some ⟨b, s, none⟩ := by rcases hc with hc | hc; (· omega); exact hc
        subst hA'
        have hfit : s + len * f.size + news.length ≤ C.size := by
          rw [hnl, hf3, Nat.add_assoc, ← Nat.add_mul]
          exact Nat.le_trans (Nat.add_le_add_left (Nat.mul_le_mul_right _ hroom) _) (hcs (by omega))
        obtain ⟨w', C', h1, h2, h3, h4⟩ := run_append_fits (P := P) (ty := ty) ht hf1 hsrc hroom hg hu hfit
        rw [hf3] at h4 hfit
        refine put w' _ (.at b s cap i.size (len + ms.length)) h1 h2.os h2.tape h2.output (by rw [h2.size]; exact Nat.le_refl _) (fun k hk hne => h2.other k (fun e => hne (by rw [e]; rfl))) (fun k hk => ?_) (fun π' _ _ hkeep => ?_) fun π' hp => ?_
        · simp only [Pl.blk, Option.some.injEq] at hk
          subst hk
          exact .inr hB
        · simp only [obOk]
          have hone : oneCells C' := by
            intro u hu'
            rw [h4] at hu'
            simp only [List.mem_append] at hu'
            rcases hu' with (hu' | hu') | hu'
            · exact ho u (List.mem_of_mem_take hu')
            · exact hsrc.one u hu'
            · exact ho u (List.mem_of_mem_drop hu')
          refine ⟨by rw [List.length_append, hv.hlen], trivial, hroom, hv.max, C', ct, fr, h2.here, hu.imp id fun h => by rw [h3]; exact h, hone, fun h0 => by rw [h3]; exact hcs h0, ?_⟩
          have hcell : ∀ j : Nat, w'.cell? ⟨b, j, none⟩ = C'.toList[j]? := fun j => by rw [cell_of_row w' b j C' ct fr h2.here]; simp
          refine relEs_append (relEs_upto hkeep hr fun j hj => ?_) (relEs_cells hs.len (relL_keep hkeep _ _ hn) hsrc.one fun j u hu' => ?_)
          · rw [hv.hlen] at hj
            rw [hcell, h4, cell_of_row w b _ C ct fr hg, List.append_assoc]
            rw [List.getElem?_append_left (by simp; omega), List.getElem?_take, if_pos (by omega)]
            simp
          · rw [hcell, h4, hv.hlen, List.append_assoc]
            rw [List.getElem?_append_right (by simp; omega)]
            have hlt : j < news.length := (List.getElem?_eq_some_iff.1 hu').1
            have hCl : C.toList.length = C.size := Array.length_toList
            rw [List.length_take, Nat.min_eq_left (by omega), show s + len * i.size + j - (s + len * i.size) = j by omega]
            rw [List.getElem?_append_left hlt]
            exact hu'
        · simp only [relTV]
          exact .inr ⟨b, s, cap, _, _, _, hp, rfl, .inr rfl⟩
    · obtain ⟨olds, ho1, ho2, ho3, ho4⟩ := hv.olds
      have h63 : ((len + ms.length : Nat) : Int) ≤ 9223372036854775807 := by simp only [maxLen] at hmaxlen; omega
      have hp := growslice_fits (bytes := i.bytes) (by omega : cap < len + ms.length) (by simpa only [maxBytes] using hb)
      have hrun := run_append_grow_src (P := P) w t tx ty e f z ht hf1 hf2 A len cap olds (by rw [hf3]; exact ho1 P) x ms.length news hsrc (by omega) h63 (by rw [hf4]; exact hp)
      have hge := grownCap_ge w (len + ms.length) cap e
      have hgm := grownCap_le_maxLen w (len + ms.length) cap e hmaxlen
      refine put _ _ (.at w.heap.size 0 (grownCap w (len + ms.length) cap e) i.size (es.length + ms.length)) hrun rfl rfl rfl (by show _ ≤ (w.heap.push _).size; simp) (fun k hk _ => ?_) (fun k hk => ?_) (fun π' _ _ hkeep => ?_) fun π' hp => ?_
      · show (w.heap.push _)[k]? = _
        rw [Array.getElem?_push, if_neg (by omega)]
      · simp only [Pl.blk, Option.some.injEq] at hk
        subst hk
        exact .inl ⟨Nat.le_refl _, by show _ < (w.heap.push _).size; simp⟩
      · refine grown_row (rest := (Builtin.zeroCells z.cells (grownCap w (len + ms.length) cap e - (len + ms.length))).toList) ?_ hkeep ho2 hn ho3 hsrc.one ?_ hv.lens hs.len ?_ (by rw [hv.hlen]; exact hge) hgm ho4 hnl
        · simp
        · exact zeroCells_one (zsOk_rel (w := w) (S := S) (π := π) hz2).2 (by rw [hz1]; exact hty.pos)
        · rw [Array.length_toList, size_zeroCells, hz1, hv.hlen]
      · simp only [relTV]
        exact .inr ⟨_, 0, _, _, _, _, hp, by rw [hv.hlen], .inr rfl⟩

theorem allLen_get {n : Nat} {es : List (List PV)} (h : allLen n es = true) : ∀ e ∈ es, e.length = n := by
  simp only [allLen, List.all_eq_true, beq_iff_eq] at h; exact h

/-- A slice of the call's own as it lies. -/
theorem view_sl {w : World} {S : Nat → Prop} {π : Nat → Option Pl} {id off len sz : Nat} {cp : Bool} {es : List (List PV)} {u : Value} (hob : ObsOk w S π look) (hl : look id = some (.row es sz)) (h : relTV w S π (.sl id off len cp) u) :
    ∃ A cap, u = .slice A len cap ∧ (cp = true → cap = len) ∧ View w S sz A len cap ((es.drop off).take len) fun b _ => ∃ x pi, look id = some x ∧ x.live = true ∧ π id = some pi ∧ pi.blk = some b := by
  simp only [relTV] at h
  obtain ⟨pl, hp', hk⟩ := hob.ok id _ hl
  rcases h with ⟨hp, he, rfl, rfl⟩ | ⟨b, s, c, z', l', ad, cv, hp, he, k1, had, k2, k3, k4⟩
  · exact ⟨none, 0, he, fun _ => rfl, by simp, by simp, Nat.le_refl _, by simp [maxLen], .inl ⟨rfl, rfl⟩⟩
  · rw [hp] at hp'; cases hp'
    simp only [obOk] at hk
    obtain ⟨rfl, rfl, hlc, hcm, C, t, fr, hg, hu, ho, hcs, hr⟩ := hk
    have hlen : ((es.drop off).take len).length = len := by simp; omega
    have hr' := relEs_take (relEs_drop hr off) len
    refine ⟨some ad, cv, he, k3, hlen, fun e hm => ?_, k1, by omega, .inr ⟨b, s + off * z', C, t, fr, ?_, rfl, ⟨_, _, hl, rfl, hp, rfl⟩, hg, hu, ho, ?_, hr'⟩⟩
    · obtain ⟨i, hi⟩ := List.mem_iff_getElem?.1 hm
      exact (relEs_get hr' hi).1
    · rcases had with h0 | h0
      · exact .inl h0
      · exact .inr (by rw [h0])
    · rw [Nat.add_assoc, ← Nat.add_mul]
      exact fun h0 => Nat.le_trans (Nat.add_le_add_left (Nat.mul_le_mul_right _ k2) _) (hcs (by omega))

theorem view_ow {w : World} {S : Nat → Prop} {π : Nat → Option Pl} {id sz : Nat} {es : List (List PV)} {u : Value} (hob : ObsOk w S π look) (hl : look id = some (.row es sz)) (h : relTV w S π (.ow id) u) :
    ∃ A len cap, u = .slice A len cap ∧ View w S sz A len cap es fun b _ => ∃ x pi, look id = some x ∧ x.live = true ∧ π id = some pi ∧ pi.blk = some b := by
  simp only [relTV] at h
  obtain ⟨pl, hp', hk⟩ := hob.ok id _ hl
  rcases h with ⟨hp, he⟩ | ⟨b, s, c, z', l', ad, hp, he, had⟩
  · rw [hp] at hp'; cases hp'
    simp only [obOk] at hk
    subst hk
    exact ⟨none, 0, 0, he, by simp, by simp, Nat.le_refl _, by simp [maxLen], .inl ⟨rfl, rfl⟩⟩
  · rw [hp] at hp'; cases hp'
    simp only [obOk] at hk
    obtain ⟨rfl, rfl, hlc, hcm, C, t, fr, hg, hu, ho, hcs, hr⟩ := hk
    refine ⟨some ad, _, c, he, rfl, fun e hm => ?_, hlc, hcm, .inr ⟨b, s, C, t, fr, ?_, rfl, ⟨_, _, hl, rfl, hp, rfl⟩, hg, hu, ho, hcs, hr⟩⟩
    · obtain ⟨i, hi⟩ := List.mem_iff_getElem?.1 hm
      exact (relEs_get hr hi).1
    · rcases had with h0 | h0
      · exact .inl h0
      · exact .inr (by rw [h0])

/-- The elements of what is read. -/
theorem elems_ok {R : Type} {n : Nat} {y : TV} {k : List (List PV) → List Nat → Option R} {r : R} (h : elemsK look n y k = some r) :
    ∃ ms rd, k ms rd = some r ∧ ∀ (w : World) (S : Nat → Prop) (π : Nat → Option Pl) (u : Value), relTV w S π y u → ObsOk w S π look →
      (∀ e ∈ ms, e.length = n) ∧ (((∃ A, u = .slice A 0 0) ∧ ms = []) ∨ ∃ a cap us, u = .slice (some a) ms.length cap ∧ us.length = ms.length * n ∧ (∀ (j : Nat) (u : Value), us[j]? = some u → w.cell? (a.add j) = some u) ∧ (∀ u ∈ us, u.oneCell' = true) ∧ relL w S ms.flatten us) := by
  have hdata : ∀ (es : List (List PV)), allLen n es = true → ∀ (w : World) (S : Nat → Prop) (u : Value), rel w S (.fs es) u →
      (∀ e ∈ es, e.length = n) ∧ (((∃ A, u = .slice A 0 0) ∧ es = []) ∨ ∃ a cap us, u = .slice (some a) es.length cap ∧ us.length = es.length * n ∧ (∀ (j : Nat) (u : Value), us[j]? = some u → w.cell? (a.add j) = some u) ∧ (∀ u ∈ us, u.oneCell' = true) ∧ relL w S es.flatten us) := by
    intro es ha w S u hu
    refine ⟨allLen_get ha, ?_⟩
    simp only [rel] at hu
    rcases hu with hu | ⟨b, s, cap, sz, he, hle, hm, hS, hr⟩
    · exact .inl hu
    · obtain ⟨us, h1, h2, h3, h4⟩ := relEs_flat hr
      refine .inr ⟨_, cap, us, he, ?_, fun j u hu => by rw [Addr.add_lit]; exact h2 j u hu, h3, h4⟩
      cases es with
      | nil => simpa using h1
      | cons e es =>
        have g1 := (relEs_get hr (i := 0) rfl).1
        have g2 := allLen_get ha e (List.mem_cons_self ..)
        rw [h1, ← g2, g1]
  have hview : ∀ (es : List (List PV)) (w : World) (S : Nat → Prop) A len cap B, View w S n A len cap es B →
      (∀ e ∈ es, e.length = n) ∧ (((∃ A', Value.slice A len cap = .slice A' 0 0) ∧ es = []) ∨ ∃ a cap' us, Value.slice A len cap = .slice (some a) es.length cap' ∧ us.length = es.length * n ∧ (∀ (j : Nat) (u : Value), us[j]? = some u → w.cell? (a.add j) = some u) ∧ (∀ u ∈ us, u.oneCell' = true) ∧ relL w S es.flatten us) := by
    intro es w S A len cap B hv
    refine ⟨hv.lens, ?_⟩
    rcases hv.at' with ⟨rfl, hc⟩ | ⟨b, s, C, t, fr, hc, hA, _, hg, _, _, _, hr⟩
    · have hl0 : len = 0 := by have := hv.le; omega
      have he : es = [] := List.eq_nil_of_length_eq_zero (by rw [hv.hlen, hl0])
      subst hl0 he hc
      exact .inl ⟨⟨_, rfl⟩, rfl⟩
    · obtain ⟨a, rfl⟩ := Option.isSome_iff_exists.1 hA
      refine .inr ⟨a, cap, ?_⟩
      rw [hv.hlen]
      by_cases h0 : len = 0
      · have he : es = [] := List.eq_nil_of_length_eq_zero (by rw [hv.hlen, h0])
        subst he h0
        exact ⟨[], rfl, by simp, by simp, by simp, by simp [relL]⟩
      · have hA : a = ⟨b, s, none⟩ := by
          rcases hc with hc | hc
          · have := hv.le; omega
          · simpa using hc
        subst hA
        obtain ⟨us, h1, h2, h3, h4⟩ := relEs_flat hr
        exact ⟨us, rfl, by rw [h1, hv.hlen], fun j u hu => by rw [Addr.add_lit]; exact h2 j u hu, h3, h4⟩
  unfold elemsK at h
  split at h
  · exact ⟨_, _, h, fun w S π u hu _ => by simp only [relTV] at hu; exact ⟨by simp, .inl ⟨⟨_, hu⟩, rfl⟩⟩⟩
  · rename_i es
    split at h
    · rename_i ha
      exact ⟨_, _, h, fun w S π u hu _ => by simp only [relTV] at hu; exact hdata es ha w S u hu.1⟩
    · cases h
  · rename_i p
    obtain ⟨es, hes, h'⟩ := bind_inv h
    cases asFs_inv hes
    split at h'
    · rename_i ha
      exact ⟨_, _, h', fun w S π u hu _ => by simp only [relTV] at hu; exact hdata es ha w S u hu⟩
    · cases h'
  · rename_i id
    split at h
    · rename_i es sz hl
      split at h
      · rename_i hsz
        subst hsz
        refine ⟨_, _, h, fun w S π u hu hob => ?_⟩
        obtain ⟨A, len, cap, rfl, hv⟩ := view_ow hob hl hu
        exact hview es w S A len cap _ hv
      · cases h
    · cases h
  · rename_i id off len cp
    split at h
    · rename_i es sz hl
      split at h
      · rename_i hsz
        subst hsz
        refine ⟨_, _, h, fun w S π u hu hob => ?_⟩
        obtain ⟨A, cap, rfl, _, hv⟩ := view_sl hob hl hu
        exact hview _ w S A len cap _ hv
      · cases h
    · cases h
  · cases h

end
end Go.Proofs.YtgpjnppakffoiaaV
