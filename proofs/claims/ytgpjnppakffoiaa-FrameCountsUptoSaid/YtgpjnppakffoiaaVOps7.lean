/- The reading machine's operations are told rightly: appending. -/
import Derived.Test.YtgpjnppakffoiaaVOps6
import Derived.Deep.AppendSrc
namespace Go.Proofs.YtgpjnppakffoiaaV
open Go Go.RowKit

section
variable {P : Program} {T : TypeId → Option TI} {look : Nat → Option Ob} {nx : Nat} {ev : Operand → Option TV} {o : Oper} {v : TV} {up : List (Nat × Ob)} {nw : List Ob} {rd : List Nat}

theorem upLast_dead {ids : List Nat} {id : Nat} {x : Ob} (h : upLast (deadAll ids) id = some x) : x = .dead ∧ id ∈ ids := by
  induction ids with
  | nil => simp [deadAll, upLast] at h
  | cons i ids ih =>
    simp only [deadAll, List.map_cons, upLast] at h ih
    split at h
    · rename_i y hy
      cases h
      obtain ⟨h1, h2⟩ := ih hy
      exact ⟨h1, List.mem_cons_of_mem _ h2⟩
    · split at h
      · rename_i e; subst e; cases h; exact ⟨rfl, List.mem_cons_self ..⟩
      · cases h
theorem upLast_dead_mem {ids : List Nat} {id : Nat} (h : id ∈ ids) : upLast (deadAll ids) id = some .dead := by
  induction ids with
  | nil => cases h
  | cons i ids ih =>
    simp only [deadAll, List.map_cons, upLast] at ih ⊢
    rcases List.mem_cons.1 h with rfl | h
    · split
      · rename_i y hy; rw [show y = .dead from (upLast_dead hy).1]
      · simp
    · rw [ih h]

/-- Memory of the call's own in a later world: what is as it was, and what is new or has turned. -/
theorem obs_gen {w w' : World} {S S' : Nat → Prop} {π π' : Nat → Option Pl} {look' : Nat → Option Ob} (h : ObsOk w S π look) (hk : Keep w S w' S') (he : Ext π π') (hst : ∀ b, S' b → b < w'.heap.size) (hsz : w.heap.size ≤ w'.heap.size)
    (Old : Nat → Prop)
    (hold : ∀ id, Old id → look' id = look id ∧ ∀ x pl b, look id = some x → x.live = true → π id = some pl → pl.blk = some b → w'.heap[b]? = w.heap[b]? ∧ ¬ S' b)
    (hnew : ∀ id x, look' id = some x → ¬ Old id → ∃ pl, π' id = some pl ∧ obOk w' S' π' x pl ∧ ∀ b, x.live = true → pl.blk = some b → b < w'.heap.size ∧ ¬ S' b ∧ ∀ j y pj, look' j = some y → y.live = true → π' j = some pj → pj.blk = some b → j = id) :
    ObsOk w' S' π' look' := by
  have hpi : ∀ id x, Old id → look id = some x → ∀ pl, π' id = some pl → π id = some pl := by
    intro id x _ hx pl hp
    obtain ⟨pl', hp', _⟩ := h.ok id x hx
    rw [he _ _ hp'] at hp
    cases hp
    exact hp'
  refine ⟨?_, ?_, ?_, hst⟩
  · intro id x hx
    rcases Classical.em (Old id) with ho | ho
    · obtain ⟨h1, h2⟩ := hold id ho
      rw [h1] at hx
      obtain ⟨pl, hp, hob⟩ := h.ok id x hx
      refine ⟨pl, he _ _ hp, ?_⟩
      exact obOk_keep hk he x pl (fun hd b hb => (h2 x pl b hx hd hp hb).1) hob
    · obtain ⟨pl, hp, hob, _⟩ := hnew id x hx ho
      exact ⟨pl, hp, hob⟩
  · intro i j oi oj pi pj b h1 h2 h3 h4 h5 h6 h7 h8
    rcases Classical.em (Old i) with hi | hi
    · rcases Classical.em (Old j) with hj | hj
      · have e1 := (hold i hi).1
        have e2 := (hold j hj).1
        rw [e1] at h1
        rw [e2] at h2
        exact h.apart i j oi oj pi pj b h1 h2 h3 h4 (hpi i oi hi h1 pi h5) (hpi j oj hj h2 pj h6) h7 h8
      · obtain ⟨pl, hp, _, hb⟩ := hnew j oj h2 hj
        rw [hp] at h6; cases h6
        exact (hb b h4 h8).2.2 i oi pi h1 h3 h5 h7
    · obtain ⟨pl, hp, _, hb⟩ := hnew i oi h1 hi
      rw [hp] at h5; cases h5
      exact ((hb b h3 h7).2.2 j oj pj h2 h4 h6 h8).symm
  · rintro b ⟨id, x, pl, h1, h2, h3, h4⟩
    rcases Classical.em (Old id) with ho | ho
    · have e1 := (hold id ho).1
      rw [e1] at h1
      have hp := hpi id x ho h1 pl h3
      exact ⟨((hold id ho).2 x pl b h1 h2 hp h4).2, Nat.lt_of_lt_of_le (owned_lt h h1 h2 hp h4).1 hsz⟩
    · obtain ⟨pl', hp, _, hb⟩ := hnew id x h1 ho
      rw [hp] at h3; cases h3
      exact ⟨(hb b h2 h4).2.1, (hb b h2 h4).1⟩

/-- Some of the call's own memory is given up, one piece is new: where some of the old lay, or in a new block, or nowhere. -/
theorem obs_put {w w' : World} {S : Nat → Prop} {π : Nat → Option Pl} {ids : List Nat} {ob : Ob} {pl : Pl} (h : ObsOk w S π look) (hf : Free look π nx 1) (hids : ∀ i ∈ ids, (look i).isSome = true)
    (hos : w'.os = w.os) (htape : w'.tape = w.tape) (hout : w'.output = w.output) (hsz : w.heap.size ≤ w'.heap.size) (hheap : ∀ k, k < w.heap.size → pl.blk ≠ some k → w'.heap[k]? = w.heap[k]?)
    (hb : ∀ b, pl.blk = some b → (w.heap.size ≤ b ∧ b < w'.heap.size) ∨ ∃ i ∈ ids, ∃ x pi, look i = some x ∧ x.live = true ∧ π i = some pi ∧ pi.blk = some b)
    (hob : ∀ π', Ext π π' → π' nx = some pl → Keep w S w' S → obOk w' S π' ob pl) :
    ∃ π', ObsOk w' S π' (upd look (deadAll ids) nx [ob]) ∧ Ext π π' ∧ (∀ id, π' id ≠ none → π id ≠ none ∨ (nx ≤ id ∧ id < nx + 1)) ∧ π' nx = some pl ∧
      Step w S (owned look π) w' S (owned (upd look (deadAll ids) nx [ob]) π') := by
  let π' := fun id => if id = nx then some pl else π id
  have hfn : look nx = none ∧ π nx = none := by simpa using hf 0 (by omega)
  have hext : Ext π π' := by
    intro id pl hp
    simp only [π']
    rw [if_neg]
    · exact hp
    · intro e; subst e; rw [hfn.2] at hp; cases hp
  have hnx : π' nx = some pl := by simp [π']
  have hpi : ∀ id, id ≠ nx → π' id = π id := fun id hid => by simp [π', hid]
  have hnm : nx ∉ ids := fun hm => by have := hids nx hm; rw [hfn.1] at this; cases this
  have hlnx : upd look (deadAll ids) nx [ob] nx = some ob := by
    simp only [upd, List.length_singleton]
    cases hu : upLast (deadAll ids) nx with
    | some x => exact absurd (upLast_dead hu).2 hnm
    | none => simp
  have hlook : ∀ id x, upd look (deadAll ids) nx [ob] id = some x → (id = nx ∧ x = ob) ∨ (id ∈ ids ∧ x = .dead) ∨ (id ≠ nx ∧ id ∉ ids ∧ look id = some x) := by
    intro id x hx
    by_cases e : id = nx
    · subst e; rw [hlnx] at hx; cases hx; exact .inl ⟨rfl, rfl⟩
    · by_cases e2 : id ∈ ids
      · simp only [upd, upLast_dead_mem e2] at hx; cases hx; exact .inr (.inl ⟨e2, rfl⟩)
      · refine .inr (.inr ⟨e, e2, ?_⟩)
        simp only [upd, List.length_singleton] at hx
        cases hu : upLast (deadAll ids) id with
        | some x => exact absurd (upLast_dead hu).2 e2
        | none => rw [hu] at hx; simp only at hx; rw [if_neg (by omega)] at hx; exact hx
  -- of the old ones none lies where the new one does
  have hfar : ∀ id x pi, id ∉ ids → look id = some x → x.live = true → π id = some pi → ∀ b, pi.blk = some b → pl.blk ≠ some b := by
    intro id x pi hni hx hl hp b hb1 hb2
    rcases hb b hb2 with hn | ⟨i, hi, y, qi, h1, h2, h3, h4⟩
    · have := (owned_lt h hx hl hp hb1).1; omega
    · exact hni (h.apart id i x y pi qi b hx h1 hl h2 hp h3 hb1 h4 ▸ hi)
  have hS : ∀ b, pl.blk = some b → ¬ S b := by
    intro b hb1 hs
    rcases hb b hb1 with hn | ⟨i, hi, y, qi, h1, h2, h3, h4⟩
    · have := h.st b hs; omega
    · exact (owned_lt h h1 h2 h3 h4).2 hs
  have hlt : ∀ b, pl.blk = some b → b < w'.heap.size := by
    intro b hb1
    rcases hb b hb1 with hn | ⟨i, hi, y, qi, h1, h2, h3, h4⟩
    · exact hn.2
    · exact Nat.lt_of_lt_of_le (owned_lt h h1 h2 h3 h4).1 hsz
  have hkeep : Keep w S w' S := ⟨fun b hb1 => hheap b (h.st b hb1) (fun e => hS b e hb1), fun _ hb => hb⟩
  have hown : ∀ b, owned (upd look (deadAll ids) nx [ob]) π' b → owned look π b ∨ w.heap.size ≤ b := by
    rintro b ⟨id, x, pj, h1, h2, h3, h4⟩
    rcases hlook id x h1 with ⟨rfl, rfl⟩ | ⟨_, rfl⟩ | ⟨hne, hni, hl⟩
    · rw [hnx] at h3; cases h3
      rcases hb b h4 with hn | ⟨i, hi, y, qi, g1, g2, g3, g4⟩
      · exact .inr hn.1
      · exact .inl ⟨i, y, qi, g1, g2, g3, g4⟩
    · cases h2
    · rw [hpi id hne] at h3
      exact .inl ⟨id, x, pj, hl, h2, h3, h4⟩
  refine ⟨π', ?_, hext, ?_, hnx, ?_⟩
  · refine obs_gen h hkeep hext (fun b hb1 => Nat.lt_of_lt_of_le (h.st b hb1) hsz) hsz (fun id => id ≠ nx ∧ id ∉ ids) ?_ ?_
    · rintro id ⟨hne, hni⟩
      constructor
      · simp only [upd, List.length_singleton]
        cases hu : upLast (deadAll ids) id with
        | some x => exact absurd (upLast_dead hu).2 hni
        | none => simp only; rw [if_neg (by omega)]
      · intro x pj b hx hl hp hb1
        have hin := owned_lt h hx hl hp hb1
        exact ⟨hheap b hin.1 (hfar id x pj hni hx hl hp b hb1), hin.2⟩
    · intro id x hx hno
      rcases hlook id x hx with ⟨rfl, rfl⟩ | ⟨hm, rfl⟩ | ⟨hne, hni, _⟩
      · refine ⟨pl, hnx, hob π' hext hnx hkeep, fun b hl hb1 => ⟨hlt b hb1, hS b hb1, ?_⟩⟩
        intro j y pj h1 h2 h3 h4
        rcases hlook j y h1 with ⟨rfl, rfl⟩ | ⟨_, rfl⟩ | ⟨hne, hni, hlj⟩
        · rfl
        · cases h2
        · rw [hpi j hne] at h3
          exact absurd hb1 (hfar j y pj hni hlj h2 h3 b h4)
      · have := hids id hm
        obtain ⟨y, hy⟩ := Option.isSome_iff_exists.1 this
        obtain ⟨pi, hp, _⟩ := h.ok id y hy
        exact ⟨pi, hext _ _ hp, by simp only [obOk], fun b hl => by cases hl⟩
      · exact absurd ⟨hne, hni⟩ hno
  · intro id hid
    by_cases e : id = nx
    · exact .inr (by omega)
    · rw [hpi id e] at hid; exact .inl hid
  · refine ⟨hos, htape, hout, hsz, ?_, fun _ hb => hb, fun b hb => .inl hb, hown⟩
    intro b hlt2 hno
    refine hheap b hlt2 fun e => ?_
    rcases hb b e with hn | ⟨i, hi, y, qi, g1, g2, g3, g4⟩
    · omega
    · exact hno ⟨i, y, qi, g1, g2, g3, g4⟩

/-- Appending where there is room. -/
theorem run_append_fits {w : World} {t tx ty e : TypeId} {i : TypeInfo} (ht : P.underlying t = some (.slice e)) (hi : P.info? e = some i) {b off sLen sCap : Nat} {x : Value} {n : Nat} {news : List Value} (hs : Src P i.size tx x n news w)
    (hroom : sLen + n ≤ sCap) {C : Array Value} {ct : TypeId} {fr : Nat × Nat} (hg : w.heap[b]? = some (.cells C ct fr)) (hf : unfrozen C fr) (hle : off + sLen * i.size + news.length ≤ C.size) :
    ∃ w' C', (Builtin.append_ #[t, tx] ty #[.slice (some ⟨b, off, none⟩) sLen sCap, x]).run P w = .ok (.slice (some ⟨b, off, none⟩) (sLen + n) sCap) w' ∧ Upd w b (.cells C' ct fr) w' ∧ C'.size = C.size ∧
      C'.toList = C.toList.take (off + sLen * i.size) ++ news ++ C.toList.drop (off + sLen * i.size + news.length) := by
  obtain ⟨w', C', h1, h2, h3, h4⟩ := run_storeCells_blk (P := P) (o := off + sLen * i.size) news 0 C w hg hf (by omega) hs.one
  refine ⟨w', C', ?_, h2, h3, by simpa using h4⟩
  rcases hs.kind with ⟨e', hk⟩ | hk <;> simp [Builtin.append_, run_underlying ht, run_underlying hk, sizeOf, typeInfo, hi, hs.len, hroom, hs.cells, Addr.add_lit, h1]

theorem relEs_upto {w w' : World} {S : Nat → Prop} {b b' s s' sz : Nat} {es : List (List PV)} (hk : Keep w S w' S) (h : relEs w S b s sz es) (hc : ∀ j, j < es.length * sz → w'.cell? ⟨b', s' + j, none⟩ = w.cell? ⟨b, s + j, none⟩) : relEs w' S b' s' sz es := by
  refine relEs_of fun i e hi => ?_
  obtain ⟨h1, h2⟩ := relEs_get h hi
  refine ⟨h1, relCs_of fun j p hp => ?_⟩
  obtain ⟨u, g1, g2, g3⟩ := relCs_get h2 hp
  have hj : j < sz := by have := (List.getElem?_eq_some_iff.1 hp).1; omega
  have hi' : i < es.length := (List.getElem?_eq_some_iff.1 hi).1
  have hlt : i * sz + j < es.length * sz := by
    calc i * sz + j < i * sz + sz := by omega
      _ = (i + 1) * sz := by rw [Nat.add_mul, Nat.one_mul]
      _ ≤ es.length * sz := Nat.mul_le_mul_right _ hi'
  refine ⟨u, ?_, g2, rel_keep hk _ _ g3⟩
  have := hc _ hlt
  rw [Nat.add_assoc] at g1
  rw [Nat.add_assoc, this, g1]

/-- Rows whose cells lie in a list of values. -/
theorem relEs_cells {w : World} {S : Nat → Prop} {b s sz : Nat} {es : List (List PV)} {us : List Value} (hl : ∀ e ∈ es, e.length = sz) (h : relL w S es.flatten us) (h1 : ∀ u ∈ us, u.oneCell' = true)
    (hc : ∀ (j : Nat) (u : Value), us[j]? = some u → w.cell? ⟨b, s + j, none⟩ = some u) : relEs w S b s sz es := by
  induction es generalizing us s with
  | nil => simp only [relEs]
  | cons e es ih =>
    simp only [relEs]
    simp only [List.flatten_cons] at h
    have he := hl e (List.mem_cons_self ..)
    have hlen := relL_length h
    simp only [List.length_append] at hlen
    have ht := relL_take h e.length
    have hd := relL_drop h e.length
    rw [List.take_left] at ht
    rw [List.drop_left] at hd
    refine ⟨he, relCs_of fun j p hp => ?_, ih (fun e' he' => hl e' (List.mem_cons_of_mem _ he')) hd (fun u hu => h1 u (List.mem_of_mem_drop hu)) fun j u hu => ?_⟩
    · obtain ⟨u, g1, g2⟩ := relL_get ht hp
      rw [List.getElem?_take] at g1
      split at g1
      · exact ⟨u, hc j u g1, h1 u (List.mem_of_getElem? g1), g2⟩
      · cases g1
    · rw [List.getElem?_drop] at hu
      have := hc _ _ hu
      rwa [he, ← Nat.add_assoc] at this

/-- What is appended, for one who appends it. -/
structure SrcOk (P : Program) (size : Nat) (tx : TypeId) (x : Value) (ms : List (List PV)) (w : World) (S : Nat → Prop) : Prop where
  src : ∃ news, Src P size tx x ms.length news w ∧ relL w S ms.flatten news
  len : ∀ e ∈ ms, e.length = size

/-- A new row: what was there, what is new, zeros. -/
theorem grown_row {w : World} {S : Nat → Prop} {π' : Nat → Option Pl} {e : TypeId} {sz : Nat} {olds news rest : List Value} {es ms : List (List PV)} {cap : Nat} {C : Array Value} (hC : C = ((olds ++ news).toArray ++ rest.toArray))
    (hk : Keep w S (w.drew.alloc (.cells C e)) S) (ho : relL w S es.flatten olds) (hn : relL w S ms.flatten news) (ho1 : ∀ u ∈ olds, u.oneCell' = true) (hn1 : ∀ u ∈ news, u.oneCell' = true) (hr1 : ∀ u ∈ rest, u.oneCell' = true)
    (hle : ∀ x ∈ es, x.length = sz) (hlm : ∀ x ∈ ms, x.length = sz) (hrest : rest.length = (cap - (es.length + ms.length)) * sz) (hcap : es.length + ms.length ≤ cap) (hmax : cap ≤ maxLen) (hol : olds.length = es.length * sz) (hnl : news.length = ms.length * sz) :
    obOk (w.drew.alloc (.cells C e)) S π' (.row (es ++ ms) sz) (.at w.heap.size 0 cap sz (es.length + ms.length)) := by
  have hg : (w.drew.alloc (.cells C e)).heap[w.heap.size]? = some (.cells C e (0, 0)) := by
    show (w.heap.push _)[w.heap.size]? = _
    simp
  simp only [obOk]
  refine ⟨by simp, trivial, by omega, hmax, C, e, (0, 0), hg, .inl rfl, ?_, ?_, ?_⟩
  · intro u hu
    subst hC
    simp only [Array.toList_append, List.mem_append] at hu
    rcases hu with (h | h) | h
    · exact ho1 u h
    · exact hn1 u h
    · exact hr1 u h
  · subst hC
    simp only [Array.size_append, List.size_toArray, List.length_append, hol, hnl, hrest, Nat.zero_add]
    rw [← Nat.add_mul, ← Nat.add_mul]
    exact fun _ => Nat.mul_le_mul_right _ (by omega)
  · refine relEs_cells (us := olds ++ news) ?_ ?_ ?_ ?_
    · intro x hx
      rcases List.mem_append.1 hx with h | h
      · exact hle x h
      · exact hlm x h
    · rw [List.flatten_append]
      exact relL_append (relL_keep hk _ _ ho) (relL_keep hk _ _ hn)
    · intro u hu
      rcases List.mem_append.1 hu with h | h
      · exact ho1 u h
      · exact hn1 u h
    · intro j u hu
      rw [cell_of_row _ _ _ _ _ _ hg, hC, Nat.zero_add]
      rw [Array.getElem?_append_left (by simpa using (List.getElem?_eq_some_iff.1 hu).1)]
      simpa using hu

end
end Go.Proofs.YtgpjnppakffoiaaV
