/- The reading machine: operations, second part. -/
import Derived.Test.YtpaifgipdhgfkaaGreatDoorVB
import Derived.Deep.AppendSrc
import Derived.Laws.Tables
import Derived.Great.BuildSlice
import Derived.Lib.ConvBytes
import Derived.Laws.BytesString
import Derived.Laws.MakeOwn
set_option linter.unusedVariables false
set_option linter.unusedSimpArgs false

/- The reading machine's operations are told rightly: appending. -/
namespace Go.Proofs.YtpaifgipdhgfkaaGreatDoorV
open Go Go.RowKit

section
variable {P : Program} {T : TypeId → Option TI} {look : Nat → Option Ob} {nx : Nat} {ev : Operand → Option TV} {o : Oper} {v : TV} {up : List (Nat × Ob)} {nw : List Ob} {rd : List Nat}

theorem upLast_dead {ids : List Nat} {id : Nat} {x : Ob} (h : upLast (deadAll ids) id = some x) : x = .dead ∧ id ∈ ids := by
  induction ids with
  | nil => simp [deadAll, upLast] at h
  | cons i ids ih =>
    simp only [deadAll, List.map_cons, upLast] at h ih
    split at h
    · rename_i y hy
      cases h
      obtain ⟨h1, h2⟩ := ih hy
      exact ⟨h1, List.mem_cons_of_mem _ h2⟩
    · split at h
      · rename_i e; subst e; cases h; exact ⟨rfl, List.mem_cons_self ..⟩
      · cases h
theorem upLast_dead_mem {ids : List Nat} {id : Nat} (h : id ∈ ids) : upLast (deadAll ids) id = some .dead := by
  induction ids with
  | nil => cases h
  | cons i ids ih =>
    simp only [deadAll, List.map_cons, upLast] at ih ⊢
    rcases List.mem_cons.1 h with rfl | h
    · split
      · rename_i y hy; rw [show y = .dead from (upLast_dead hy).1]
      · simp
    · rw [ih h]

/-- Memory of the call's own in a later world: what is as it was, and what is new or has turned. -/
theorem obs_gen {w w' : World} {S S' : Nat → Prop} {π π' : Nat → Option Pl} {look' : Nat → Option Ob} (h : ObsOk w S π look) (hk : Keep w S w' S') (he : Ext π π') (hst : ∀ b, S' b → b < w'.heap.size) (hsz : w.heap.size ≤ w'.heap.size)
    (Old : Nat → Prop)
    (hold : ∀ id, Old id → look' id = look id ∧ ∀ x pl b, look id = some x → x.live = true → π id = some pl → pl.blk = some b → w'.heap[b]? = w.heap[b]? ∧ ¬ S' b)
    (hnew : ∀ id x, look' id = some x → ¬ Old id → ∃ pl, π' id = some pl ∧ obOk w' S' π' x pl ∧ ∀ b, x.live = true → pl.blk = some b → b < w'.heap.size ∧ ¬ S' b ∧ ∀ j y pj, look' j = some y → y.live = true → π' j = some pj → pj.blk = some b → j = id) :
    ObsOk w' S' π' look' := by
  have hpi : ∀ id x, Old id → look id = some x → ∀ pl, π' id = some pl → π id = some pl := by
    intro id x _ hx pl hp
    obtain ⟨pl', hp', _⟩ := h.ok id x hx
    rw [he _ _ hp'] at hp
    cases hp
    exact hp'
  refine ⟨?_, ?_, ?_, hst⟩
  · intro id x hx
    rcases Classical.em (Old id) with ho | ho
    · obtain ⟨h1, h2⟩ := hold id ho
      rw [h1] at hx
      obtain ⟨pl, hp, hob⟩ := h.ok id x hx
      refine ⟨pl, he _ _ hp, ?_⟩
      exact obOk_keep hk he x pl (fun hd b hb => (h2 x pl b hx hd hp hb).1) hob
    · obtain ⟨pl, hp, hob, _⟩ := hnew id x hx ho
      exact ⟨pl, hp, hob⟩
  · intro i j oi oj pi pj b h1 h2 h3 h4 h5 h6 h7 h8
    rcases Classical.em (Old i) with hi | hi
    · rcases Classical.em (Old j) with hj | hj
      · have e1 := (hold i hi).1
        have e2 := (hold j hj).1
        rw [e1] at h1
        rw [e2] at h2
        exact h.apart i j oi oj pi pj b h1 h2 h3 h4 (hpi i oi hi h1 pi h5) (hpi j oj hj h2 pj h6) h7 h8
      · obtain ⟨pl, hp, _, hb⟩ := hnew j oj h2 hj
        rw [hp] at h6; cases h6
        exact (hb b h4 h8).2.2 i oi pi h1 h3 h5 h7
    · obtain ⟨pl, hp, _, hb⟩ := hnew i oi h1 hi
      rw [hp] at h5; cases h5
      exact ((hb b h3 h7).2.2 j oj pj h2 h4 h6 h8).symm
  · rintro b ⟨id, x, pl, h1, h2, h3, h4⟩
    rcases Classical.em (Old id) with ho | ho
    · have e1 := (hold id ho).1
      rw [e1] at h1
      have hp := hpi id x ho h1 pl h3
      exact ⟨((hold id ho).2 x pl b h1 h2 hp h4).2, Nat.lt_of_lt_of_le (owned_lt h h1 h2 hp h4).1 hsz⟩
    · obtain ⟨pl', hp, _, hb⟩ := hnew id x h1 ho
      rw [hp] at h3; cases h3
      exact ⟨(hb b h2 h4).2.1, (hb b h2 h4).1⟩

/-- Some of the call's own memory is given up, one piece is new: where some of the old lay, or in a new block, or nowhere. -/
theorem obs_put {w w' : World} {S : Nat → Prop} {π : Nat → Option Pl} {ids : List Nat} {ob : Ob} {pl : Pl} (h : ObsOk w S π look) (hf : Free look π nx 1) (hids : ∀ i ∈ ids, (look i).isSome = true)
    (hos : w'.os = w.os) (htape : w'.tape = w.tape) (hout : w'.output = w.output) (hsz : w.heap.size ≤ w'.heap.size) (hheap : ∀ k, k < w.heap.size → pl.blk ≠ some k → w'.heap[k]? = w.heap[k]?)
    (hb : ∀ b, pl.blk = some b → (w.heap.size ≤ b ∧ b < w'.heap.size) ∨ ∃ i ∈ ids, ∃ x pi, look i = some x ∧ x.live = true ∧ π i = some pi ∧ pi.blk = some b)
    (hob : ∀ π', Ext π π' → π' nx = some pl → Keep w S w' S → obOk w' S π' ob pl) :
    ∃ π', ObsOk w' S π' (upd look (deadAll ids) nx [ob]) ∧ Ext π π' ∧ (∀ id, π' id ≠ none → π id ≠ none ∨ (nx ≤ id ∧ id < nx + 1)) ∧ π' nx = some pl ∧
      Step w S (owned look π) w' S (owned (upd look (deadAll ids) nx [ob]) π') := by
  let π' := fun id => if id = nx then some pl else π id
  have hfn : look nx = none ∧ π nx = none := by simpa using hf 0 (by omega)
  have hext : Ext π π' := by
    intro id pl hp
    simp only [π']
    rw [if_neg]
    · exact hp
    · intro e; subst e; rw [hfn.2] at hp; cases hp
  have hnx : π' nx = some pl := by simp [π']
  have hpi : ∀ id, id ≠ nx → π' id = π id := fun id hid => by simp [π', hid]
  have hnm : nx ∉ ids := fun hm => by have := hids nx hm; rw [hfn.1] at this; cases this
  have hlnx : upd look (deadAll ids) nx [ob] nx = some ob := by
    simp only [upd, List.length_singleton]
    cases hu : upLast (deadAll ids) nx with
    | some x => exact absurd (upLast_dead hu).2 hnm
    | none => simp
  have hlook : ∀ id x, upd look (deadAll ids) nx [ob] id = some x → (id = nx ∧ x = ob) ∨ (id ∈ ids ∧ x = .dead) ∨ (id ≠ nx ∧ id ∉ ids ∧ look id = some x) := by
    intro id x hx
    by_cases e : id = nx
    · subst e; rw [hlnx] at hx; cases hx; exact .inl ⟨rfl, rfl⟩
    · by_cases e2 : id ∈ ids
      · simp only [upd, upLast_dead_mem e2] at hx; cases hx; exact .inr (.inl ⟨e2, rfl⟩)
      · refine .inr (.inr ⟨e, e2, ?_⟩)
        simp only [upd, List.length_singleton] at hx
        cases hu : upLast (deadAll ids) id with
        | some x => exact absurd (upLast_dead hu).2 e2
        | none => rw [hu] at hx; simp only at hx; rw [if_neg (by omega)] at hx; exact hx
  -- of the old ones none lies where the new one does
  have hfar : ∀ id x pi, id ∉ ids → look id = some x → x.live = true → π id = some pi → ∀ b, pi.blk = some b → pl.blk ≠ some b := by
    intro id x pi hni hx hl hp b hb1 hb2
    rcases hb b hb2 with hn | ⟨i, hi, y, qi, h1, h2, h3, h4⟩
    · have := (owned_lt h hx hl hp hb1).1; omega
    · exact hni (h.apart id i x y pi qi b hx h1 hl h2 hp h3 hb1 h4 ▸ hi)
  have hS : ∀ b, pl.blk = some b → ¬ S b := by
    intro b hb1 hs
    rcases hb b hb1 with hn | ⟨i, hi, y, qi, h1, h2, h3, h4⟩
    · have := h.st b hs; omega
    · exact (owned_lt h h1 h2 h3 h4).2 hs
  have hlt : ∀ b, pl.blk = some b → b < w'.heap.size := by
    intro b hb1
    rcases hb b hb1 with hn | ⟨i, hi, y, qi, h1, h2, h3, h4⟩
    · exact hn.2
    · exact Nat.lt_of_lt_of_le (owned_lt h h1 h2 h3 h4).1 hsz
  have hkeep : Keep w S w' S := ⟨fun b hb1 => hheap b (h.st b hb1) (fun e => hS b e hb1), fun _ hb => hb⟩
  have hown : ∀ b, owned (upd look (deadAll ids) nx [ob]) π' b → owned look π b ∨ w.heap.size ≤ b := by
    rintro b ⟨id, x, pj, h1, h2, h3, h4⟩
    rcases hlook id x h1 with ⟨rfl, rfl⟩ | ⟨_, rfl⟩ | ⟨hne, hni, hl⟩
    · rw [hnx] at h3; cases h3
      rcases hb b h4 with hn | ⟨i, hi, y, qi, g1, g2, g3, g4⟩
      · exact .inr hn.1
      · exact .inl ⟨i, y, qi, g1, g2, g3, g4⟩
    · cases h2
    · rw [hpi id hne] at h3
      exact .inl ⟨id, x, pj, hl, h2, h3, h4⟩
  refine ⟨π', ?_, hext, ?_, hnx, ?_⟩
  · refine obs_gen h hkeep hext (fun b hb1 => Nat.lt_of_lt_of_le (h.st b hb1) hsz) hsz (fun id => id ≠ nx ∧ id ∉ ids) ?_ ?_
    · rintro id ⟨hne, hni⟩
      constructor
      · simp only [upd, List.length_singleton]
        cases hu : upLast (deadAll ids) id with
        | some x => exact absurd (upLast_dead hu).2 hni
        | none => simp only; rw [if_neg (by omega)]
      · intro x pj b hx hl hp hb1
        have hin := owned_lt h hx hl hp hb1
        exact ⟨hheap b hin.1 (hfar id x pj hni hx hl hp b hb1), hin.2⟩
    · intro id x hx hno
      rcases hlook id x hx with ⟨rfl, rfl⟩ | ⟨hm, rfl⟩ | ⟨hne, hni, _⟩
      · refine ⟨pl, hnx, hob π' hext hnx hkeep, fun b hl hb1 => ⟨hlt b hb1, hS b hb1, ?_⟩⟩
        intro j y pj h1 h2 h3 h4
        rcases hlook j y h1 with ⟨rfl, rfl⟩ | ⟨_, rfl⟩ | ⟨hne, hni, hlj⟩
        · rfl
        · cases h2
        · rw [hpi j hne] at h3
          exact absurd hb1 (hfar j y pj hni hlj h2 h3 b h4)
      · have := hids id hm
        obtain ⟨y, hy⟩ := Option.isSome_iff_exists.1 this
        obtain ⟨pi, hp, _⟩ := h.ok id y hy
        exact ⟨pi, hext _ _ hp, by simp only [obOk], fun b hl => by cases hl⟩
      · exact absurd ⟨hne, hni⟩ hno
  · intro id hid
    by_cases e : id = nx
    · exact .inr (by omega)
    · rw [hpi id e] at hid; exact .inl hid
  · refine ⟨hos, htape, hout, hsz, ?_, fun _ hb => hb, fun b hb => .inl hb, hown⟩
    intro b hlt2 hno
    refine hheap b hlt2 fun e => ?_
    rcases hb b e with hn | ⟨i, hi, y, qi, g1, g2, g3, g4⟩
    · omega
    · exact hno ⟨i, y, qi, g1, g2, g3, g4⟩

/-- Appending where there is room. -/
theorem run_append_fits {w : World} {t tx ty e : TypeId} {i : TypeInfo} (ht : P.underlying t = some (.slice e)) (hi : P.info? e = some i) {b off sLen sCap : Nat} {x : Value} {n : Nat} {news : List Value} (hs : Src P i.size tx x n news w)
    (hroom : sLen + n ≤ sCap) {C : Array Value} {ct : TypeId} {fr : Nat × Nat} (hg : w.heap[b]? = some (.cells C ct fr)) (hf : unfrozen C fr) (hle : off + sLen * i.size + news.length ≤ C.size) :
    ∃ w' C', (Builtin.append_ #[t, tx] ty #[.slice (some ⟨b, off, none⟩) sLen sCap, x]).run P w = .ok (.slice (some ⟨b, off, none⟩) (sLen + n) sCap) w' ∧ Upd w b (.cells C' ct fr) w' ∧ C'.size = C.size ∧
      C'.toList = C.toList.take (off + sLen * i.size) ++ news ++ C.toList.drop (off + sLen * i.size + news.length) := by
  obtain ⟨w', C', h1, h2, h3, h4⟩ := run_storeCells_blk (P := P) (o := off + sLen * i.size) news 0 C w hg hf (by omega) hs.one
  refine ⟨w', C', ?_, h2, h3, by simpa using h4⟩
  rcases hs.kind with ⟨e', hk⟩ | hk <;> simp [Builtin.append_, run_underlying ht, run_underlying hk, sizeOf, typeInfo, hi, hs.len, hroom, hs.cells, Addr.add_lit, h1]

theorem relEs_upto {w w' : World} {S : Nat → Prop} {b b' s s' sz : Nat} {es : List (List PV)} (hk : Keep w S w' S) (h : relEs w S b s sz es) (hc : ∀ j, j < es.length * sz → w'.cell? ⟨b', s' + j, none⟩ = w.cell? ⟨b, s + j, none⟩) : relEs w' S b' s' sz es := by
  refine relEs_of fun i e hi => ?_
  obtain ⟨h1, h2⟩ := relEs_get h hi
  refine ⟨h1, relCs_of fun j p hp => ?_⟩
  obtain ⟨u, g1, g2, g3⟩ := relCs_get h2 hp
  have hj : j < sz := by have := (List.getElem?_eq_some_iff.1 hp).1; omega
  have hi' : i < es.length := (List.getElem?_eq_some_iff.1 hi).1
  have hlt : i * sz + j < es.length * sz := by
    calc i * sz + j < i * sz + sz := by omega
      _ = (i + 1) * sz := by rw [Nat.add_mul, Nat.one_mul]
      _ ≤ es.length * sz := Nat.mul_le_mul_right _ hi'
  refine ⟨u, ?_, g2, rel_keep hk _ _ g3⟩
  have := hc _ hlt
  rw [Nat.add_assoc] at g1
  rw [Nat.add_assoc, this, g1]

/-- Rows whose cells lie in a list of values. -/
theorem relEs_cells {w : World} {S : Nat → Prop} {b s sz : Nat} {es : List (List PV)} {us : List Value} (hl : ∀ e ∈ es, e.length = sz) (h : relL w S es.flatten us) (h1 : ∀ u ∈ us, u.oneCell' = true)
    (hc : ∀ (j : Nat) (u : Value), us[j]? = some u → w.cell? ⟨b, s + j, none⟩ = some u) : relEs w S b s sz es := by
  induction es generalizing us s with
  | nil => simp only [relEs]
  | cons e es ih =>
    simp only [relEs]
    simp only [List.flatten_cons] at h
    have he := hl e (List.mem_cons_self ..)
    have hlen := relL_length h
    simp only [List.length_append] at hlen
    have ht := relL_take h e.length
    have hd := relL_drop h e.length
    rw [List.take_left] at ht
    rw [List.drop_left] at hd
    refine ⟨he, relCs_of fun j p hp => ?_, ih (fun e' he' => hl e' (List.mem_cons_of_mem _ he')) hd (fun u hu => h1 u (List.mem_of_mem_drop hu)) fun j u hu => ?_⟩
    · obtain ⟨u, g1, g2⟩ := relL_get ht hp
      rw [List.getElem?_take] at g1
      split at g1
      · exact ⟨u, hc j u g1, h1 u (List.mem_of_getElem? g1), g2⟩
      · cases g1
    · rw [List.getElem?_drop] at hu
      have := hc _ _ hu
      rwa [he, ← Nat.add_assoc] at this

/-- What is appended, for one who appends it. -/
structure SrcOk (P : Program) (size : Nat) (tx : TypeId) (x : Value) (ms : List (List PV)) (w : World) (S : Nat → Prop) : Prop where
  src : ∃ news, Src P size tx x ms.length news w ∧ relL w S ms.flatten news
  len : ∀ e ∈ ms, e.length = size

/-- A new row: what was there, what is new, zeros. -/
theorem grown_row {w : World} {S : Nat → Prop} {π' : Nat → Option Pl} {e : TypeId} {sz : Nat} {olds news rest : List Value} {es ms : List (List PV)} {cap : Nat} {C : Array Value} (hC : C = ((olds ++ news).toArray ++ rest.toArray))
    (hk : Keep w S (w.drew.alloc (.cells C e)) S) (ho : relL w S es.flatten olds) (hn : relL w S ms.flatten news) (ho1 : ∀ u ∈ olds, u.oneCell' = true) (hn1 : ∀ u ∈ news, u.oneCell' = true) (hr1 : ∀ u ∈ rest, u.oneCell' = true)
    (hle : ∀ x ∈ es, x.length = sz) (hlm : ∀ x ∈ ms, x.length = sz) (hrest : rest.length = (cap - (es.length + ms.length)) * sz) (hcap : es.length + ms.length ≤ cap) (hmax : cap ≤ maxLen) (hol : olds.length = es.length * sz) (hnl : news.length = ms.length * sz) :
    obOk (w.drew.alloc (.cells C e)) S π' (.row (es ++ ms) sz) (.at w.heap.size 0 cap sz (es.length + ms.length)) := by
  have hg : (w.drew.alloc (.cells C e)).heap[w.heap.size]? = some (.cells C e (0, 0)) := by
    show (w.heap.push _)[w.heap.size]? = _
    simp
  simp only [obOk]
  refine ⟨by simp, trivial, by omega, hmax, C, e, (0, 0), hg, .inl rfl, ?_, ?_, ?_⟩
  · intro u hu
    subst hC
    simp only [Array.toList_append, List.mem_append] at hu
    rcases hu with (h | h) | h
    · exact ho1 u h
    · exact hn1 u h
    · exact hr1 u h
  · subst hC
    simp only [Array.size_append, List.size_toArray, List.length_append, hol, hnl, hrest, Nat.zero_add]
    rw [← Nat.add_mul, ← Nat.add_mul]
    exact fun _ => Nat.mul_le_mul_right _ (by omega)
  · refine relEs_cells (us := olds ++ news) ?_ ?_ ?_ ?_
    · intro x hx
      rcases List.mem_append.1 hx with h | h
      · exact hle x h
      · exact hlm x h
    · rw [List.flatten_append]
      exact relL_append (relL_keep hk _ _ ho) (relL_keep hk _ _ hn)
    · intro u hu
      rcases List.mem_append.1 hu with h | h
      · exact ho1 u h
      · exact hn1 u h
    · intro j u hu
      rw [cell_of_row _ _ _ _ _ _ hg, hC, Nat.zero_add]
      rw [Array.getElem?_append_left (by simpa using (List.getElem?_eq_some_iff.1 hu).1)]
      simpa using hu

end
end Go.Proofs.YtpaifgipdhgfkaaGreatDoorV

/- The reading machine's operations are told rightly: appending, whole. -/
namespace Go.Proofs.YtpaifgipdhgfkaaGreatDoorV
open Go Go.RowKit

section
variable {P : Program} {T : TypeId → Option TI} {look : Nat → Option Ob} {nx : Nat} {ev : Operand → Option TV} {o : Oper} {v : TV} {up : List (Nat × Ob)} {nw : List Ob} {rd : List Nat}

/-- A slice as it lies: what its elements are, and whose block it is in. -/
structure View (w : World) (S : Nat → Prop) (size : Nat) (A : Option Addr) (len cap : Nat) (es : List (List PV)) (B : Nat → Nat → Prop) : Prop where
  hlen : es.length = len
  lens : ∀ e ∈ es, e.length = size
  le : len ≤ cap
  max : cap ≤ maxLen
  at' : (A = none ∧ cap = 0) ∨ ∃ b s C t fr, (cap = 0 ∨ A = some ⟨b, s, none⟩) ∧ A.isSome = true ∧ B b s ∧ w.heap[b]? = some (.cells C t fr) ∧ unfrozen C fr ∧ oneCells C ∧ (cap ≠ 0 → s + cap * size ≤ C.size) ∧ relEs w S b s size es

theorem View.olds {w : World} {S : Nat → Prop} {size : Nat} {A : Option Addr} {len cap : Nat} {es : List (List PV)} {B : Nat → Nat → Prop} (h : View w S size A len cap es B) :
    ∃ olds, (∀ P, (Builtin.firstCells size len (.slice A len cap)).run P w.drew = .ok olds.toArray w.drew) ∧ relL w S es.flatten olds ∧ (∀ u ∈ olds, u.oneCell' = true) ∧ olds.length = es.length * size := by
  by_cases h0 : len = 0
  · have he : es = [] := List.eq_nil_of_length_eq_zero (by rw [h.hlen, h0])
    subst he
    refine ⟨[], fun P => ?_, by simp [relL], by simp, by simp⟩
    subst h0
    cases A with
    | none => exact run_firstCells_none w.drew size 0 0 cap
    | some a => simpa using run_firstCells_some (P := P) w.drew size 0 a 0 cap [] (by simp) (by simp)
  · rcases h.at' with ⟨_, hc⟩ | ⟨b, s, C, t, fr, hc, _, _, hg, _, _, _, hr⟩
    · have := h.le; omega
    · have hA : A = some ⟨b, s, none⟩ := by
        rcases hc with hc | hc
        · have := h.le; omega
        · exact hc
      subst hA
      obtain ⟨us, h1, h2, h3, h4⟩ := relEs_flat hr
      refine ⟨us, fun P => ?_, h4, h3, h1⟩
      exact run_firstCells_some (P := P) w.drew size len ⟨b, s, none⟩ len cap us (by rw [h1, h.hlen]) (fun j u hu => by rw [Addr.add_lit]; simpa using h2 j u hu)

/-- A slice as one reads it. -/
structure Rd (w : World) (S : Nat → Prop) (size : Nat) (A : Option Addr) (len cap : Nat) (es : List (List PV)) : Prop where
  hlen : es.length = len
  lens : ∀ e ∈ es, e.length = size
  le : len ≤ cap
  max : cap ≤ maxLen
  olds : ∃ olds, (∀ P, (Builtin.firstCells size len (.slice A len cap)).run P w.drew = .ok olds.toArray w.drew) ∧ relL w S es.flatten olds ∧ (∀ u ∈ olds, u.oneCell' = true) ∧ olds.length = es.length * size

theorem View.read {w : World} {S : Nat → Prop} {size : Nat} {A : Option Addr} {len cap : Nat} {es : List (List PV)} {B : Nat → Nat → Prop} (h : View w S size A len cap es B) : Rd w S size A len cap es :=
  ⟨h.hlen, h.lens, h.le, h.max, h.olds⟩

/-- Nothing is appended. -/
theorem run_append_none {w : World} {t tx ty e : TypeId} {i : TypeInfo} (ht : P.underlying t = some (.slice e)) (hi : P.info? e = some i) {A : Option Addr} {len cap : Nat} {x : Value} (hs : Src P i.size tx x 0 [] w) (hle : len ≤ cap) :
    (Builtin.append_ #[t, tx] ty #[.slice A len cap, x]).run P w = .ok (.slice A len cap) w := by
  rcases hs.kind with ⟨e', hk⟩ | hk <;> cases A <;> simp [Builtin.append_, run_underlying ht, run_underlying hk, sizeOf, typeInfo, hi, hs.len, hle, hs.cells, storeCells]

theorem zeroCells_one {z : Array Value} {n : Nat} (h : ∀ u ∈ z.toList, u.oneCell' = true) (hz : 0 < z.size) : ∀ u ∈ (Builtin.zeroCells z n).toList, u.oneCell' = true := by
  intro u hu
  simp only [Builtin.zeroCells, Array.toList_map, List.mem_map] at hu
  obtain ⟨i, _, rfl⟩ := hu
  have : i % z.size < z.size := Nat.mod_lt _ hz
  rw [getElem!_pos z _ this]
  exact h _ (by simp)

/-- A slice that is appended to becomes a row of the call's own: 'ids' are given up. -/
theorem append_put {w : World} {S : Nat → Prop} {π : Nat → Option Pl} {ids : List Nat} {t tx ty e : TypeId} {i : TI} {A : Option Addr} {len cap : Nat} {es ms : List (List PV)} {x : Value} (hT : TOk P T) (hi : T e = some i) (ht : P.underlying t = some (.slice e))
    (hob : ObsOk w S π look) (hf : Free look π nx 1) (hids : ∀ i ∈ ids, (look i).isSome = true)
    (hv : Rd w S i.size A len cap es) (hvw : (ids = [] ∧ (0 < ms.length → cap = len) ∧ (ms.length = 0 → A = none ∧ cap = 0)) ∨ View w S i.size A len cap es fun b _ => ∃ i ∈ ids, ∃ x pi, look i = some x ∧ x.live = true ∧ π i = some pi ∧ pi.blk = some b)
    (hs : SrcOk P i.size tx x ms w S) (hb : (len + ms.length) * i.bytes ≤ maxBytes) :
    ∃ u w' π', (Builtin.append_ #[t, tx] ty #[.slice A len cap, x]).run P w = .ok u w' ∧ After w S π look nx (.ow nx) (deadAll ids) [.row (es ++ ms) i.size] u w' S π' := by
  have hty := hT e i hi
  obtain ⟨z, hz1, hz2, hz3, _, f, hf1, hf2, hf3, hf4⟩ := run_zeroValue hty
  obtain ⟨news, hsrc, hn⟩ := hs.src
  rw [← hf3] at hsrc
  have hnl : news.length = ms.length * i.size := by rw [← hf3]; exact hsrc.newsLen
  have hpb := hty.posb
  have hmaxlen : len + ms.length ≤ maxLen := by
    have : (len + ms.length) * 1 ≤ (len + ms.length) * i.bytes := Nat.mul_le_mul_left _ hpb
    simp only [maxBytes] at hb
    simp only [maxLen]
    omega
  -- put a piece in its place
  have put : ∀ (w' : World) (u : Value) (pl : Pl), (Builtin.append_ #[t, tx] ty #[.slice A len cap, x]).run P w = .ok u w' → w'.os = w.os → w'.tape = w.tape → w'.output = w.output → w.heap.size ≤ w'.heap.size →
      (∀ k, k < w.heap.size → pl.blk ≠ some k → w'.heap[k]? = w.heap[k]?) →
      (∀ b, pl.blk = some b → (w.heap.size ≤ b ∧ b < w'.heap.size) ∨ ∃ i ∈ ids, ∃ x pi, look i = some x ∧ x.live = true ∧ π i = some pi ∧ pi.blk = some b) →
      (∀ π', Ext π π' → π' nx = some pl → Keep w S w' S → obOk w' S π' (.row (es ++ ms) i.size) pl) → (∀ (π' : Nat → Option Pl), π' nx = some pl → relTV w' S π' (.ow nx) u) →
      ∃ u w' π', (Builtin.append_ #[t, tx] ty #[.slice A len cap, x]).run P w = .ok u w' ∧ After w S π look nx (.ow nx) (deadAll ids) [.row (es ++ ms) i.size] u w' S π' := by
    intro w' u pl h1 h2 h3 h4 h5 h6 h7 h8 h9
    obtain ⟨π', g1, g2, g3, g4, g5⟩ := obs_put (nx := nx) (ids := ids) (ob := .row (es ++ ms) i.size) (pl := pl) hob hf hids h2 h3 h4 h5 h6 h7 h8
    exact ⟨u, w', π', h1, h9 π' g4, g1, g2, g3, g5⟩
  by_cases hm0 : ms.length = 0
  · have hms : ms = [] := List.eq_nil_of_length_eq_zero hm0
    subst hms
    have hnews : news = [] := List.eq_nil_of_length_eq_zero (by simpa using hnl)
    subst hnews
    have hrun := run_append_none (P := P) (t := t) (ty := ty) (A := A) (len := len) (cap := cap) ht hf1 (by simpa using hsrc) hv.le
    have hat : (A = none ∧ cap = 0) ∨ ∃ b s C t fr, (cap = 0 ∨ A = some ⟨b, s, none⟩) ∧ A.isSome = true ∧ (∃ i ∈ ids, ∃ x pi, look i = some x ∧ x.live = true ∧ π i = some pi ∧ pi.blk = some b) ∧ w.heap[b]? = some (.cells C t fr) ∧ unfrozen C fr ∧ oneCells C ∧ (cap ≠ 0 → s + cap * i.size ≤ C.size) ∧ relEs w S b s i.size es := by
      rcases hvw with ⟨_, _, h2⟩ | hvw
      · exact .inl (h2 rfl)
      · exact hvw.at'
    rcases hat with ⟨rfl, hc⟩ | ⟨b, s, C, ct, fr, hc, hA, hB, hg, hu, ho, hcs, hr⟩
    · have hl0 : len = 0 := by have := hv.le; omega
      have he : es = [] := List.eq_nil_of_length_eq_zero (by rw [hv.hlen, hl0])
      subst hl0 he hc
      refine put w _ .nil hrun rfl rfl rfl (Nat.le_refl _) (fun _ _ _ => rfl) (fun b hb => by cases hb) (fun π' _ _ _ => by simp [obOk]) fun π' hp => ?_
      simp only [relTV]
      exact .inl ⟨hp, trivial⟩
    · refine put w _ (.at b s cap i.size len) hrun rfl rfl rfl (Nat.le_refl _) (fun _ _ _ => rfl) (fun k hk => ?_) (fun π' _ _ _ => ?_) fun π' hp => ?_
      · simp only [Pl.blk, Option.some.injEq] at hk
        subst hk
        exact .inr hB
      · simp only [obOk, List.append_nil]
        exact ⟨hv.hlen.symm, trivial, hv.le, hv.max, C, ct, fr, hg, hu, ho, hcs, hr⟩
      · simp only [relTV]
        obtain ⟨a, rfl⟩ := Option.isSome_iff_exists.1 hA
        exact .inr ⟨b, s, cap, _, _, a, hp, rfl, by simpa using hc⟩
  · by_cases hroom : len + ms.length ≤ cap
    · have hvw' := hvw.resolve_left fun h => by have := h.2.1 (by omega); omega
      rcases hvw'.at' with ⟨rfl, hc⟩ | ⟨b, s, C, ct, fr, hc, hA, hB, hg, hu, ho, hcs, hr⟩
      · omega
      · have hA' : A = some ⟨b, s, none⟩ := by rcases hc with hc | hc; (· omega); exact hc
        subst hA'
        have hfit : s + len * f.size + news.length ≤ C.size := by
          rw [hnl, hf3, Nat.add_assoc, ← Nat.add_mul]
          exact Nat.le_trans (Nat.add_le_add_left (Nat.mul_le_mul_right _ hroom) _) (hcs (by omega))
        obtain ⟨w', C', h1, h2, h3, h4⟩ := run_append_fits (P := P) (ty := ty) ht hf1 hsrc hroom hg hu hfit
        rw [hf3] at h4 hfit
        refine put w' _ (.at b s cap i.size (len + ms.length)) h1 h2.os h2.tape h2.output (by rw [h2.size]; exact Nat.le_refl _) (fun k hk hne => h2.other k (fun e => hne (by rw [e]; rfl))) (fun k hk => ?_) (fun π' _ _ hkeep => ?_) fun π' hp => ?_
        · simp only [Pl.blk, Option.some.injEq] at hk
          subst hk
          exact .inr hB
        · simp only [obOk]
          have hone : oneCells C' := by
            intro u hu'
            rw [h4] at hu'
            simp only [List.mem_append] at hu'
            rcases hu' with (hu' | hu') | hu'
            · exact ho u (List.mem_of_mem_take hu')
            · exact hsrc.one u hu'
            · exact ho u (List.mem_of_mem_drop hu')
          refine ⟨by rw [List.length_append, hv.hlen], trivial, hroom, hv.max, C', ct, fr, h2.here, hu.imp id fun h => by rw [h3]; exact h, hone, fun h0 => by rw [h3]; exact hcs h0, ?_⟩
          have hcell : ∀ j : Nat, w'.cell? ⟨b, j, none⟩ = C'.toList[j]? := fun j => by rw [cell_of_row w' b j C' ct fr h2.here]; simp
          refine relEs_append (relEs_upto hkeep hr fun j hj => ?_) (relEs_cells hs.len (relL_keep hkeep _ _ hn) hsrc.one fun j u hu' => ?_)
          · rw [hv.hlen] at hj
            rw [hcell, h4, cell_of_row w b _ C ct fr hg, List.append_assoc]
            rw [List.getElem?_append_left (by simp; omega), List.getElem?_take, if_pos (by omega)]
            simp
          · rw [hcell, h4, hv.hlen, List.append_assoc]
            rw [List.getElem?_append_right (by simp; omega)]
            have hlt : j < news.length := (List.getElem?_eq_some_iff.1 hu').1
            have hCl : C.toList.length = C.size := Array.length_toList
            rw [List.length_take, Nat.min_eq_left (by omega), show s + len * i.size + j - (s + len * i.size) = j by omega]
            rw [List.getElem?_append_left hlt]
            exact hu'
        · simp only [relTV]
          exact .inr ⟨b, s, cap, _, _, _, hp, rfl, .inr rfl⟩
    · obtain ⟨olds, ho1, ho2, ho3, ho4⟩ := hv.olds
      have h63 : ((len + ms.length : Nat) : Int) ≤ 9223372036854775807 := by simp only [maxLen] at hmaxlen; omega
      have hp := growslice_fits (bytes := i.bytes) (by omega : cap < len + ms.length) (by simpa only [maxBytes] using hb)
      have hrun := run_append_grow_src (P := P) w t tx ty e f z ht hf1 hf2 A len cap olds (by rw [hf3]; exact ho1 P) x ms.length news hsrc (by omega) h63 (by rw [hf4]; exact hp)
      have hge := grownCap_ge w (len + ms.length) cap e
      have hgm := grownCap_le_maxLen w (len + ms.length) cap e hmaxlen
      refine put _ _ (.at w.heap.size 0 (grownCap w (len + ms.length) cap e) i.size (es.length + ms.length)) hrun rfl rfl rfl (by show _ ≤ (w.heap.push _).size; simp) (fun k hk _ => ?_) (fun k hk => ?_) (fun π' _ _ hkeep => ?_) fun π' hp => ?_
      · show (w.heap.push _)[k]? = _
        rw [Array.getElem?_push, if_neg (by omega)]
      · simp only [Pl.blk, Option.some.injEq] at hk
        subst hk
        exact .inl ⟨Nat.le_refl _, by show _ < (w.heap.push _).size; simp⟩
      · refine grown_row (rest := (Builtin.zeroCells z.cells (grownCap w (len + ms.length) cap e - (len + ms.length))).toList) ?_ hkeep ho2 hn ho3 hsrc.one ?_ hv.lens hs.len ?_ (by rw [hv.hlen]; exact hge) hgm ho4 hnl
        · simp
        · exact zeroCells_one (zsOk_rel (w := w) (S := S) (π := π) hz2).2 (by rw [hz1]; exact hty.pos)
        · rw [Array.length_toList, size_zeroCells, hz1, hv.hlen]
      · simp only [relTV]
        exact .inr ⟨_, 0, _, _, _, _, hp, by rw [hv.hlen], .inr rfl⟩

theorem allLen_get {n : Nat} {es : List (List PV)} (h : allLen n es = true) : ∀ e ∈ es, e.length = n := by
  simp only [allLen, List.all_eq_true, beq_iff_eq] at h; exact h

/-- A slice of the call's own as it lies. -/
theorem view_sl {w : World} {S : Nat → Prop} {π : Nat → Option Pl} {id off len sz : Nat} {cp : Bool} {es : List (List PV)} {u : Value} (hob : ObsOk w S π look) (hl : look id = some (.row es sz)) (h : relTV w S π (.sl id off len cp) u) :
    ∃ A cap, u = .slice A len cap ∧ (cp = true → cap = len) ∧ View w S sz A len cap ((es.drop off).take len) fun b _ => ∃ x pi, look id = some x ∧ x.live = true ∧ π id = some pi ∧ pi.blk = some b := by
  simp only [relTV] at h
  obtain ⟨pl, hp', hk⟩ := hob.ok id _ hl
  rcases h with ⟨hp, he, rfl, rfl⟩ | ⟨b, s, c, z', l', ad, cv, hp, he, k1, had, k2, k3, k4⟩
  · exact ⟨none, 0, he, fun _ => rfl, by simp, by simp, Nat.le_refl _, by simp [maxLen], .inl ⟨rfl, rfl⟩⟩
  · rw [hp] at hp'; cases hp'
    simp only [obOk] at hk
    obtain ⟨rfl, rfl, hlc, hcm, C, t, fr, hg, hu, ho, hcs, hr⟩ := hk
    have hlen : ((es.drop off).take len).length = len := by simp; omega
    have hr' := relEs_take (relEs_drop hr off) len
    refine ⟨some ad, cv, he, k3, hlen, fun e hm => ?_, k1, by omega, .inr ⟨b, s + off * z', C, t, fr, ?_, rfl, ⟨_, _, hl, rfl, hp, rfl⟩, hg, hu, ho, ?_, hr'⟩⟩
    · obtain ⟨i, hi⟩ := List.mem_iff_getElem?.1 hm
      exact (relEs_get hr' hi).1
    · rcases had with h0 | h0
      · exact .inl h0
      · exact .inr (by rw [h0])
    · rw [Nat.add_assoc, ← Nat.add_mul]
      exact fun h0 => Nat.le_trans (Nat.add_le_add_left (Nat.mul_le_mul_right _ k2) _) (hcs (by omega))

theorem view_ow {w : World} {S : Nat → Prop} {π : Nat → Option Pl} {id sz : Nat} {es : List (List PV)} {u : Value} (hob : ObsOk w S π look) (hl : look id = some (.row es sz)) (h : relTV w S π (.ow id) u) :
    ∃ A len cap, u = .slice A len cap ∧ View w S sz A len cap es fun b _ => ∃ x pi, look id = some x ∧ x.live = true ∧ π id = some pi ∧ pi.blk = some b := by
  simp only [relTV] at h
  obtain ⟨pl, hp', hk⟩ := hob.ok id _ hl
  rcases h with ⟨hp, he⟩ | ⟨b, s, c, z', l', ad, hp, he, had⟩
  · rw [hp] at hp'; cases hp'
    simp only [obOk] at hk
    subst hk
    exact ⟨none, 0, 0, he, by simp, by simp, Nat.le_refl _, by simp [maxLen], .inl ⟨rfl, rfl⟩⟩
  · rw [hp] at hp'; cases hp'
    simp only [obOk] at hk
    obtain ⟨rfl, rfl, hlc, hcm, C, t, fr, hg, hu, ho, hcs, hr⟩ := hk
    refine ⟨some ad, _, c, he, rfl, fun e hm => ?_, hlc, hcm, .inr ⟨b, s, C, t, fr, ?_, rfl, ⟨_, _, hl, rfl, hp, rfl⟩, hg, hu, ho, hcs, hr⟩⟩
    · obtain ⟨i, hi⟩ := List.mem_iff_getElem?.1 hm
      exact (relEs_get hr hi).1
    · rcases had with h0 | h0
      · exact .inl h0
      · exact .inr (by rw [h0])

/-- The elements of what is read. -/
theorem elems_ok {R : Type} {n : Nat} {y : TV} {k : List (List PV) → List Nat → Option R} {r : R} (h : elemsK look n y k = some r) :
    ∃ ms rd, k ms rd = some r ∧ ∀ (w : World) (S : Nat → Prop) (π : Nat → Option Pl) (u : Value), relTV w S π y u → ObsOk w S π look →
      (∀ e ∈ ms, e.length = n) ∧ (((∃ A, u = .slice A 0 0) ∧ ms = []) ∨ ∃ a cap us, u = .slice (some a) ms.length cap ∧ us.length = ms.length * n ∧ (∀ (j : Nat) (u : Value), us[j]? = some u → w.cell? (a.add j) = some u) ∧ (∀ u ∈ us, u.oneCell' = true) ∧ relL w S ms.flatten us) := by
  have hdata : ∀ (es : List (List PV)), allLen n es = true → ∀ (w : World) (S : Nat → Prop) (u : Value), rel w S (.fs es) u →
      (∀ e ∈ es, e.length = n) ∧ (((∃ A, u = .slice A 0 0) ∧ es = []) ∨ ∃ a cap us, u = .slice (some a) es.length cap ∧ us.length = es.length * n ∧ (∀ (j : Nat) (u : Value), us[j]? = some u → w.cell? (a.add j) = some u) ∧ (∀ u ∈ us, u.oneCell' = true) ∧ relL w S es.flatten us) := by
    intro es ha w S u hu
    refine ⟨allLen_get ha, ?_⟩
    simp only [rel] at hu
    rcases hu with hu | ⟨b, s, cap, sz, he, hle, hm, hS, hr⟩
    · exact .inl hu
    · obtain ⟨us, h1, h2, h3, h4⟩ := relEs_flat hr
      refine .inr ⟨_, cap, us, he, ?_, fun j u hu => by rw [Addr.add_lit]; exact h2 j u hu, h3, h4⟩
      cases es with
      | nil => simpa using h1
      | cons e es =>
        have g1 := (relEs_get hr (i := 0) rfl).1
        have g2 := allLen_get ha e (List.mem_cons_self ..)
        rw [h1, ← g2, g1]
  have hview : ∀ (es : List (List PV)) (w : World) (S : Nat → Prop) A len cap B, View w S n A len cap es B →
      (∀ e ∈ es, e.length = n) ∧ (((∃ A', Value.slice A len cap = .slice A' 0 0) ∧ es = []) ∨ ∃ a cap' us, Value.slice A len cap = .slice (some a) es.length cap' ∧ us.length = es.length * n ∧ (∀ (j : Nat) (u : Value), us[j]? = some u → w.cell? (a.add j) = some u) ∧ (∀ u ∈ us, u.oneCell' = true) ∧ relL w S es.flatten us) := by
    intro es w S A len cap B hv
    refine ⟨hv.lens, ?_⟩
    rcases hv.at' with ⟨rfl, hc⟩ | ⟨b, s, C, t, fr, hc, hA, _, hg, _, _, _, hr⟩
    · have hl0 : len = 0 := by have := hv.le; omega
      have he : es = [] := List.eq_nil_of_length_eq_zero (by rw [hv.hlen, hl0])
      subst hl0 he hc
      exact .inl ⟨⟨_, rfl⟩, rfl⟩
    · obtain ⟨a, rfl⟩ := Option.isSome_iff_exists.1 hA
      refine .inr ⟨a, cap, ?_⟩
      rw [hv.hlen]
      by_cases h0 : len = 0
      · have he : es = [] := List.eq_nil_of_length_eq_zero (by rw [hv.hlen, h0])
        subst he h0
        exact ⟨[], rfl, by simp, by simp, by simp, by simp [relL]⟩
      · have hA : a = ⟨b, s, none⟩ := by
          rcases hc with hc | hc
          · have := hv.le; omega
          · simpa using hc
        subst hA
        obtain ⟨us, h1, h2, h3, h4⟩ := relEs_flat hr
        exact ⟨us, rfl, by rw [h1, hv.hlen], fun j u hu => by rw [Addr.add_lit]; exact h2 j u hu, h3, h4⟩
  unfold elemsK at h
  split at h
  · exact ⟨_, _, h, fun w S π u hu _ => by simp only [relTV] at hu; exact ⟨by simp, .inl ⟨⟨_, hu⟩, rfl⟩⟩⟩
  · rename_i es
    split at h
    · rename_i ha
      exact ⟨_, _, h, fun w S π u hu _ => by simp only [relTV] at hu; exact hdata es ha w S u hu.1⟩
    · cases h
  · rename_i p
    obtain ⟨es, hes, h'⟩ := bind_inv h
    cases asFs_inv hes
    split at h'
    · rename_i ha
      exact ⟨_, _, h', fun w S π u hu _ => by simp only [relTV] at hu; exact hdata es ha w S u hu⟩
    · cases h'
  · rename_i id
    split at h
    · rename_i es sz hl
      split at h
      · rename_i hsz
        subst hsz
        refine ⟨_, _, h, fun w S π u hu hob => ?_⟩
        obtain ⟨A, len, cap, rfl, hv⟩ := view_ow hob hl hu
        exact hview es w S A len cap _ hv
      · cases h
    · cases h
  · rename_i id off len cp
    split at h
    · rename_i es sz hl
      split at h
      · rename_i hsz
        subst hsz
        refine ⟨_, _, h, fun w S π u hu hob => ?_⟩
        obtain ⟨A, cap, rfl, _, hv⟩ := view_sl hob hl hu
        exact hview _ w S A len cap _ hv
      · cases h
    · cases h
  · cases h

end
end Go.Proofs.YtpaifgipdhgfkaaGreatDoorV

/- The reading machine's operations are told rightly: append. -/
namespace Go.Proofs.YtpaifgipdhgfkaaGreatDoorV
open Go Go.RowKit

section
variable {P : Program} {T : TypeId → Option TI} {look : Nat → Option Ob} {nx : Nat} {ev : Operand → Option TV} {o : Oper} {v : TV} {up : List (Nat × Ob)} {nw : List Ob} {rd : List Nat}

theorem srcOk_slice {size : Nat} {tx e' : TypeId} {u : Value} {ms : List (List PV)} {w : World} {S : Nat → Prop} (hk : P.underlying tx = some (.slice e')) (hl : ∀ e ∈ ms, e.length = size)
    (h : ((∃ A, u = .slice A 0 0) ∧ ms = []) ∨ ∃ a cap us, u = .slice (some a) ms.length cap ∧ us.length = ms.length * size ∧ (∀ (j : Nat) (u : Value), us[j]? = some u → w.cell? (a.add j) = some u) ∧ (∀ u ∈ us, u.oneCell' = true) ∧ relL w S ms.flatten us) :
    SrcOk P size tx u ms w S := by
  refine ⟨?_, hl⟩
  rcases h with ⟨⟨A, rfl⟩, rfl⟩ | ⟨a, cap, us, rfl, h1, h2, h3, h4⟩
  · cases A with
    | none => exact ⟨[], Src.ofNil w hk 0, by simp [relL]⟩
    | some a => exact ⟨[], Src.ofSlice w hk a 0 0 [] (by simp) (by simp) (by simp), by simp [relL]⟩
  · exact ⟨us, Src.ofSlice w hk a _ cap us h1 h2 h3, h4⟩

theorem srcOk_string {tx : TypeId} {s : ByteArray} {w : World} {S : Nat → Prop} (hk : P.underlying tx = some .string) : SrcOk P 1 tx (.string s) (bytesOf s) w S := by
  have hlen : (bytesOf s).length = s.size := by simp [bytesOf]
  refine ⟨⟨byteCells s, by rw [hlen]; exact Src.ofString w hk s, ?_⟩, fun e he => ?_⟩
  · simp only [bytesOf, byteCells]
    generalize s.data.toList = l
    induction l with
    | nil => simp [relL]
    | cons b l ih => simp only [List.map_cons, List.flatten_cons, List.singleton_append, relL]; exact ⟨_, _, rfl, by simp only [rel], ih⟩
  · simp only [bytesOf, List.mem_map] at he
    obtain ⟨b, _, rfl⟩ := he
    rfl

theorem rd_data {w : World} {S : Nat → Prop} {size : Nat} {es : List (List PV)} {A : Option Addr} {u : Value} (h : rel w S (.fs es) u) (he : u = .slice A es.length es.length) (hl : ∀ e ∈ es, e.length = size) : Rd w S size A es.length es.length es := by
  subst he
  simp only [rel] at h
  rcases h with ⟨⟨A', he'⟩, rfl⟩ | ⟨b, s, cap, sz, he', hle, hm, hS, hr⟩
  · refine ⟨rfl, hl, Nat.le_refl _, by simp [maxLen], [], fun P => ?_, by simp [relL], by simp, by simp⟩
    cases A with
    | none => exact run_firstCells_none w.drew size 0 0 0
    | some a => simpa using run_firstCells_some (P := P) w.drew size 0 a 0 0 [] (by simp) (by simp)
  · simp only [Value.slice.injEq] at he'
    obtain ⟨rfl, _, rfl⟩ := he'
    obtain ⟨us, h1, h2, h3, h4⟩ := relEs_flat hr
    have hus : us.length = es.length * size := by
      cases es with
      | nil => simpa using h1
      | cons e es =>
        have g1 := (relEs_get hr (i := 0) rfl).1
        have g2 := hl e (List.mem_cons_self ..)
        rw [h1, ← g2, g1]
    exact ⟨rfl, hl, Nat.le_refl _, hm, us, fun P => run_firstCells_some (P := P) w.drew size es.length ⟨b, s, none⟩ es.length es.length us hus (fun j u hu => by rw [Addr.add_lit]; simpa using h2 j u hu), h4, h3, hus⟩

theorem grow_ok {c : Call} {X Y : Operand} {t tx e : TypeId} {i : TI} {ts : List TypeId} {x : TV} {ms : List (List PV)} {rd0 : List Nat} (hT : TOk P T) (ho : o.op = .call c) (hc : c.callee = .builtin .append) (hX : c.args = #[X, Y]) (hx : ev X = some x)
    (ht : c.argTypes.toList = t :: tx :: ts) (hi : T e = some i) (hu : P.underlying t = some (.slice e))
    (hsrc : ∀ (a : Act) (w : World) (S : Nat → Prop) (π : Nat → Option Pl), evOk ev a w S π → ObsOk w S π look → SrcOk P i.size tx (a.eval Y) ms w S)
    (h : growK look nx i x ms rd0 ret4 = some (v, up, nw, rd)) : OpOk P look nx ev o v up nw := by
  have hexec : ∀ (a : Act) (w w' : World) (r : Value), (∀ ty, (Builtin.append_ #[t, tx] ty #[a.eval X, a.eval Y]).run P w = .ok r w') → (execOp a.eval o).run P w = .ok (.value r) w' := by
    intro a w w' r hr
    have h0 : Builtin.append_ c.argTypes o.type #[a.eval X, a.eval Y] = Builtin.append_ #[t, tx] o.type #[a.eval X, a.eval Y] := by
      simp only [Builtin.append_, arr_head ht, arr_snd ht, List.getElem?_toArray, List.getElem?_cons_zero, List.getElem?_cons_succ]
    simp [execOp, ho, resolve, hc, hX, invoke, builtin, h0, hr]
  -- a new row, some of the old given up
  have put : ∀ (ids : List Nat) (es : List (List PV)), (∀ i ∈ ids, (look i).isSome = true) →
      (∀ (a : Act) (w : World) (S : Nat → Prop) (π : Nat → Option Pl), evOk ev a w S π → ObsOk w S π look → ∃ A len cap, a.eval X = .slice A len cap ∧ (len + ms.length) * i.bytes ≤ maxBytes ∧ Rd w S i.size A len cap es ∧ ((ids = [] ∧ (0 < ms.length → cap = len) ∧ (ms.length = 0 → A = none ∧ cap = 0)) ∨
        View w S i.size A len cap es fun b _ => ∃ i ∈ ids, ∃ x pi, look i = some x ∧ x.live = true ∧ π i = some pi ∧ pi.blk = some b)) →
      OpOk P look nx ev o (.ow nx) (deadAll ids) [.row (es ++ ms) i.size] := by
    intro ids es hids hv a w S π hev hob hf K Q hK
    obtain ⟨A, len, cap, he, hb, h1, h2⟩ := hv a w S π hev hob
    have hrun : ∃ u w' π', (Builtin.append_ #[t, tx] o.type #[a.eval X, a.eval Y]).run P w = .ok u w' ∧ After w S π look nx (.ow nx) (deadAll ids) [.row (es ++ ms) i.size] u w' S π' := by
      rw [he]
      exact append_put (P := P) (T := T) hT hi hu hob hf hids h1 h2 (hsrc a w S π hev hob) hb
    obtain ⟨u, w', π', hr, hA⟩ := hrun
    unfold Oper.wp
    rw [hexec a w w' u fun ty => by rw [← hr]; rfl]
    exact hK u w' S π' hA
  have empty : ∀ (a : Act) (w : World) (S : Nat → Prop) (π : Nat → Option Pl), evOk ev a w S π → ObsOk w S π look → ms.isEmpty = true → ∀ {A : Option Addr} {len cap : Nat}, len ≤ cap → ∀ ty, (Builtin.append_ #[t, tx] ty #[.slice A len cap, a.eval Y]).run P w = .ok (.slice A len cap) w := by
    intro a w S π hev hob hm A len cap hle ty
    have hms : ms = [] := List.isEmpty_iff.1 hm
    subst hms
    obtain ⟨news, hs, _⟩ := (hsrc a w S π hev hob).src
    have hn : news = [] := List.eq_nil_of_length_eq_zero (by simpa using hs.newsLen)
    subst hn
    obtain ⟨f, z, hf, hs2, _⟩ := (hT e i hi).info
    rw [← hs2] at hs
    exact run_append_none (P := P) hu hf (by simpa using hs) hle
  unfold growK at h
  split at h
  · rename_i sz
    split at h
    · rename_i hb
      obtain ⟨rfl, rfl, rfl, rfl⟩ := ret4_inv h
      refine put [] [] (by simp) fun a w S π hev hob => ?_
      have hv := hev X _ hx
      simp only [relTV] at hv
      exact ⟨none, 0, 0, hv, by simpa using hb, ⟨rfl, by simp, Nat.le_refl _, by simp [maxLen], [], fun P => run_firstCells_none w.drew i.size 0 0 0, by simp [relL], by simp, by simp⟩, .inl ⟨rfl, fun _ => rfl, fun _ => ⟨rfl, rfl⟩⟩⟩
    · cases h
  · rename_i es
    split at h
    · rename_i hb
      obtain ⟨hb, ha⟩ := hb
      cases hm : ms.isEmpty with
      | true =>
        rw [hm] at h
        simp only [cond_true] at h
        obtain ⟨rfl, rfl, rfl, rfl⟩ := ret4_inv h
        refine opOk_pure fun a w S π hev hob => ⟨a.eval X, hexec a w w _ fun ty => ?_, hev X _ hx⟩
        have hv := hev X _ hx
        simp only [relTV] at hv
        obtain ⟨A, he⟩ := hv.2
        rw [he]
        exact empty a w S π hev hob hm (Nat.le_refl _) ty
      | false =>
        rw [hm] at h
        simp only [cond_false] at h
        obtain ⟨rfl, rfl, rfl, rfl⟩ := ret4_inv h
        have hpos : 0 < ms.length := by cases ms with
          | nil => cases hm
          | cons _ _ => simp
        refine put [] es (by simp) fun a w S π hev hob => ?_
        have hv := hev X _ hx
        simp only [relTV] at hv
        obtain ⟨hr, A, he⟩ := hv
        refine ⟨A, es.length, es.length, he, hb, rd_data hr he (allLen_get ha), .inl ⟨rfl, fun _ => rfl, fun h0 => by omega⟩⟩
    · cases h
  · rename_i id
    split at h
    · rename_i es sz hl
      split at h
      · rename_i hsz
        subst hsz
        split at h
        · rename_i hb
          obtain ⟨rfl, rfl, rfl, rfl⟩ := ret4_inv h
          refine put [id] es (by simp [hl]) fun a w S π hev hob => ?_
          obtain ⟨A, len, cap, he, hv⟩ := view_ow hob hl (hev X _ hx)
          have := hv.hlen
          exact ⟨A, len, cap, he, by rw [← this]; exact hb, hv.read, .inr ⟨hv.hlen, hv.lens, hv.le, hv.max, hv.at'.imp (fun h => h) fun ⟨b, s, C, t, fr, h1, h2, h3, h4⟩ => ⟨b, s, C, t, fr, h1, h2, ⟨_, List.mem_singleton.2 rfl, h3⟩, h4⟩⟩⟩
        · cases h
      · cases h
    · cases h
  · rename_i id off len cp
    split at h
    · rename_i es sz hl
      split at h
      · rename_i hsz
        subst hsz
        split at h
        · rename_i hb
          split at h
          · cases hm : ms.isEmpty with
            | true =>
              rw [hm] at h
              simp only [cond_true] at h
              obtain ⟨rfl, rfl, rfl, rfl⟩ := ret4_inv h
              refine opOk_pure fun a w S π hev hob => ⟨a.eval X, hexec a w w _ fun ty => ?_, hev X _ hx⟩
              obtain ⟨A, cap, he, hcl, hv⟩ := view_sl hob hl (hev X _ hx)
              rw [he]
              exact empty a w S π hev hob hm hv.le ty
            | false =>
              rw [hm] at h
              simp only [cond_false] at h
              obtain ⟨rfl, rfl, rfl, rfl⟩ := ret4_inv h
              refine put [] _ (by simp) fun a w S π hev hob => ?_
              obtain ⟨A, cap, he, hcl, hv⟩ := view_sl hob hl (hev X _ hx)
              exact ⟨A, len, cap, he, hb, hv.read, .inl ⟨rfl, fun _ => hcl rfl, fun h0 => by rw [List.eq_nil_of_length_eq_zero h0] at hm; cases hm⟩⟩
          · obtain ⟨rfl, rfl, rfl, rfl⟩ := ret4_inv h
            refine put [id] _ (by simp [hl]) fun a w S π hev hob => ?_
            obtain ⟨A, cap, he, _, hv⟩ := view_sl hob hl (hev X _ hx)
            exact ⟨A, len, cap, he, hb, hv.read, .inr ⟨hv.hlen, hv.lens, hv.le, hv.max, hv.at'.imp (fun h => h) fun ⟨b, s, C, t, fr, h1, h2, h3, h4⟩ => ⟨b, s, C, t, fr, h1, h2, ⟨_, List.mem_singleton.2 rfl, h3⟩, h4⟩⟩⟩
        · cases h
      · cases h
    · cases h
  · cases h

theorem append_ok {c : Call} {x y : TV} {t tx : TypeId} {ts : List TypeId} (hT : TOk P T) (ho : o.op = .call c) (hc : c.callee = .builtin .append) (hx : allSome (c.args.toList.map ev) = some [x, y]) (ht : c.argTypes.toList = t :: tx :: ts)
    (h : appendK T look nx t tx x y ret4 = some (v, up, nw, rd)) : OpOk P look nx ev o v up nw := by
  obtain ⟨X, Y, hX, hevX, hevY⟩ := list_two hx
  have hX' := arr_two hX
  unfold appendK at h
  split at h
  · rename_i sz by' e z hi
    have hu := (hT t _ hi).desc
    simp only [descOk] at hu
    split at h
    · cases h
    · rename_i i hie
      split at h
      · rename_i sz2 by2 z2 hi2
        have hu2 := (hT tx _ hi2).desc
        simp only [descOk] at hu2
        split at h
        · rename_i p
          obtain ⟨s, hs, h'⟩ := bind_inv h
          cases asS_inv hs
          split at h'
          · rename_i h1
            refine grow_ok hT ho hc hX' hevX ht hie hu (fun a w S π hev hob => ?_) h'
            rw [ev_str hevY hev, h1]
            exact srcOk_string hu2
          · cases h'
        · cases h
      · rename_i sz2 by2 e2 z2 hi2
        have hu2 := (hT tx _ hi2).desc
        simp only [descOk] at hu2
        obtain ⟨ms, rd0, h', hel⟩ := elems_ok h
        refine grow_ok hT ho hc hX' hevX ht hie hu (fun a w S π hev hob => ?_) h'
        obtain ⟨h1, h2⟩ := hel w S π _ (hev Y _ hevY) hob
        exact srcOk_slice hu2 h1 h2
      · cases h
  · cases h

end
end Go.Proofs.YtpaifgipdhgfkaaGreatDoorV

/- The reading machine's operations are told rightly: structs, arrays, slices built of parts; made slices; bytes and strings. -/
namespace Go.Proofs.YtpaifgipdhgfkaaGreatDoorV
open Go Go.RowKit

section
variable {P : Program} {T : TypeId → Option TI} {look : Nat → Option Ob} {nx : Nat} {ev : Operand → Option TV} {o : Oper} {v : TV} {up : List (Nat × Ob)} {nw : List Ob} {rd : List Nat}

theorem foldSet_list (off : Nat) : ∀ (vs : List Value) (k : Nat) (cells : Array Value), off + k + vs.length ≤ cells.size →
    ((vs.zipIdx k).foldl (fun (cs : Array Value) (x : Value × Nat) => cs.setIfInBounds (off + x.2) x.1) cells).toList = cells.toList.take (off + k) ++ vs ++ cells.toList.drop (off + k + vs.length)
  | [], k, cells, _ => by simp
  | v :: vs, k, cells, h => by
    simp only [List.length_cons] at h
    simp only [List.zipIdx_cons, List.foldl_cons]
    rw [foldSet_list off vs (k + 1) _ (by simp; omega)]
    have hn : off + k < cells.toList.length := by rw [Array.length_toList]; omega
    have e1 : (cells.toList.set (off + k) v).take (off + (k + 1)) = cells.toList.take (off + k) ++ [v] := by
      rw [← Nat.add_assoc, List.take_succ_eq_append_getElem (by simpa using hn), List.take_set_of_le (Nat.le_refl _)]
      simp
    have e2 : (cells.toList.set (off + k) v).drop (off + (k + 1) + vs.length) = cells.toList.drop (off + k + (vs.length + 1)) := by
      rw [List.drop_set_of_lt (by omega)]
      congr 1; omega
    simp only [Array.toList_setIfInBounds, List.length_cons, e1, e2]
    simp

theorem fill_step {place : Nat → Option (Nat × Nat)} {cells : Array Value} {i off size : Nat} {v : Value} {rest : List (Nat × Value)} (hp : place i = some (off, size)) (hs : v.cells.size = size) (hle : off + size ≤ cells.size) :
    ∃ cells', Instr.fill place cells ((i, v) :: rest) = Instr.fill place cells' rest ∧ cells'.toList = cells.toList.take off ++ v.cells.toList ++ cells.toList.drop (off + size) ∧ cells'.size = cells.size := by
  refine ⟨v.cells.zipIdx.foldl (fun cs (c, j) => cs.setIfInBounds (off + j) c) cells, ?_, ?_, ?_⟩
  · simp only [Instr.fill, hp]
    rw [if_neg (by simp [hs]; omega)]
  · rw [← Array.foldl_toList, Array.toList_zipIdx]
    have := foldSet_list off v.cells.toList 0 cells (by simp [hs]; omega)
    rw [this]
    simp [hs]
  · have h1 : ((v.cells.zipIdx.foldl (fun cs (c, j) => cs.setIfInBounds (off + j) c) cells).toList).length = cells.size := by
      rw [← Array.foldl_toList, Array.toList_zipIdx]
      rw [foldSet_list off v.cells.toList 0 cells (by simp [hs]; omega)]
      simp [hs]; omega
    simpa using h1

theorem fill_ok {fs : List (TypeId × Nat)} {place : Nat → Option (Nat × Nat)} {w : World} {S : Nat → Prop} {π : Nat → Option Pl} {a : Act} (hT : TOk P T) (hev : evOk ev a w S π)
    (hp : ∀ (i : Nat) (ft : TypeId) (fo : Nat), fs[i]? = some (ft, fo) → ∃ i', T ft = some i' ∧ place i = some (fo, i'.size)) :
    ∀ (parts : List (Nat × Operand)) (cs cs' : List TV) (cells : Array Value), putParts T fs cs (parts.map fun x => (x.1, ev x.2)) = some cs' → relTVs w S π cs cells.toList → oneCells cells →
      ∃ cells', Instr.fill place cells (parts.map fun x => (x.1, a.eval x.2)) = some cells' ∧ relTVs w S π cs' cells'.toList ∧ oneCells cells'
  | [], cs, cs', cells, h, hr, h1 => by
    simp only [List.map_nil, putParts, Option.some.injEq] at h
    subst h
    exact ⟨cells, by simp [Instr.fill], hr, h1⟩
  | (i, x) :: parts, cs, cs', cells, h, hr, h1 => by
    simp only [List.map_cons, putParts] at h
    split at h
    · rename_i ft fo tv hf hx
      obtain ⟨i', hi, hpl⟩ := hp i ft fo hf
      split at h
      · rename_i ds hds
        split at h
        · rename_i hle
          have hcl := relTVs_length hr
          -- the part's cells
          have hpart : ∃ us : List Value, (a.eval x).cells.toList = us ∧ us.length = i'.size ∧ ds.length = us.length ∧ (∀ u ∈ us, u.oneCell' = true) ∧ relTVs w S π ds us := by
            have hxr := hev x tv hx
            rw [isAggT_eq hi] at hds
            cases hd : i'.desc.isAgg with
            | true =>
              rw [hd, if_pos rfl] at hds
              obtain ⟨us, he, hs, h1, h2⟩ := tcells_rel hds hxr
              rw [tsize_eq hi] at hs
              refine ⟨us.toList, by rw [he]; rfl, by simpa using hs, relTVs_length h2, h1, h2⟩
            | false =>
              rw [hd, if_neg (by simp)] at hds
              split at hds
              · rename_i ho
                simp only [Option.some.injEq] at hds
                subst hds
                have h1 := relTV_one hxr ho
                refine ⟨[a.eval x], by rw [oneCell_cells h1], by rw [(hT ft i' hi).one hd]; rfl, rfl, by simpa using h1, ?_⟩
                simp only [relTVs]
                exact ⟨_, _, rfl, fixNil_rel hxr, rfl⟩
              · cases hds
          obtain ⟨us, hu1, hu2, hu3, hu4, hu5⟩ := hpart
          have hsz : (a.eval x).cells.size = i'.size := by rw [← Array.length_toList, hu1, hu2]
          obtain ⟨cells', hf1, hf2, hf3⟩ := fill_step (rest := parts.map fun x => (x.1, a.eval x.2)) (cells := cells) hpl hsz (by rw [← hu2, ← hu3, ← Array.length_toList, ← hcl]; exact hle)
          rw [hu1] at hf2
          have hone : oneCells cells' := by
            intro u hu
            rw [hf2] at hu
            simp only [List.mem_append] at hu
            rcases hu with (hu | hu) | hu
            · exact h1 u (List.mem_of_mem_take hu)
            · exact hu4 u hu
            · exact h1 u (List.mem_of_mem_drop hu)
          have hrel : relTVs w S π (cs.take fo ++ ds ++ cs.drop (fo + ds.length)) cells'.toList := by
            rw [hf2]
            refine relTVs_append (relTVs_append (relTVs_take hr fo) hu5) ?_
            rw [hu3, hu2]
            exact relTVs_drop hr _
          obtain ⟨cells'', g1, g2, g3⟩ := fill_ok hT hev hp parts _ cs' cells' h hrel hone
          exact ⟨cells'', by simp only [List.map_cons]; rw [hf1, g1], g2, g3⟩
        · cases h
      · cases h
    · cases h

theorem places_ok (hT : TOk P T) : ∀ (F : List Field), (F.map fun f => (f.type, f.offset)).all (fun f => (T f.1).isSome) = true →
    ∃ places : List (Nat × Nat), F.mapM (fun f => (P.info? f.type).map fun i => (f.offset, i.size)) = some places ∧ ∀ (i : Nat) (ft : TypeId) (fo : Nat), (F.map fun f => (f.type, f.offset))[i]? = some (ft, fo) → ∃ i', T ft = some i' ∧ places[i]? = some (fo, i'.size)
  | [], _ => ⟨[], by simp, by simp⟩
  | f :: F, h => by
    simp only [List.map_cons, List.all_cons, Bool.and_eq_true] at h
    obtain ⟨places, h1, h2⟩ := places_ok hT F h.2
    obtain ⟨i, hi⟩ := Option.isSome_iff_exists.1 h.1
    obtain ⟨g, z, hg, hs, _⟩ := (hT _ i hi).info
    refine ⟨(f.offset, i.size) :: places, by simp [List.mapM_cons, hg, hs, h1], ?_⟩
    intro j ft fo hj
    cases j with
    | zero =>
      simp only [List.map_cons, List.getElem?_cons_zero, Option.some.injEq, Prod.mk.injEq] at hj
      obtain ⟨rfl, rfl⟩ := hj
      exact ⟨i, hi, rfl⟩
    | succ j =>
      simp only [List.map_cons, List.getElem?_cons_succ] at hj ⊢
      exact h2 j ft fo hj

theorem build_ok {t : TypeId} {parts : Array (Nat × Operand)} (hT : TOk P T) (ho : o.op = .build t parts) (h : buildK T t (parts.toList.map fun x => (x.1, ev x.2)) ret4 = some (v, up, nw, rd)) : OpOk P look nx ev o v up nw := by
  have hexec : ∀ (a : Act) (w : World) (cells : Array Value), P.built t (parts.toList.map fun x => (x.1, a.eval x.2)) = some cells → (execOp a.eval o).run P w = .ok (.value (.agg cells)) w := by
    intro a w cells hb
    have := run_build (P := P) w t (parts.map fun x => (x.1, a.eval x.2)) cells (by simpa using hb)
    simp [execOp, ho, this]
  unfold buildK at h
  split at h
  · rename_i sz by' fs z hi
    split at h
    · rename_i hall
      split at h
      · rename_i cs hcs
        obtain ⟨rfl, rfl, rfl, rfl⟩ := ret4_inv h
        have hty := hT t _ hi
        have hu := hty.desc
        simp only [descOk] at hu
        obtain ⟨F, hF, hFe, _⟩ := hu
        subst hFe
        obtain ⟨places, hp1, hp2⟩ := places_ok hT F.toList hall
        obtain ⟨zv, hz1, hz2, _, _, f, hf1, hf2, _⟩ := run_zeroValue hty
        refine opOk_pure fun a w S π hev hob => ?_
        obtain ⟨hz3, hz4⟩ := zsOk_rel (w := w) (S := S) (π := π) hz2
        obtain ⟨cells, g1, g2, g3⟩ := fill_ok (place := (places.toArray[·]?)) hT hev (fun i ft fo hi => by simpa using hp2 i ft fo hi) parts.toList _ cs zv.cells hcs hz3 hz4
        refine ⟨_, hexec a w cells ?_, by simpa using packTV_rel g2 g3⟩
        simp only [Program.built, hf1, hF, hf2, hp1]
        exact g1
      · cases h
    · cases h
  · rename_i sz by' n e z hi
    split at h
    · rename_i ei hie
      split at h
      · rename_i cs hcs
        obtain ⟨rfl, rfl, rfl, rfl⟩ := ret4_inv h
        have hty := hT t _ hi
        have hu := hty.desc
        simp only [descOk] at hu
        obtain ⟨g, _, hg, hgs, _⟩ := (hT e ei hie).info
        obtain ⟨zv, hz1, hz2, _, _, f, hf1, hf2, _⟩ := run_zeroValue hty
        refine opOk_pure fun a w S π hev hob => ?_
        obtain ⟨hz3, hz4⟩ := zsOk_rel (w := w) (S := S) (π := π) hz2
        obtain ⟨cells, g1, g2, g3⟩ := fill_ok (place := fun i => some (i * g.size, g.size)) hT hev (fun i ft fo hi => by
          simp only [List.getElem?_map] at hi
          cases hr : (List.range n)[i]? with
          | none => rw [hr] at hi; cases hi
          | some j =>
            rw [hr] at hi
            simp only [Option.map_some, Option.some.injEq, Prod.mk.injEq] at hi
            obtain ⟨rfl, rfl⟩ := hi
            have : j = i := by
              have := List.getElem?_eq_some_iff.1 hr
              obtain ⟨h1, h2⟩ := this
              simp at h2
              exact h2.symm
            subst this
            exact ⟨ei, hie, by simp [hgs, tsize_eq hie]⟩) parts.toList _ cs zv.cells hcs hz3 hz4
        refine ⟨_, hexec a w cells ?_, by simpa using packTV_rel g2 g3⟩
        simp only [Program.built, hf1, hu, hf2, hg]
        exact g1
      · cases h
    · cases h
  · cases h

end
end Go.Proofs.YtpaifgipdhgfkaaGreatDoorV

/- The reading machine's operations are told rightly: slices built of parts, made slices, conversions. -/
namespace Go.Proofs.YtpaifgipdhgfkaaGreatDoorV
open Go Go.RowKit

section
variable {P : Program} {T : TypeId → Option TI} {look : Nat → Option Ob} {nx : Nat} {ev : Operand → Option TV} {o : Oper} {v : TV} {up : List (Nat × Ob)} {nw : List Ob} {rd : List Nat}

/-- A new block that holds a row. -/
theorem row_new {w w' : World} {S : Nat → Prop} {π : Nat → Option Pl} {es : List (List PV)} {n sz cap : Nat} {C : Array Value} {e : TypeId} {fr : Nat × Nat} (hob : ObsOk w S π look) (hf : Free look π nx 1)
    (hos : w'.os = w.os) (htape : w'.tape = w.tape) (hout : w'.output = w.output) (hsz : w'.heap.size = w.heap.size + 1) (hold : ∀ k, k < w.heap.size → w'.heap[k]? = w.heap[k]?)
    (hg : w'.heap[w.heap.size]? = some (.cells C e fr)) (hfr : unfrozen C fr) (ho : oneCells C) (hn : n = es.length) (hnc : n ≤ cap) (hc : cap * sz ≤ C.size) (hmax : cap ≤ maxLen)
    (hr : Keep w S w' S → relEs w' S w.heap.size 0 sz es) :
    ∃ π', After w S π look nx (.ow nx) [] [.row es sz] (.slice (some ⟨w.heap.size, 0, none⟩) n cap) w' S π' := by
  obtain ⟨π', g1, g2, g3, g4, g5⟩ := obs_put (nx := nx) (ids := []) (ob := .row es sz) (pl := .at w.heap.size 0 cap sz n) hob hf (by simp) hos htape hout (by omega) (fun k hk _ => hold k hk)
    (fun b hb => by simp only [Pl.blk, Option.some.injEq] at hb; subst hb; exact .inl ⟨Nat.le_refl _, by omega⟩)
    (fun π' _ _ hkeep => by
      simp only [obOk]
      exact ⟨hn, trivial, hnc, hmax, C, e, fr, hg, hfr, ho, fun _ => by omega, hr hkeep⟩)
  refine ⟨π', ?_, g1, g2, g3, g5⟩
  simp only [relTV]
  exact .inr ⟨_, _, _, _, _, _, g4, rfl, .inr rfl⟩

theorem put_new {a : Act} {w w' : World} {S : Nat → Prop} {π : Nat → Option Pl} {K : Act → World → Prop} {Q : Exit → Act → World → Prop} {u : Value} {x : TV} {ns : List Ob} (hr : (execOp a.eval o).run P w = .ok (.value u) w')
    (hK : ∀ u w' S' π', After w S π look nx x up ns u w' S' π' → K (a.put o.dst u) w') (h : ∃ π', After w S π look nx x up ns u w' S π') : o.wp P a w K Q := by
  obtain ⟨π', hA⟩ := h
  unfold Oper.wp
  rw [hr]
  exact hK u w' S π' hA

theorem lit_ok {e : TypeId} {i : TI} {w : World} {S : Nat → Prop} {π : Nat → Option Pl} {a : Act} (hT : TOk P T) (hi : T e = some i) (hev : evOk ev a w S π) :
    ∀ (parts : List (Nat × Operand)) (j : Nat) (es : List (List PV)) (cells : Array Value), litRows T e j (parts.map fun x => (x.1, ev x.2)) = some es → (j + parts.length) * i.size = cells.size →
      ∃ cells' us, Instr.fill (fun k => some (k * i.size, i.size)) cells (parts.map fun x => (x.1, a.eval x.2)) = some cells' ∧ cells'.toList = cells.toList.take (j * i.size) ++ us ∧ us.length = parts.length * i.size ∧ es.length = parts.length ∧ (∀ e ∈ es, e.length = i.size) ∧
        (∀ u ∈ us, u.oneCell' = true) ∧ relL w S es.flatten us
  | [], j, es, cells, h, hs => by
    simp only [List.map_nil, litRows, Option.some.injEq] at h
    subst h
    refine ⟨cells, [], by simp [Instr.fill], ?_, by simp, by simp, by simp, by simp, by simp [relL]⟩
    simp only [List.length_nil, Nat.add_zero] at hs
    rw [hs, List.append_nil, ← Array.length_toList, List.take_length]
  | (k, x) :: parts, j, es, cells, h, hs => by
    simp only [List.map_cons, litRows] at h
    split at h
    · rename_i hk
      subst hk
      split at h
      · rename_i tv hx
        split at h
        · rename_i p es' hp hes
          have hpr := toPV_rel hp (hev x tv hx)
          simp only [List.length_cons] at hs
          -- the part's cells
          have hpart : ∃ (e' : List PV) (us : List Value), es = e' :: es' ∧ (a.eval x).cells.toList = us ∧ us.length = i.size ∧ e'.length = i.size ∧ (∀ u ∈ us, u.oneCell' = true) ∧ relL w S e' us := by
            rw [isAggT_eq hi] at h
            cases hd : i.desc.isAgg with
            | true =>
              rw [hd, if_pos rfl] at h
              split at h
              · rename_i ha
                simp only [Option.some.injEq] at h
                subst h
                obtain ⟨cs, us, rfl, he, h1, h2, h3, h4⟩ := rel_agg hpr ha
                rw [tsize_eq hi] at h3 h4
                exact ⟨cs, us.toList, rfl, by rw [he]; rfl, by simpa using h4, h3, h1, h2⟩
              · cases h
            | false =>
              rw [hd, if_neg (by simp)] at h
              split at h
              · rename_i ho
                simp only [Option.some.injEq] at h
                subst h
                have h1 := rel_one hpr ho
                have h0 := (hT e i hi).one hd
                refine ⟨[p], [a.eval x], rfl, by rw [oneCell_cells h1], by rw [h0]; rfl, by rw [h0]; rfl, by simpa using h1, ?_⟩
                simp only [relL]
                exact ⟨_, _, rfl, hpr, rfl⟩
              · cases h
          obtain ⟨e', us, rfl, hu1, hu2, hu3, hu4, hu5⟩ := hpart
          have hsz : (a.eval x).cells.size = i.size := by rw [← Array.length_toList, hu1, hu2]
          have hle : k * i.size + i.size ≤ cells.size := by
            rw [← hs]
            calc k * i.size + i.size = (k + 1) * i.size := by rw [Nat.add_mul, Nat.one_mul]
              _ ≤ _ := Nat.mul_le_mul_right _ (by omega)
          obtain ⟨cells', hf1, hf2, hf3⟩ := fill_step (place := fun k => some (k * i.size, i.size)) (rest := parts.map fun x => (x.1, a.eval x.2)) (i := k) rfl hsz hle
          obtain ⟨cells'', us', g1, g2, g3, g4, g5, g6, g7⟩ := lit_ok hT hi hev parts (k + 1) es' cells' hes (by rw [hf3, ← hs]; congr 1; omega)
          refine ⟨cells'', us ++ us', by simp only [List.map_cons]; rw [hf1, g1], ?_, ?_, by simp [g4], ?_, ?_, ?_⟩
          · rw [g2, hf2, hu1]
            have hk1 : (k + 1) * i.size = k * i.size + i.size := by rw [Nat.add_mul, Nat.one_mul]
            have hcl : cells.toList.length = cells.size := Array.length_toList
            rw [hk1, ← List.append_assoc (List.take (k * i.size) cells.toList) us us']
            congr 1
            rw [List.take_append_of_le_length (by simp; omega)]
            have : (List.take (k * i.size) cells.toList ++ us).length = k * i.size + i.size := by simp; omega
            rw [← this, List.take_length]
          · simp only [List.length_append, List.length_cons, hu2, g3, Nat.add_mul, Nat.one_mul]; omega
          · intro q hq
            rcases List.mem_cons.1 hq with rfl | hq
            · exact hu3
            · exact g5 q hq
          · intro q hq
            rcases List.mem_append.1 hq with hq | hq
            · exact hu4 q hq
            · exact g6 q hq
          · simp only [List.flatten_cons]
            exact relL_append hu5 g7
        · cases h
      · cases h
    · cases h

theorem litK_eq {R : Type} {e : TypeId} : ∀ (parts : List (Nat × Option TV)) (j : Nat) (k : List (List PV) → Option R), litK T e j parts k = (litRows T e j parts).bind k
  | [], j, k => rfl
  | (i, v) :: r, j, k => by
    unfold litK litRows
    split
    · cases v with
      | none => rfl
      | some v =>
        simp only
        cases hp : toPV v with
        | none => rfl
        | some p =>
          simp only
          rw [litK_eq r (j + 1), litK_eq r (j + 1)]
          cases hr : litRows T e (j + 1) r with
          | none => simp only [Option.bind_none, ite_self]
          | some es =>
            simp only [Option.bind_some]
            split
            · split <;> rfl
            · split <;> rfl
    · rfl
theorem buildSlice_ok {t : TypeId} {n : Nat} {parts : Array (Nat × Operand)} (hT : TOk P T) (ho : o.op = .buildSlice t n parts) (h : buildSliceK T nx t n (parts.toList.map fun x => (x.1, ev x.2)) ret4 = some (v, up, nw, rd)) : OpOk P look nx ev o v up nw := by
  unfold buildSliceK at h
  split at h
  · rename_i sz by' e z hi
    split at h
    · rename_i i hie
      split at h
      · rename_i hle
        obtain ⟨hn, hsmall⟩ := hle
        rw [litK_eq] at h
        obtain ⟨es, hes, h⟩ := bind_inv h
        · obtain ⟨rfl, rfl, rfl, rfl⟩ := ret4_inv h
          have hu := (hT t _ hi).desc
          simp only [descOk] at hu
          have hty := hT e i hie
          obtain ⟨zv, hz1, hz2, _, _, f, hf1, hf2, hf3, hf4⟩ := run_zeroValue hty
          have hpos := hty.pos
          simp only [List.length_map, Array.length_toList] at hn
          intro a w S π hev hob hf K Q hK
          have hzz : ∃ zs : Array Value, zs.size = n * i.size ∧ ∀ cells, Instr.fill (fun k => some (k * i.size, i.size)) zs (parts.toList.map fun x => (x.1, a.eval x.2)) = some cells → (execOp a.eval o).run P w = .ok (.value (.slice (some ⟨w.heap.size, 0, none⟩) n n)) (w.alloc (.cells cells e)) := by
            by_cases h0 : n * i.size = 0
            · refine ⟨#[], by simp [h0], fun cells hc => ?_⟩
              simp [execOp, ho, Instr.buildSlice, run_underlying hu, sizeOf, typeInfo, hf1, hf3, h0, hc, newRow, Array.range_zero']
            · refine ⟨(Array.range (n * i.size)).map (zv.cells[· % zv.cells.size]!), by simp, fun cells hc => ?_⟩
              have := run_buildSlice (P := P) w t e n (parts.map fun x => (x.1, a.eval x.2)) cells f zv hu hf1 hf2 (by rw [hf3]; omega) (by rw [hf3]; exact h0) (by rw [hf3]; simpa using hc)
              simp [execOp, ho, this]
          obtain ⟨zs, hzs, hrun⟩ := hzz
          obtain ⟨cells, us, g1, g2, g3, g4, g5, g6, g7⟩ := lit_ok hT hie hev parts.toList 0 es zs hes (by rw [hzs, Nat.zero_add, Array.length_toList, hn])
          simp only [Nat.zero_mul, List.take_zero, List.nil_append] at g2
          have hpl : parts.toList.length = n := by rw [Array.length_toList, hn]
          rw [hpl] at g3 g4
          refine put_new (hrun cells g1) hK ?_
          have hg : (w.alloc (.cells cells e)).heap[w.heap.size]? = some (.cells cells e (0, 0)) := by show (w.heap.push _)[w.heap.size]? = _; simp
          refine row_new hob hf rfl rfl rfl (by show (w.heap.push _).size = _; simp) (fun k hk => by show (w.heap.push _)[k]? = _; rw [Array.getElem?_push, if_neg (by omega)]) hg (.inl rfl) ?_ g4.symm (Nat.le_refl _) (by rw [← Array.length_toList, g2, g3]; exact Nat.le_refl _) ?_ fun hkeep => ?_
          · intro u hu'; rw [g2] at hu'; exact g6 u hu'
          · have : n * 1 ≤ n * i.size := Nat.mul_le_mul_left _ hpos
            simp only [maxLen]; omega
          · refine relEs_cells g5 (relL_keep hkeep _ _ g7) g6 fun j u hu' => ?_
            rw [cell_of_row _ _ _ _ _ _ hg, Nat.zero_add, ← Array.getElem?_toList, g2]
            exact hu'
      · cases h
    · cases h
  · cases h

theorem madeCells_get {z : Array Value} {n j : Nat} (hz : 0 < z.size) (hj : j < n) : ∃ u, (madeCells z n)[j]? = some u ∧ z[j % z.size]? = some u := by
  have : j % z.size < z.size := Nat.mod_lt _ hz
  refine ⟨z[j % z.size], ?_, by simp [this]⟩
  simp only [madeCells, Array.getElem?_map, Array.getElem?_range, hj, if_true, Option.map_some, getElem!_pos z (j % z.size) this]

theorem zeroCells_get {z : Array Value} {n j : Nat} (hz : 0 < z.size) (hj : j < n * z.size) : ∃ u, (Builtin.zeroCells z n).toList[j]? = some u ∧ z[j % z.size]? = some u := by
  have hm : j % z.size < z.size := Nat.mod_lt _ hz
  refine ⟨z[j % z.size], ?_, by simp [hm]⟩
  simp only [Builtin.zeroCells, Array.getElem?_toList, Array.getElem?_map, Array.getElem?_range, hj, if_true, Option.map_some, getElem!_pos z (j % z.size) hm]
theorem zero_cells {i : TI} {zp : PV} {us : List Value} {w : World} {S : Nat → Prop} {π : Nat → Option Pl} (hzp : toPV (packTV i.zero) = some zp) (hz3 : relTVs w S π i.zero us) (hz4 : ∀ u ∈ us, u.oneCell' = true) : relL w S zp.cells us := by
  have hr := packTV_rel hz3 hz4
  have hr2 := toPV_rel hzp hr
  cases zp with
  | agg cs =>
    simp only [rel] at hr2
    obtain ⟨vs, he, _, hl⟩ := hr2
    simp only [Value.agg.injEq] at he
    subst he
    simpa [PV.cells] using hl
  | _ =>
    exfalso
    unfold packTV at hzp
    split at hzp <;> simp only [toPV, Option.some.injEq, reduceCtorEq] at hzp
    split at hzp <;> simp at hzp
theorem clear_ok {c : Call} {x : TV} {t : TypeId} {ts : List TypeId} (hT : TOk P T) (ho : o.op = .call c) (hc : c.callee = .builtin .clear) (hx : allSome (c.args.toList.map ev) = some [x]) (ht : c.argTypes.toList = t :: ts)
    (h : clearK T look t x ret4 = some (v, up, nw, rd)) : OpOk P look nx ev o v up nw := by
  obtain ⟨X, hX, hevX⟩ := list_one hx
  have hX' := arr_one hX
  have ht' : c.argTypes[0]? = some t := by rw [← Array.getElem?_toList, ht]; rfl
  have hexec : ∀ (a : Act) (w w' : World) (r : Value), (∀ ty, (Builtin.clear_ c.argTypes ty #[a.eval X]).run P w = .ok r w') → (execOp a.eval o).run P w = .ok (.value r) w' := by
    intro a w w' r hr
    simp [execOp, ho, resolve, hc, hX', invoke, builtin, hr]
  unfold clearK at h
  split at h
  · rename_i sz by' e z hi
    have hu := (hT t _ hi).desc
    simp only [descOk] at hu
    split at h
    · rename_i i hie
      have hty := hT e i hie
      obtain ⟨zv, hz1, hz2, hz5, hzd, f, hf1, hf2, hf3, hf4⟩ := run_zeroValue hty
      have hpos := hty.pos
      split at h
      · rename_i zp hzp
        split at h
        · rename_i id off len cp
          split at h
          · rename_i es sz hl
            split at h
            · rename_i hsz
              obtain ⟨rfl, hzl⟩ := hsz
              obtain ⟨rfl, rfl, rfl, rfl⟩ := ret4_inv h
              intro a w S π hev hob hf K Q hK
              have hv := hev X _ hevX
              simp only [relTV] at hv
              obtain ⟨pl, hp, hk⟩ := hob.ok id _ hl
              obtain ⟨hz3, hz4⟩ := zsOk_rel (w := w) (S := S) (π := π) hz2
              have hzrel := zero_cells hzp hz3 hz4
              rcases hv with ⟨hp', he, rfl, rfl⟩ | ⟨b, s, c', z', l, A, cv, hp', he, k1, k2, k3, k4, k5⟩
              · -- nil
                rw [hp'] at hp; cases hp
                simp only [obOk] at hk
                subst hk
                unfold Oper.wp
                rw [hexec a w w (.tuple #[]) (fun ty => by rw [he]; simp [Builtin.clear_, ht', run_underlying hu])]
                refine hK _ w S π ⟨by simp only [relTV], ?_, Ext.refl _, fun id h => .inl h, ?_⟩
                · have : upd look [(id, .row [] i.size)] nx [] = look := by
                    funext j
                    simp only [upd, upLast, List.length_nil, Nat.add_zero]
                    by_cases e : id = j
                    · subst e; rw [if_pos rfl, hl]
                    · rw [if_neg e]; simp only; rw [if_neg (by omega)]
                  simpa [this] using hob
                · have : upd look [(id, .row [] i.size)] nx [] = look := by
                    funext j
                    simp only [upd, upLast, List.length_nil, Nat.add_zero]
                    by_cases e : id = j
                    · subst e; rw [if_pos rfl, hl]
                    · rw [if_neg e]; simp only; rw [if_neg (by omega)]
                  simpa [this] using Step.refl w S (owned look π)
              · rw [hp'] at hp; cases hp
                simp only [obOk] at hk
                obtain ⟨rfl, rfl, h2, h3, C, t', fr, hg, hfz, h1, hsz', hr⟩ := hk
                -- the world behind it
                have hw : ∃ w' C', (∀ ty, (Builtin.clear_ c.argTypes ty #[a.eval X]).run P w = .ok (.tuple #[]) w') ∧ Upd w b (.cells C' t' fr) w' ∧ C'.size = C.size ∧
                    C'.toList = C.toList.take (s + off * i.size) ++ (Builtin.zeroCells zv.cells len).toList ++ C.toList.drop (s + off * i.size + len * i.size) := by
                  have hzs : (Builtin.zeroCells zv.cells len).size = len * i.size := by simp [Builtin.zeroCells, hz1]
                  by_cases hl0 : len = 0
                  · subst hl0
                    refine ⟨w, C, fun ty => by rw [he]; simp [Builtin.clear_, ht', run_underlying hu], ⟨rfl, rfl, rfl, rfl, fun _ _ => rfl, hg⟩, rfl, ?_⟩
                    have : (Builtin.zeroCells zv.cells 0).toList = [] := List.eq_nil_of_length_eq_zero (by rw [Array.length_toList, hzs, Nat.zero_mul])
                    rw [this]
                    simp
                  · have hA : A = ⟨b, s + off * i.size, none⟩ := by
                      rcases k2 with k2 | k2
                      · omega
                      · exact k2
                    subst hA
                    have hin : s + off * i.size + len * i.size ≤ C.size := by
                      have h5 := hsz' (by omega)
                      have : (off + len) * i.size ≤ c' * i.size := Nat.mul_le_mul_right _ (by omega)
                      rw [Nat.add_mul] at this
                      omega
                    obtain ⟨w', C', g1, g2, g3, g4⟩ := run_storeCells_blk (P := P) (o := s + off * i.size) (Builtin.zeroCells zv.cells len).toList 0 C w hg hfz (by rw [Array.length_toList, hzs]; omega) (zeroCells_one hz4 (by rw [hz1]; exact hpos))
                    refine ⟨w', C', fun ty => ?_, g2, g3, ?_⟩
                    · rw [he]
                      cases len with
                      | zero => exact absurd rfl hl0
                      | succ len => simp [Builtin.clear_, ht', run_underlying hu, hz5, g1]
                    · rw [g4, Array.length_toList, hzs]; rfl
                obtain ⟨w', C', g1, g2, g3, g4⟩ := hw
                have hzs : (Builtin.zeroCells zv.cells len).toList.length = len * i.size := by simp [Builtin.zeroCells, hz1]
                have hin : s + off * i.size + len * i.size ≤ C.size ∨ (off = 0 ∧ len = 0 ∧ es.length = 0) := by
                  by_cases h0 : c' = 0
                  · exact .inr (by omega)
                  · have h5 := hsz' h0
                    have : (off + len) * i.size ≤ c' * i.size := Nat.mul_le_mul_right _ (by omega)
                    rw [Nat.add_mul] at this
                    exact .inl (by omega)
                obtain ⟨q1, q2⟩ := obs_turn (nx := nx) (ob' := .row (es.take off ++ List.replicate len zp.cells ++ es.drop (off + len)) i.size) hob hl rfl rfl hp' g2 (fun hkeep => by
                  simp only [obOk]
                  refine ⟨?_, trivial, h2, h3, C', t', fr, g2.here, unfrozen_size hfz g3, ?_, fun h0 => by rw [g3]; exact hsz' h0, ?_⟩
                  · simp only [List.length_append, List.length_take, List.length_replicate, List.length_drop]; omega
                  · intro u hu'
                    rw [g4] at hu'
                    simp only [List.mem_append] at hu'
                    rcases hu' with (hu' | hu') | hu'
                    · exact h1 u (List.mem_of_mem_take hu')
                    · exact zeroCells_one hz4 (by rw [hz1]; exact hpos) u hu'
                    · exact h1 u (List.mem_of_mem_drop hu')
                  · rcases hin with hin | ⟨rfl, rfl, h0⟩
                    · have hget : ∀ q, C'[q]? = if q < s + off * i.size then C[q]? else if q < s + off * i.size + len * i.size then (Builtin.zeroCells zv.cells len).toList[q - (s + off * i.size)]? else C[q]? := by
                        intro q
                        rw [← Array.getElem?_toList, g4, List.append_assoc, List.getElem?_append, List.getElem?_append]
                        simp only [List.length_take, Array.length_toList, Nat.min_eq_left (show s + off * i.size ≤ C.size by omega)]
                        split
                        · rename_i hq1
                          rw [List.getElem?_take, if_pos hq1]; simp
                        · rename_i hq1
                          have hzs' : (Builtin.zeroCells zv.cells len).size = len * i.size := by rw [← Array.length_toList]; exact hzs
                          rw [hzs']
                          by_cases hq2 : q < s + off * i.size + len * i.size
                          · rw [if_pos (by omega), if_pos hq2]
                          · rw [if_neg (by omega), if_neg hq2, List.getElem?_drop]
                            rw [show s + off * i.size + len * i.size + (q - (s + off * i.size) - len * i.size) = q by omega]
                            simp
                      have hcell : ∀ q, w'.cell? ⟨b, q, none⟩ = C'[q]? := fun q => cell_of_row w' b q C' t' fr g2.here
                      have hcell0 : ∀ q, w.cell? ⟨b, q, none⟩ = C[q]? := fun q => cell_of_row w b q C t' fr hg
                      refine relEs_of fun k e' he' => ?_
                      rw [List.append_assoc, List.getElem?_append, List.getElem?_append] at he'
                      simp only [List.length_take, List.length_replicate] at he'
                      have hmin : min off es.length = off := by omega
                      rw [hmin] at he'
                      have old : ∀ k', es[k']? = some e' → (k' < off ∨ off + len ≤ k') → e'.length = i.size ∧ relCs w' S b (s + k' * i.size) e' := by
                        intro k' hk' hout
                        obtain ⟨m1, m2⟩ := relEs_get hr hk'
                        refine ⟨m1, relCs_of fun j p hp => ?_⟩
                        obtain ⟨u, n1, n2, n3⟩ := relCs_get m2 hp
                        have hj : j < i.size := by have := (List.getElem?_eq_some_iff.1 hp).1; omega
                        refine ⟨u, ?_, n2, rel_keep hkeep _ _ n3⟩
                        rw [hcell, hget]
                        rw [hcell0] at n1
                        rcases hout with hout | hout
                        · have : (k' + 1) * i.size ≤ off * i.size := Nat.mul_le_mul_right _ (by omega)
                          rw [Nat.add_mul] at this
                          rw [if_pos (by omega)]
                          exact n1
                        · have : (off + len) * i.size ≤ k' * i.size := Nat.mul_le_mul_right _ hout
                          rw [Nat.add_mul] at this
                          rw [if_neg (by omega), if_neg (by omega)]
                          exact n1
                      split at he'
                      · rename_i hk
                        rw [List.getElem?_take, if_pos hk] at he'
                        exact old k he' (.inl hk)
                      · rename_i hk
                        split at he'
                        · rename_i hk2
                          rw [List.getElem?_replicate, if_pos hk2] at he'
                          cases he'
                          refine ⟨hzl.symm, relCs_of fun j p hp => ?_⟩
                          obtain ⟨u, m1, m2⟩ := relL_get (relL_keep hkeep _ _ hzrel) hp
                          have hj : j < i.size := by rw [hzl]; exact (List.getElem?_eq_some_iff.1 hp).1
                          have e1 : (k - off) * i.size + j < len * i.size := by
                            have : (k - off + 1) * i.size ≤ len * i.size := Nat.mul_le_mul_right _ (by omega)
                            rw [Nat.add_mul] at this
                            omega
                          have e2 : s + k * i.size + j - (s + off * i.size) = (k - off) * i.size + j := by
                            have : k * i.size = (k - off) * i.size + off * i.size := by rw [← Nat.add_mul]; congr 1; omega
                            omega
                          have e3 : off * i.size ≤ k * i.size := Nat.mul_le_mul_right _ (by omega)
                          have e4 : k * i.size = (k - off) * i.size + off * i.size := by rw [← Nat.add_mul]; congr 1; omega
                          obtain ⟨u', o1, o2⟩ := zeroCells_get (z := zv.cells) (n := len) (by rw [hz1]; exact hpos) (by rw [hz1]; exact e1)
                          have e5 : ((k - off) * i.size + j) % i.size = j := by rw [Nat.mul_comm, Nat.mul_add_mod]; exact Nat.mod_eq_of_lt hj
                          rw [hz1, e5, ← Array.getElem?_toList, m1] at o2
                          cases o2
                          refine ⟨u, ?_, hz4 u (List.mem_of_getElem? m1), m2⟩
                          rw [hcell, hget, if_neg (by omega), if_pos (by omega), e2]
                          exact o1
                        · rename_i hk2
                          rw [List.getElem?_drop] at he'
                          have e1 : off + len + (k - off - len) = k := by omega
                          rw [e1] at he'
                          exact old k he' (.inr (by omega))
                    · have : es = [] := List.eq_nil_of_length_eq_zero h0
                      subst this
                      simp only [List.take_nil, List.replicate_zero, List.drop_nil, List.append_nil, relEs])
                unfold Oper.wp
                rw [hexec a w w' (.tuple #[]) g1]
                exact hK _ w' S π ⟨by simp only [relTV], q1, Ext.refl _, fun id h => .inl h, q2⟩
            · cases h
          · cases h
        · obtain ⟨rfl, rfl, rfl, rfl⟩ := ret4_inv h
          refine opOk_pure fun a w S π hev hob => ⟨_, hexec a w w (.tuple #[]) fun ty => ?_, by simp only [relTV]⟩
          have hv := hev X _ hevX
          simp only [relTV] at hv
          rw [hv]
          simp [Builtin.clear_, ht', run_underlying hu]
        · cases h
      · cases h
    · cases h
  · cases h

theorem makeSlice_ok {t : TypeId} {l c : Operand} {x y : TV} (hT : TOk P T) (ho : o.op = .makeSlice t l c) (hx : ev l = some x) (hy : ev c = some y) (h : makeSliceK T nx t x y ret4 = some (v, up, nw, rd)) : OpOk P look nx ev o v up nw := by
  unfold makeSliceK at h
  split at h
  · rename_i sz by' e z hi
    split at h
    · rename_i p q i hie
      split at h
      · rename_i zp hzp
        obtain ⟨m, hm, h'⟩ := bind_inv h
        obtain ⟨m', hm', h''⟩ := bind_inv h'
        cases asI_inv hm
        cases asI_inv hm'
        split at h''
        · rename_i hle
          obtain ⟨rfl, h0, hb, hsz⟩ := hle
          obtain ⟨rfl, rfl, rfl, rfl⟩ := ret4_inv h''
          have hu := (hT t _ hi).desc
          simp only [descOk] at hu
          have hty := hT e i hie
          obtain ⟨zv, hz1, hz2, _, hzd, f, hf1, hf2, hf3, hf4⟩ := run_zeroValue hty
          have hpos := hty.pos
          have hposb := hty.posb
          have hmul : m * 1 ≤ m * i.bytes := Int.mul_le_mul_of_nonneg_left (by omega) h0
          simp only [maxBytes] at hb
          have hml : m ≤ 140737488355328 := by omega
          intro a w S π hev hob hf K Q hK
          have hrun := run_make (P := P) w t e f zv hu hf1 hf2 .i64 .i64 m m h0 (Int.le_refl _) (by rw [hf4, Int.mul_comm]; omega) (by omega)
          have hg : (w.alloc (.cells (madeCells zv.cells (m.toNat * f.size)) e)).heap[w.heap.size]? = some (.cells (madeCells zv.cells (m.toNat * f.size)) e (0, 0)) := by show (w.heap.push _)[w.heap.size]? = _; simp
          obtain ⟨hz3, hz4⟩ := zsOk_rel (w := w) (S := S) (π := π) hz2
          have hzrel : relL w S zp.cells zv.cells.toList := by
            have hr := packTV_rel hz3 hz4
            have hr2 := toPV_rel hzp hr
            cases zp with
            | agg cs =>
              simp only [rel] at hr2
              obtain ⟨us, he, _, hl⟩ := hr2
              simp only [Value.agg.injEq] at he
              subst he
              exact hl
            | _ =>
              exfalso
              unfold packTV at hzp
              split at hzp <;> simp only [toPV, Option.some.injEq, reduceCtorEq] at hzp
              split at hzp <;> simp at hzp
          refine put_new (u := .slice (some ⟨w.heap.size, 0, none⟩) m.toNat m.toNat) (w' := w.alloc (.cells (madeCells zv.cells (m.toNat * f.size)) e)) (by simp [execOp, ho, ev_int hx hev, ev_int hy hev, hrun]) hK ?_
          refine row_new hob hf rfl rfl rfl (by show (w.heap.push _).size = _; simp) (fun k hk => by show (w.heap.push _)[k]? = _; rw [Array.getElem?_push, if_neg (by omega)]) hg (.inl rfl) ?_ (by simp) (Nat.le_refl _) (by rw [size_madeCells, hf3]; exact Nat.le_refl _) (by simp only [maxLen]; omega) fun hkeep => ?_
          · intro u hu'
            obtain ⟨j, hj⟩ := List.mem_iff_getElem?.1 hu'
            rw [Array.getElem?_toList] at hj
            have hjl : j < m.toNat * f.size := by
              have := (Array.getElem?_eq_some_iff.1 hj).1
              rwa [size_madeCells] at this
            obtain ⟨u', k1, k2⟩ := madeCells_get (by rw [hz1]; exact hpos) hjl
            rw [k1] at hj; cases hj
            rw [← Array.getElem?_toList] at k2
            exact hz4 u (List.mem_of_getElem? k2)
          · refine relEs_of fun k e' he' => ?_
            rw [List.getElem?_replicate] at he'
            split at he'
            · rename_i hk
              cases he'
              refine ⟨hsz.symm, relCs_of fun j p hp => ?_⟩
              obtain ⟨u, k1, k2⟩ := relL_get (relL_keep hkeep _ _ hzrel) hp
              have hj : j < i.size := by rw [hsz]; exact (List.getElem?_eq_some_iff.1 hp).1
              have hlt : k * i.size + j < m.toNat * f.size := by
                rw [hf3]
                calc k * i.size + j < k * i.size + i.size := by omega
                  _ = (k + 1) * i.size := by rw [Nat.add_mul, Nat.one_mul]
                  _ ≤ m.toNat * i.size := Nat.mul_le_mul_right _ hk
              obtain ⟨u', q1, q2⟩ := madeCells_get (z := zv.cells) (by rw [hz1]; exact hpos) hlt
              have hmod : (k * i.size + j) % zv.cells.size = j := by rw [hz1, Nat.mul_comm, Nat.mul_add_mod, Nat.mod_eq_of_lt hj]
              rw [hmod, ← Array.getElem?_toList, k1] at q2
              cases q2
              refine ⟨u, ?_, hz4 u (List.mem_of_getElem? k1), k2⟩
              rw [cell_of_row _ _ _ _ _ _ hg, Nat.zero_add]
              exact q1
            · cases he'
        · cases h''
      · cases h
    · cases h
  · cases h

theorem strOf_rel {w : World} {S : Nat → Prop} : ∀ {es : List (List PV)} {l : List UInt8} {us : List Value}, strOf es = some l → relL w S es.flatten us → ∃ ns : List Int, us = ns.map (Value.int .u8) ∧ l = ns.map fun n => UInt8.ofNat n.toNat
  | [], l, us, h, hr => by
    simp only [strOf, Option.some.injEq] at h
    simp only [List.flatten_nil, relL] at hr
    subst h hr
    exact ⟨[], rfl, rfl⟩
  | e :: es, l, us, h, hr => by
    match e, h with
    | [.int .u8 n], h =>
      simp only [strOf] at h
      obtain ⟨l', hl', h'⟩ := bind_inv h
      simp only [Option.some.injEq] at h'
      subst h'
      simp only [List.flatten_cons, List.singleton_append, relL, rel] at hr
      obtain ⟨u, us', rfl, rfl, h2⟩ := hr
      obtain ⟨ns, rfl, rfl⟩ := strOf_rel hl' h2
      exact ⟨n :: ns, rfl, rfl⟩

theorem foldl_push_list : ∀ (ns : List Int) (r : ByteArray), ns.foldl (fun r n => r.push (UInt8.ofNat n.toNat)) r = ⟨r.data ++ (ns.map fun n => UInt8.ofNat n.toNat).toArray⟩
  | [], r => by simp
  | n :: ns, r => by
    simp only [List.foldl_cons]
    rw [foldl_push_list ns]
    simp [ByteArray.push]

theorem convert_ok {src dst : TypeId} {X : Operand} {x : TV} (hT : TOk P T) (ho : o.op = .convert src dst X) (hx : ev X = some x) (h : convertK T look nx src dst x ret4 = some (v, up, nw, rd)) : OpOk P look nx ev o v up nw := by
  have hexec : ∀ (a : Act) (w w' : World) (r : Value), (convert src dst (a.eval X)).run P w = .ok r w' → (execOp a.eval o).run P w = .ok (.value r) w' := by
    intro a w w' r hr
    simp [execOp, ho, hr]
  unfold convertK at h
  split at h
  · rename_i i1 i2 i3 i4 i5 i6 i7 i8 hs hd
    have us := (hT src _ hs).desc
    have ud := (hT dst _ hd).desc
    simp only [descOk] at us ud
    split at h
    · rename_i p
      obtain ⟨n, hn, h'⟩ := bind_inv h
      cases asI_inv hn
      obtain ⟨rfl, rfl, rfl, rfl⟩ := ret4_inv h'
      refine opOk_pure fun a w S π hev hob => ⟨_, hexec a w w _ ?_, by simp only [relTV, rel]; rfl⟩
      rw [ev_int hx hev]
      simp [convert, run_underlying us, run_underlying ud, Conv.intToInt]
    · cases h
  · rename_i i1 i2 i3 i4 i5 i6 hs hd
    have us := (hT src _ hs).desc
    have ud := (hT dst _ hd).desc
    simp only [descOk] at us ud
    split at h
    · rename_i p
      obtain ⟨n, hn, h'⟩ := bind_inv h
      cases asS_inv hn
      obtain ⟨rfl, rfl, rfl, rfl⟩ := ret4_inv h'
      refine opOk_pure fun a w S π hev hob => ⟨_, hexec a w w _ ?_, by simp only [relTV, rel]; rfl⟩
      rw [ev_str hx hev]
      simp [convert, run_underlying us, run_underlying ud]
    · cases h
  · rename_i i1 i2 e i3 i4 i5 i6 hs hd
    have us := (hT src _ hs).desc
    have ud := (hT dst _ hd).desc
    simp only [descOk] at us ud
    split at h
    · rename_i z he
      have ue := (hT e _ he).desc
      simp only [descOk] at ue
      obtain ⟨ms, rd0, h', hel⟩ := elems_ok h
      obtain ⟨l, hl, h''⟩ := bind_inv h'
      obtain ⟨rfl, rfl, rfl, rfl⟩ := ret4_inv h''
      refine opOk_pure fun a w S π hev hob => ⟨_, hexec a w w _ ?_, by simp only [relTV, rel]; rfl⟩
      obtain ⟨h1, h2⟩ := hel w S π _ (hev X _ hx) hob
      rcases h2 with ⟨⟨A, he⟩, rfl⟩ | ⟨ad, cap, vs, he, h3, h4, h5, h6⟩
      · simp only [strOf, Option.some.injEq] at hl
        subst hl
        rw [he]
        cases A with
        | none =>
          simp [convert, run_underlying us, run_underlying ud, run_underlying ue, Conv.bytesToString]
          rfl
        | some ad =>
          have hlc := run_loadCells_list (P := P) w ad ([].map (Value.int .u8)) (by simp)
          have hrun := run_bytesToString (P := P) w ad 0 0 [] (by simpa using hlc)
          simp [convert, run_underlying us, run_underlying ud, run_underlying ue, hrun]
          rfl
      · obtain ⟨ns, rfl, rfl⟩ := strOf_rel hl h6
        have hlc := run_loadCells_list (P := P) w ad (ns.map (Value.int .u8)) h4
        have hrun := run_bytesToString (P := P) w ad ms.length cap ns (by rw [← hlc]; congr 2; rw [h3, Nat.mul_one])
        rw [he]
        simp [convert, run_underlying us, run_underlying ud, run_underlying ue, hrun, foldl_push_list]
    · cases h
  · cases h

end
end Go.Proofs.YtpaifgipdhgfkaaGreatDoorV

/- The reading machine's operations are told rightly: maps. -/
namespace Go.Proofs.YtpaifgipdhgfkaaGreatDoorV
open Go Go.RowKit

section
variable {P : Program} {T : TypeId → Option TI} {look : Nat → Option Ob} {nx : Nat} {ev : Operand → Option TV} {o : Oper} {v : TV} {up : List (Nat × Ob)} {nw : List Ob} {rd : List Nat}

theorem toList_beq (a b : ByteArray) : (a.toList == b.toList) = (a == b) := (beq_toListBytes a b).symm

theorem eqvT_now {t : TypeId} {p q : PV} {b : Bool} (hT : TOk P T) (h : eqvT T t p q = some b) {w : World} {S : Nat → Prop} {u u' : Value} (hp : rel w S p u) (hq : rel w S q u') :
    ∃ d, P.underlying t = some d ∧ Instr.sameNow d u u' = some b ∧ (b = true → Instr.sameBits 10000 u' u = true) := by
  unfold eqvT at h
  split at h
  · rename_i hi
    obtain ⟨a, ha, h'⟩ := bind_inv h
    obtain ⟨a', ha', h''⟩ := bind_inv h'
    cases asI_inv ha
    cases asI_inv ha'
    simp only [Option.some.injEq] at h''
    subst h''
    simp only [rel] at hp hq
    subst hp hq
    have := (hT t _ hi).desc
    simp only [descOk] at this
    refine ⟨_, this, by simp [Instr.sameNow], fun hb => ?_⟩
    simp only [beq_iff_eq] at hb
    subst hb
    simp [Instr.sameBits]
  · rename_i hi
    obtain ⟨a, ha, h'⟩ := bind_inv h
    obtain ⟨a', ha', h''⟩ := bind_inv h'
    cases asB_inv ha
    cases asB_inv ha'
    simp only [Option.some.injEq] at h''
    subst h''
    simp only [rel] at hp hq
    subst hp hq
    have := (hT t _ hi).desc
    simp only [descOk] at this
    refine ⟨_, this, by simp [Instr.sameNow], fun hb => ?_⟩
    simp only [beq_iff_eq] at hb
    subst hb
    simp [Instr.sameBits]
  · rename_i hi
    obtain ⟨a, ha, h'⟩ := bind_inv h
    obtain ⟨a', ha', h''⟩ := bind_inv h'
    cases asS_inv ha
    cases asS_inv ha'
    simp only [Option.some.injEq] at h''
    subst h''
    simp only [rel] at hp hq
    subst hp hq
    have := (hT t _ hi).desc
    simp only [descOk] at this
    refine ⟨_, this, by rw [toList_beq]; simp [Instr.sameNow], fun hb => ?_⟩
    have hb := eq_of_beq hb
    simp only [Instr.sameBits, beq_toListBytes, hb, beq_self_eq_true]
  · cases h

theorem run_checkKey {t : TypeId} (h : plainD P t) (e : Bool) (n : Nat) (u : Value) (w : World) : (Instr.checkKey e (n + 1) t u).run P w = .ok () w := by
  rcases h with h | ⟨k, h⟩ | h <;> simp [Instr.checkKey, run_underlying h]

theorem find_ok {w : World} {S : Nat → Prop} {kt : TypeId} {d : TypeDesc} {key : PV} {u : Value} (hT : TOk P T) (hd : P.underlying kt = some d) (hu : rel w S key u) : ∀ (kvs : List (PV × PV)) (es : List MapEntry) (r : Option PV) (i : Nat),
    mget T kt key kvs = some r → relKV w S kvs es → (r = none ∧ Instr.findNow d u es i = some none) ∨ ∃ x j z, r = some x ∧ Instr.findNow d u es i = some (some (j, z)) ∧ rel w S x z
  | [], es, r, i, h, hr => by
    simp only [mget, Option.some.injEq] at h
    simp only [relKV_nil] at hr
    subst h hr
    exact .inl ⟨rfl, rfl⟩
  | kv :: kvs, es, r, i, h, hr => by
    simp only [mget] at h
    obtain ⟨b, hb, h'⟩ := bind_inv h
    simp only [relKV_cons] at hr
    obtain ⟨e, es', rfl, hk, hv, hr'⟩ := hr
    obtain ⟨d', hd', hs, _⟩ := eqvT_now hT hb hu hk
    rw [hd] at hd'; cases hd'
    cases b with
    | true =>
      simp only [if_true, Option.some.injEq] at h'
      subst h'
      exact .inr ⟨_, i, e.val, rfl, by simp [Instr.findNow, hs], hv⟩
    | false =>
      simp only [Bool.false_eq_true, if_false] at h'
      rcases find_ok hT hd hu kvs es' r (i + 1) h' hr' with ⟨h1, h2⟩ | ⟨x, j, z, h1, h2, h3⟩
      · exact .inl ⟨h1, by simp [Instr.findNow, hs, h2]⟩
      · exact .inr ⟨x, j, z, h1, by simp [Instr.findNow, hs, h2], h3⟩

theorem lookup_ok {t : TypeId} {X I : Operand} {x i : TV} {ok : Bool} (hT : TOk P T) (ho : o.op = .lookup t X I ok) (hx : ev X = some x) (hy : ev I = some i) (h : lookupK T look t x i ok ret4 = some (v, up, nw, rd)) : OpOk P look nx ev o v up nw := by
  unfold lookupK at h
  split at h
  · rename_i sz by' kt et z hi
    have hu := (hT t _ hi).desc
    simp only [descOk] at hu
    split at h
    · rename_i hpl
      simp only [Bool.and_eq_true] at hpl
      obtain ⟨hk1, ik, hik, hikd⟩ := plainT_ok hT hpl.1
      obtain ⟨he1, ie, hie, hied⟩ := plainT_ok hT hpl.2
      obtain ⟨dk, hdk⟩ : ∃ d, P.underlying kt = some d := by
        rcases hk1 with h | ⟨k, h⟩ | h <;> exact ⟨_, h⟩
      -- the zero
      have hzero : ∀ (z0 : PV), (match T et with | some ⟨_, _, _, [.val z]⟩ => some z | _ => none) = some z0 → ∀ (w : World) (S : Nat → Prop), ∃ zv, (∀ w', (zeroValue et).run P w' = .ok zv w') ∧ rel w S z0 zv := by
            intro z0 hz0 w S
            have hty := hT et ie hie
            obtain ⟨zv, hz1, hz2, hz3, hz4, _⟩ := run_zeroValue hty
            refine ⟨zv, hz3, ?_⟩
            rw [hie] at hz0
            split at hz0
            · rename_i heq
              simp only [Option.some.injEq] at heq hz0
              subst hz0 heq
              rw [hz4 hied] at hz2
              simp only [zsOk] at hz2
              obtain ⟨u, us', hu', hzo, _⟩ := hz2
              simp only [List.cons.injEq] at hu'
              have := (zOk_rel (w := w) (S := S) (π := fun _ => none) hzo).1
              rw [← hu'.1] at this
              simpa only [relTV] using this
            · cases hz0
      -- whatever the map is
      have main : ∀ (z0 : PV) (kvs : List (PV × PV)) (r : Option PV) (a : Act) (w : World) (S : Nat → Prop) (key : PV), (match T et with | some ⟨_, _, _, [.val z]⟩ => some z | _ => none) = some z0 → mget T kt key kvs = some r → rel w S key (a.eval I) →
          ((a.eval X = .map none ∧ kvs = []) ∨ ∃ b es clock, a.eval X = .map (some b) ∧ w.heap[b]? = some (.map es clock) ∧ relKV w S kvs es.toList) →
          ∃ uv, (execOp a.eval o).run P w = .ok (.value (if ok then .tuple #[uv, .bool r.isSome] else uv)) w ∧ rel w S (r.getD z0) uv := by
        intro z0 kvs r a w S key hz0 hr hkr hmap
        obtain ⟨zv, hz1, hz2⟩ := hzero z0 hz0 w S
        rcases hmap with ⟨he, rfl⟩ | ⟨b, es, clock, he, hg, hkv⟩
        · simp only [mget, Option.some.injEq] at hr
          subst hr
          have hck : (Instr.checkKey true 10000 kt (a.eval I)).run P w = .ok () w := run_checkKey hk1 _ 9999 _ w
          refine ⟨zv, ?_, hz2⟩
          cases ok <;> simp [execOp, ho, Instr.lookup, run_underlying hu, he, hck, Instr.findKey, run_underlying hdk, Instr.findNow, hz1]
        · have hck : (Instr.checkKey es.isEmpty 10000 kt (a.eval I)).run P w = .ok () w := run_checkKey hk1 _ 9999 _ w
          rcases find_ok hT hdk hkr kvs es.toList r 0 hr hkv with ⟨rfl, hf⟩ | ⟨y, j, zz, rfl, hf, hzr⟩
          · refine ⟨zv, ?_, hz2⟩
            cases ok <;> simp [execOp, ho, Instr.lookup, run_underlying hu, he, run_getObj_at hg rfl, hck, Instr.findKey, run_underlying hdk, hf, hz1]
          · refine ⟨zz, ?_, hzr⟩
            cases ok <;> simp [execOp, ho, Instr.lookup, run_underlying hu, he, run_getObj_at hg rfl, hck, Instr.findKey, run_underlying hdk, hf]
      split at h
      · rename_i id key z0 hz0
        split at h
        · rename_i kvs hl
          obtain ⟨r, hr, h'⟩ := bind_inv h
          have main : ∀ (a : Act) (w : World) (S : Nat → Prop) (π : Nat → Option Pl), evOk ev a w S π → ObsOk w S π look →
              ∃ uv, (execOp a.eval o).run P w = .ok (.value (if ok then .tuple #[uv, .bool r.isSome] else uv)) w ∧ rel w S (r.getD z0) uv := by
            intro a w S π hev hob
            have hv := hev X _ hx
            simp only [relTV] at hv
            obtain ⟨b, s, c', z', l', hp, he⟩ := hv
            have hkr := hev I _ hy
            simp only [relTV] at hkr
            obtain ⟨pl, hp', hk⟩ := hob.ok id _ hl
            rw [hp] at hp'; cases hp'
            simp only [obOk] at hk
            obtain ⟨es, clock, hg, _, hkv⟩ := hk
            exact main z0 kvs r a w S key hz0 hr hkr (.inr ⟨b, es, clock, he, hg, hkv⟩)
          split at h'
          · obtain ⟨rfl, rfl, rfl, rfl⟩ := ret4_inv h'
            refine opOk_pure fun a w S π hev hob => ?_
            obtain ⟨uv, h1, h2⟩ := main a w S π hev hob
            refine ⟨_, h1, ?_⟩
            simp only [if_true, relTV, relTVs]
            exact ⟨_, rfl, _, _, rfl, h2, _, _, rfl, by simp only [rel], rfl⟩
          · obtain ⟨rfl, rfl, rfl, rfl⟩ := ret4_inv h'
            refine opOk_pure fun a w S π hev hob => ?_
            obtain ⟨uv, h1, h2⟩ := main a w S π hev hob
            exact ⟨_, h1, by simpa only [Bool.false_eq_true, if_false, relTV] using h2⟩
        · cases h
      · rename_i p key z0 hz0
        obtain ⟨kvs, hm, h⟩ := bind_inv h
        · obtain ⟨r, hr, h'⟩ := bind_inv h
          have main : ∀ (a : Act) (w : World) (S : Nat → Prop) (π : Nat → Option Pl), evOk ev a w S π → ObsOk w S π look →
              ∃ uv, (execOp a.eval o).run P w = .ok (.value (if ok then .tuple #[uv, .bool r.isSome] else uv)) w ∧ rel w S (r.getD z0) uv := by
            intro a w S π hev hob
            have hv := hev X _ hx
            simp only [relTV] at hv
            have hkr := hev I _ hy
            simp only [relTV] at hkr
            refine main z0 kvs r a w S key hz0 hr hkr ?_
            rcases asMp_inv hm hv with h1 | ⟨b, e, _, ms, clock, hg, _, hkv⟩
            · exact .inl h1
            · exact .inr ⟨b, ms, clock, e, hg, hkv⟩
          split at h'
          · obtain ⟨rfl, rfl, rfl, rfl⟩ := ret4_inv h'
            refine opOk_pure fun a w S π hev hob => ?_
            obtain ⟨uv, h1, h2⟩ := main a w S π hev hob
            refine ⟨_, h1, ?_⟩
            simp only [if_true, relTV, relTVs]
            exact ⟨_, rfl, _, _, rfl, h2, _, _, rfl, by simp only [rel], rfl⟩
          · obtain ⟨rfl, rfl, rfl, rfl⟩ := ret4_inv h'
            refine opOk_pure fun a w S π hev hob => ?_
            obtain ⟨uv, h1, h2⟩ := main a w S π hev hob
            exact ⟨_, h1, by simpa only [Bool.false_eq_true, if_false, relTV] using h2⟩
      · cases h
    · cases h
  · cases h

/-- Behind a change a map's entries are the new list's. -/
theorem mset_ok {w : World} {S : Nat → Prop} {kt : TypeId} {d : TypeDesc} {key x : PV} {u z : Value} {clock : Nat} (hT : TOk P T) (hd : P.underlying kt = some d) (hu : rel w S key u) (hz : rel w S x z) : ∀ (kvs kvs' : List (PV × PV)) (es : List MapEntry) (i : Nat),
    mset T kt key x kvs = some kvs' → relKV w S kvs es → (Instr.findNow d u es i = some none ∧ relKV w S kvs' (es ++ [{ key := u, val := z, born := clock }])) ∨
      ∃ j e, Instr.findNow d u es i = some (some (i + j, e.val)) ∧ es[j]? = some e ∧ Instr.sameBits 10000 e.key u = true ∧ ∀ e', e'.key = u → e'.val = z → relKV w S kvs' (es.set j e')
  | [], kvs', es, i, h, hr => by
    simp only [mset, Option.some.injEq] at h
    simp only [relKV_nil] at hr
    subst h hr
    exact .inl ⟨rfl, by simp only [List.nil_append, relKV_cons, relKV_nil]; exact ⟨_, _, rfl, hu, hz, rfl⟩⟩
  | kv :: kvs, kvs', es, i, h, hr => by
    simp only [mset] at h
    obtain ⟨b, hb, h'⟩ := bind_inv h
    simp only [relKV_cons] at hr
    obtain ⟨e, es', rfl, hk, hv, hr'⟩ := hr
    obtain ⟨d', hd', hs, hsb⟩ := eqvT_now hT hb hu hk
    rw [hd] at hd'; cases hd'
    cases b with
    | true =>
      simp only [if_true, Option.some.injEq] at h'
      subst h'
      refine .inr ⟨0, e, by simp [Instr.findNow, hs], rfl, hsb rfl, fun e' h1 h2 => ?_⟩
      simp only [List.set_cons_zero, relKV_cons]
      exact ⟨_, _, rfl, by rw [h1]; exact hu, by rw [h2]; exact hz, hr'⟩
    | false =>
      simp only [Bool.false_eq_true, if_false] at h'
      obtain ⟨r, hr1, hr2⟩ := bind_inv h'
      simp only [Option.some.injEq] at hr2
      subst hr2
      rcases mset_ok (clock := clock) hT hd hu hz kvs r es' (i + 1) hr1 hr' with ⟨h1, h2⟩ | ⟨j, e0, h1, h2, h3, h4⟩
      · exact .inl ⟨by simp [Instr.findNow, hs, h1], by simp only [List.cons_append, relKV_cons]; exact ⟨_, _, rfl, hk, hv, h2⟩⟩
      · refine .inr ⟨j + 1, e0, by simp only [Instr.findNow, hs, h1]; congr 3; omega, by simpa using h2, h3, fun e' q1 q2 => ?_⟩
        simp only [List.set_cons_succ, relKV_cons]
        exact ⟨_, _, rfl, hk, hv, h4 e' q1 q2⟩

theorem stamps_push {es : Array MapEntry} {clock : Nat} (h : stamps es clock) {u z : Value} : stamps (es.push { key := u, val := z, born := clock }) (clock + 1) := by
  obtain ⟨h1, h2⟩ := h
  refine ⟨fun e he => ?_, ?_⟩
  · simp only [Array.toList_push, List.mem_append, List.mem_singleton] at he
    rcases he with he | rfl
    · have := h1 e he; omega
    · simp
  · simp only [Array.toList_push, List.pairwise_append, List.pairwise_cons, List.not_mem_nil, false_implies, implies_true, List.Pairwise.nil, and_self, true_and, List.mem_singleton]
    refine ⟨h2, fun e he e' he' => ?_⟩
    subst he'
    have := h1 e he
    simp only
    omega
theorem stamps_modify {es : Array MapEntry} {clock : Nat} (h : stamps es clock) {j : Nat} {f : MapEntry → MapEntry} (hf : ∀ e, (f e).born = e.born) : stamps (es.modify j f) clock := by
  obtain ⟨h1, h2⟩ := h
  have hget : ∀ (k : Nat) (e : MapEntry), (es.modify j f).toList[k]? = some e → ∃ e', es.toList[k]? = some e' ∧ e'.born = e.born := by
    intro k e he
    rw [Array.getElem?_toList, Array.getElem?_modify] at he
    split at he
    · cases hk : es[k]? with
      | none => rw [hk] at he; cases he
      | some x =>
        rw [hk] at he
        simp only [Option.map_some, Option.some.injEq] at he
        exact ⟨x, by rw [Array.getElem?_toList, hk], by rw [← he, hf]⟩
    · exact ⟨e, by rw [Array.getElem?_toList, he], rfl⟩
  refine ⟨fun e he => ?_, ?_⟩
  · obtain ⟨k, hk⟩ := List.mem_iff_getElem?.1 he
    obtain ⟨e', h3, h4⟩ := hget k e hk
    rw [← h4]
    exact h1 e' (List.mem_of_getElem? h3)
  · rw [List.pairwise_iff_getElem]
    intro a b ha hb hab
    obtain ⟨x, hx1, hx2⟩ := hget a _ (List.getElem?_eq_getElem ha)
    obtain ⟨y, hy1, hy2⟩ := hget b _ (List.getElem?_eq_getElem hb)
    rw [← hx2, ← hy2]
    obtain ⟨ha', e1⟩ := List.getElem?_eq_some_iff.1 hx1
    obtain ⟨hb', e2⟩ := List.getElem?_eq_some_iff.1 hy1
    rw [← e1, ← e2]
    exact (List.pairwise_iff_getElem.1 h2) a b ha' hb' hab

theorem mapUpdate_ok {t : TypeId} {M I X : Operand} {m i x : TV} (hT : TOk P T) (ho : o.op = .mapUpdate t M I X) (hm : ev M = some m) (hi : ev I = some i) (hx : ev X = some x) (h : mapUpdateK T look t m i x ret4 = some (v, up, nw, rd)) : OpOk P look nx ev o v up nw := by
  unfold mapUpdateK at h
  split at h
  · rename_i sz by' kt et z hti
    have hu := (hT t _ hti).desc
    simp only [descOk] at hu
    split at h
    · rename_i hpl
      simp only [Bool.and_eq_true] at hpl
      obtain ⟨hk1, ik, hik, hikd⟩ := plainT_ok hT hpl.1
      split at h
      · rename_i id key val
        split at h
        · rename_i kvs hl
          obtain ⟨r, hr, h'⟩ := bind_inv h
          obtain ⟨rfl, rfl, rfl, rfl⟩ := ret4_inv h'
          obtain ⟨dk, hdk⟩ : ∃ d, P.underlying kt = some d := by
            rcases hk1 with h | ⟨k, h⟩ | h <;> exact ⟨_, h⟩
          intro a w S π hev hob hf K Q hK
          have hv := hev M _ hm
          simp only [relTV] at hv
          obtain ⟨b, s, c', z', l', hp, he⟩ := hv
          have hkr := hev I _ hi
          simp only [relTV] at hkr
          have hxr := hev X _ hx
          simp only [relTV] at hxr
          obtain ⟨pl, hp', hk⟩ := hob.ok id _ hl
          rw [hp] at hp'; cases hp'
          simp only [obOk] at hk
          obtain ⟨es, clock, hg, hst, hkv⟩ := hk
          have hck : (Instr.checkKey false 10000 kt (a.eval I)).run P w = .ok () w := run_checkKey hk1 _ 9999 _ w
          have fin : ∀ (es' : Array MapEntry) (clock' : Nat) (w' : World), Upd w b (.map es' clock') w' → stamps es' clock' → relKV w S r es'.toList → (execOp a.eval o).run P w = .ok .skip w' → o.wp P a w K Q := by
            intro es' clock' w' hupd hst' hrel hrun
            obtain ⟨h1, h2⟩ := obs_turn (nx := nx) (ob' := .map r) hob hl rfl rfl hp hupd (fun hkeep => by simp only [obOk]; exact ⟨es', clock', hupd.here, hst', relKV_keep hkeep _ _ hrel⟩)
            unfold Oper.wp
            rw [hrun]
            refine hK (.tuple #[]) w' S π ⟨by simp only [relTV], h1, Ext.refl _, fun id h => .inl h, h2⟩
          rcases mset_ok (clock := clock) hT hdk hkr hxr kvs r es.toList 0 hr hkv with ⟨h1, h2⟩ | ⟨j, e, h1, h2, h3, h4⟩
          · obtain ⟨w', hw1, hw2⟩ := run_setObj_at (P := P) (y := .map (es.push { key := a.eval I, val := a.eval X, born := clock }) (clock + 1)) hg rfl
            refine fin _ _ w' hw2 (stamps_push hst) (by simpa using h2) ?_
            simp [execOp, ho, Instr.mapUpdate, run_underlying hu, he, run_getObj_at hg rfl, hck, Instr.findKey, run_underlying hdk, h1, hw1]
          · rw [Array.getElem?_toList] at h2
            obtain ⟨w', hw1, hw2⟩ := run_setObj_at (P := P) (y := .map (es.modify j fun e => { e with key := a.eval I, val := a.eval X }) clock) hg rfl
            refine fin _ _ w' hw2 (stamps_modify hst (fun _ => rfl)) ?_ ?_
            · have hj : j < es.size := (Array.getElem?_eq_some_iff.1 h2).1
              have : (es.modify j fun e => { e with key := a.eval I, val := a.eval X }).toList = es.toList.set j { e with key := a.eval I, val := a.eval X } := by
                apply List.ext_getElem?
                intro k
                rw [Array.getElem?_toList, Array.getElem?_modify, List.getElem?_set, Array.getElem?_toList]
                by_cases hk : j = k
                · subst hk
                  have he : es[j] = e := (Array.getElem?_eq_some_iff.1 h2).2
                  simp [hj, he]
                · simp [hk]
              rw [this]
              exact h4 _ rfl rfl
            · simp [execOp, ho, Instr.mapUpdate, run_underlying hu, he, run_getObj_at hg rfl, hck, Instr.findKey, run_underlying hdk, h1, h2, Instr.keyThatStays, h3, hw1]
        · cases h
      · cases h
    · cases h
  · cases h

end
end Go.Proofs.YtpaifgipdhgfkaaGreatDoorV
