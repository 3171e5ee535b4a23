/- The reading machine: how its values stand to the model's. -/
import Derived.Test.YtgpjnppakffoiaaVRun
namespace Go.Proofs.YtgpjnppakffoiaaV
open Go Go.RowKit

mutual
/-- A tree is what a value leads to; all memory that it leads to lies in blocks of S. -/
def rel (w : World) (S : Nat → Prop) : PV → Value → Prop
  | .bool b, v => v = .bool b
  | .int k n, v => v = .int k n
  | .str s, v => v = .string s
  | .fs es, v => ((∃ A, v = .slice A 0 0) ∧ es = []) ∨
      ∃ b o cap sz, v = .slice (some ⟨b, o, none⟩) es.length cap ∧ es.length ≤ cap ∧ cap ≤ maxLen ∧ S b ∧ relEs w S b o sz es
  | .os _ _, _ => False
  | .agg cs, v => ∃ us, v = .agg us ∧ (∀ u ∈ us.toList, u.oneCell' = true) ∧ relL w S cs us.toList
  | .tuple cs, v => ∃ us, v = .tuple us ∧ relL w S cs us.toList
  | .pnil, v => v = .pointer none
  | .rp cs off, v => ∃ b o, v = .pointer (some ⟨b, o + off, none⟩) ∧ S b ∧ relCs w S b o cs
  | .obj _, _ => False
  | .fn f caps, v => ∃ us, v = .func f #[] us ∧ relL w S caps us.toList
  | .fnil, v => v = .nilFunc
  | .mnil, v => v = .map none
  | .undef, _ => True
def relL (w : World) (S : Nat → Prop) : List PV → List Value → Prop
  | [], us => us = []
  | p :: ps, us => ∃ u us', us = u :: us' ∧ rel w S p u ∧ relL w S ps us'
def relCs (w : World) (S : Nat → Prop) (b o : Nat) : List PV → Prop
  | [] => True
  | p :: ps => (∃ u, w.cell? ⟨b, o, none⟩ = some u ∧ u.oneCell' = true ∧ rel w S p u) ∧ relCs w S b (o + 1) ps
def relEs (w : World) (S : Nat → Prop) (b o sz : Nat) : List (List PV) → Prop
  | [] => True
  | e :: es => e.length = sz ∧ relCs w S b o e ∧ relEs w S b (o + sz) sz es
end

/-- Where memory of the call's own lies: a row: its block, its begin, how many elements it may have, their cells, how many it has. -/
inductive Pl where
  | nil
  | at (b s cap sz len : Nat)

def Pl.blk : Pl → Option Nat | .nil => none | .at b _ _ _ _ => some b

mutual
def relTV (w : World) (S : Nat → Prop) (π : Nat → Option Pl) : TV → Value → Prop
  | .val p, v => rel w S p v
  | .nil _, v => v = .slice none 0 0
  | .ref id off, v => ∃ b s c z l, π id = some (.at b s c z l) ∧ v = .pointer (some ⟨b, s + off, none⟩)
  | .eref id i j, v => ∃ b s c z l, π id = some (.at b s c z l) ∧ v = .pointer (some ⟨b, s + i * z + j, none⟩)
  | .ow id, v => (π id = some .nil ∧ v = .slice none 0 0) ∨
      ∃ b s c z l a, π id = some (.at b s c z l) ∧ v = .slice (some a) l c ∧ (c = 0 ∨ a = ⟨b, s, none⟩)
  | .sl id off len cp, v => (π id = some .nil ∧ v = .slice none 0 0 ∧ off = 0 ∧ len = 0) ∨
      ∃ b s c z l a cv, π id = some (.at b s c z l) ∧ v = .slice (some a) len cv ∧ len ≤ cv ∧ (cv = 0 ∨ a = ⟨b, s + off * z, none⟩) ∧ off + cv ≤ c ∧ (cp = true → cv = len) ∧ off + len ≤ l
  | .vc es, v => rel w S (.fs es) v ∧ ∃ A, v = .slice A es.length es.length
  | .mp id, v => ∃ b s c z l, π id = some (.at b s c z l) ∧ v = .map (some b)
  | .it id, v => ∃ b s c z l, π id = some (.at b s c z l) ∧ v = .pointer (some ⟨b, 0, none⟩)
  | .agg cs, v => ∃ us, v = .agg us ∧ (∀ u ∈ us.toList, u.oneCell' = true) ∧ relTVs w S π cs us.toList
  | .tuple cs, v => ∃ us, v = .tuple us ∧ relTVs w S π cs us.toList
  | .fn f caps, v => ∃ us, v = .func f #[] us ∧ relTVs w S π caps us.toList
  | .undef, _ => True
def relTVs (w : World) (S : Nat → Prop) (π : Nat → Option Pl) : List TV → List Value → Prop
  | [], us => us = []
  | p :: ps, us => ∃ u us', us = u :: us' ∧ relTV w S π p u ∧ relTVs w S π ps us'
end

def relKV (w : World) (S : Nat → Prop) : List (PV × PV) → List MapEntry → Prop
  | [], es => es = []
  | kv :: kvs, es => ∃ e es', es = e :: es' ∧ rel w S kv.1 e.key ∧ rel w S kv.2 e.val ∧ relKV w S kvs es'

theorem rel_one {w : World} {S : Nat → Prop} {p : PV} {v : Value} (h : rel w S p v) (h1 : p.one = true) : v.oneCell' = true := by
  cases p <;> simp only [PV.one, Bool.false_eq_true] at h1 <;> simp only [rel] at h
  case fs => rcases h with ⟨⟨A, rfl⟩, _⟩ | ⟨b, o, cap, sz, rfl, _⟩ <;> rfl
  case rp => obtain ⟨b, o, rfl, _⟩ := h; rfl
  case fn => obtain ⟨us, rfl, _⟩ := h; rfl
  all_goals (subst h; rfl)
theorem relTV_one {w : World} {S : Nat → Prop} {π : Nat → Option Pl} {t : TV} {v : Value} (h : relTV w S π t v) (h1 : t.one = true) : v.oneCell' = true := by
  cases t <;> simp only [TV.one, Bool.false_eq_true] at h1 <;> simp only [relTV] at h
  case val => exact rel_one h h1
  case nil => subst h; rfl
  case ref => obtain ⟨b, s, c, z, l, _, rfl⟩ := h; rfl
  case eref => obtain ⟨b, s, c, z, l, _, rfl⟩ := h; rfl
  case ow => rcases h with ⟨_, rfl⟩ | ⟨b, s, c, z, l, a, _, rfl, _⟩ <;> rfl
  case sl => rcases h with ⟨_, rfl, _⟩ | ⟨b, s, c, z, l, a, cv, _, rfl, _⟩ <;> rfl
  case mp => obtain ⟨b, s, c, z, l, _, rfl⟩ := h; rfl
  case vc => obtain ⟨_, A, rfl⟩ := h; rfl
  case it => obtain ⟨b, s, c, z, l, _, rfl⟩ := h; rfl
  case fn => obtain ⟨us, rfl, _⟩ := h; rfl

def oneCells (C : Array Value) : Prop := ∀ u ∈ C.toList, u.oneCell' = true
/-- No cell of the row is one that a string shares. -/
def unfrozen (C : Array Value) (fr : Nat × Nat) : Prop := fr.1 = fr.2 ∨ C.size ≤ fr.1

def obOk (w : World) (S : Nat → Prop) (π : Nat → Option Pl) : Ob → Pl → Prop
  | .box cs, .at b s _ _ _ => s = 0 ∧ ∃ C t fr, w.heap[b]? = some (.cells C t fr) ∧ unfrozen C fr ∧ oneCells C ∧ relTVs w S π cs C.toList
  | .pbox p n, .at b s _ _ _ => s = 0 ∧ ∃ C t fr, w.heap[b]? = some (.cells C t fr) ∧ unfrozen C fr ∧ oneCells C ∧ C.size = n ∧ p.isAgg n = true ∧ rel w S p (.agg C)
  | .row es _, .nil => es = []
  | .row es sz, .at b s c z l => l = es.length ∧ z = sz ∧ l ≤ c ∧ c ≤ maxLen ∧
      ∃ C t fr, w.heap[b]? = some (.cells C t fr) ∧ unfrozen C fr ∧ oneCells C ∧ (c ≠ 0 → s + c * z ≤ C.size) ∧ relEs w S b s z es
  | .map kvs, .at b _ _ _ _ => ∃ es clock, w.heap[b]? = some (.map es clock) ∧ relKV w S kvs es.toList
  | .sit s pos, .at b _ _ _ _ => w.heap[b]? = some (.stringIter s pos)
  | .fro (.fs es), .nil => es = []
  | .fro (.fs es), .at b s c z l => l = es.length ∧ l ≤ c ∧ c ≤ maxLen ∧ S b ∧ relEs w S b s z es
  | .fro (.agg cs), .at b s _ _ _ => s = 0 ∧ S b ∧ relCs w S b 0 cs
  | .fro _, _ => False
  | .dead, _ => True
  | _, .nil => False

def Ob.live : Ob → Bool | .dead => false | .fro _ => false | _ => true

/-- The blocks that are the call's own now. -/
def owned (look : Nat → Option Ob) (π : Nat → Option Pl) (b : Nat) : Prop := ∃ id o pl, look id = some o ∧ o.live = true ∧ π id = some pl ∧ pl.blk = some b

structure ObsOk (w : World) (S : Nat → Prop) (π : Nat → Option Pl) (look : Nat → Option Ob) : Prop where
  ok : ∀ id o, look id = some o → ∃ pl, π id = some pl ∧ obOk w S π o pl
  apart : ∀ i j oi oj pi pj b, look i = some oi → look j = some oj → oi.live = true → oj.live = true → π i = some pi → π j = some pj → pi.blk = some b → pj.blk = some b → i = j
  out : ∀ b, owned look π b → ¬ S b ∧ b < w.heap.size
  st : ∀ b, S b → b < w.heap.size

/-- From one world to a later one: S stays as it was. -/
structure Keep (w : World) (S : Nat → Prop) (w' : World) (S' : Nat → Prop) : Prop where
  same : ∀ b, S b → w'.heap[b]? = w.heap[b]?
  sub : ∀ b, S b → S' b

structure Step (w : World) (S O : Nat → Prop) (w' : World) (S' O' : Nat → Prop) : Prop where
  os : w'.os = w.os
  tape : w'.tape = w.tape
  output : w'.output = w.output
  size : w.heap.size ≤ w'.heap.size
  same : ∀ b, b < w.heap.size → ¬ O b → w'.heap[b]? = w.heap[b]?
  sub : ∀ b, S b → S' b
  stab : ∀ b, S' b → S b ∨ O b ∨ w.heap.size ≤ b
  own : ∀ b, O' b → O b ∨ w.heap.size ≤ b

theorem Step.refl (w : World) (S O : Nat → Prop) : Step w S O w S O := ⟨rfl, rfl, rfl, Nat.le_refl _, fun _ _ _ => rfl, fun _ h => h, fun _ h => .inl h, fun _ h => .inl h⟩

theorem Step.trans {w w1 w2 : World} {S O S1 O1 S2 O2 : Nat → Prop} (h : Step w S O w1 S1 O1) (k : Step w1 S1 O1 w2 S2 O2) : Step w S O w2 S2 O2 where
  os := k.os.trans h.os
  tape := k.tape.trans h.tape
  output := k.output.trans h.output
  size := Nat.le_trans h.size k.size
  same b hb ho := (k.same b (Nat.lt_of_lt_of_le hb h.size) (fun h1 => (h.own b h1).elim ho (fun h2 => by omega))).trans (h.same b hb ho)
  sub b hb := k.sub b (h.sub b hb)
  stab b hb := by
    rcases k.stab b hb with h1 | h1 | h1
    · exact h.stab b h1
    · exact .inr (h.own b h1)
    · exact .inr (.inr (Nat.le_trans h.size h1))
  own b hb := by
    rcases k.own b hb with h1 | h1
    · exact h.own b h1
    · exact .inr (Nat.le_trans h.size h1)

theorem cell_same {w w' : World} {b o : Nat} (h : w'.heap[b]? = w.heap[b]?) : w'.cell? ⟨b, o, none⟩ = w.cell? ⟨b, o, none⟩ := World.cell?_of_block (w := w) h

mutual
theorem rel_keep {w w' : World} {S S' : Nat → Prop} (h : Keep w S w' S') : ∀ (p : PV) (v : Value), rel w S p v → rel w' S' p v
  | .bool _, _, r => r
  | .int _ _, _, r => r
  | .str _, _, r => r
  | .fs es, v, r => by
    simp only [rel] at r ⊢
    rcases r with r | ⟨b, o, cap, sz, hv, hl, hc, hS, he⟩
    · exact .inl r
    · exact .inr ⟨b, o, cap, sz, hv, hl, hc, h.sub b hS, relEs_keep h es b o sz (h.same b hS) he⟩
  | .os _ _, _, r => by simp only [rel] at r
  | .agg cs, v, r => by
    simp only [rel] at r ⊢
    obtain ⟨us, hv, h1, hl⟩ := r
    exact ⟨us, hv, h1, relL_keep h cs _ hl⟩
  | .tuple cs, v, r => by
    simp only [rel] at r ⊢
    obtain ⟨us, hv, hl⟩ := r
    exact ⟨us, hv, relL_keep h cs _ hl⟩
  | .pnil, _, r => r
  | .rp cs off, v, r => by
    simp only [rel] at r ⊢
    obtain ⟨b, o, hv, hS, hc⟩ := r
    exact ⟨b, o, hv, h.sub b hS, relCs_keep h cs b o (h.same b hS) hc⟩
  | .obj _, _, r => by simp only [rel] at r
  | .fn f caps, v, r => by
    simp only [rel] at r ⊢
    obtain ⟨us, hv, hl⟩ := r
    exact ⟨us, hv, relL_keep h caps _ hl⟩
  | .fnil, _, r => r
  | .mnil, _, r => r
  | .undef, _, _ => by simp only [rel]
theorem relL_keep {w w' : World} {S S' : Nat → Prop} (h : Keep w S w' S') : ∀ (ps : List PV) (us : List Value), relL w S ps us → relL w' S' ps us
  | [], _, r => r
  | p :: ps, us, r => by
    simp only [relL] at r ⊢
    obtain ⟨u, us', hu, h1, h2⟩ := r
    exact ⟨u, us', hu, rel_keep h p u h1, relL_keep h ps us' h2⟩
theorem relCs_keep {w w' : World} {S S' : Nat → Prop} (h : Keep w S w' S') : ∀ (ps : List PV) (b o : Nat), w'.heap[b]? = w.heap[b]? → relCs w S b o ps → relCs w' S' b o ps
  | [], _, _, _, _ => by simp only [relCs]
  | p :: ps, b, o, hb, r => by
    simp only [relCs] at r ⊢
    obtain ⟨⟨u, hu, h1, hp⟩, h2⟩ := r
    exact ⟨⟨u, (cell_same hb).trans hu, h1, rel_keep h p u hp⟩, relCs_keep h ps b (o + 1) hb h2⟩
theorem relEs_keep {w w' : World} {S S' : Nat → Prop} (h : Keep w S w' S') : ∀ (es : List (List PV)) (b o sz : Nat), w'.heap[b]? = w.heap[b]? → relEs w S b o sz es → relEs w' S' b o sz es
  | [], _, _, _, _, _ => by simp only [relEs]
  | e :: es, b, o, sz, hb, r => by
    simp only [relEs] at r ⊢
    obtain ⟨h1, h2, h3⟩ := r
    exact ⟨h1, relCs_keep h e b o hb h2, relEs_keep h es b (o + sz) sz hb h3⟩
end

/-- Later places: those that there were, and more. -/
def Ext (π π' : Nat → Option Pl) : Prop := ∀ id pl, π id = some pl → π' id = some pl
theorem Ext.refl (π : Nat → Option Pl) : Ext π π := fun _ _ h => h
theorem Ext.trans {a b c : Nat → Option Pl} (h : Ext a b) (k : Ext b c) : Ext a c := fun i p hp => k i p (h i p hp)

mutual
theorem relTV_keep {w w' : World} {S S' : Nat → Prop} {π π' : Nat → Option Pl} (h : Keep w S w' S') (e : Ext π π') : ∀ (t : TV) (v : Value), relTV w S π t v → relTV w' S' π' t v
  | .val p, v, r => by simp only [relTV] at r ⊢; exact rel_keep h p v r
  | .nil _, _, r => r
  | .ref id off, v, r => by
    simp only [relTV] at r ⊢
    obtain ⟨b, s, c, z, l, hp, hv⟩ := r
    exact ⟨b, s, c, z, l, e _ _ hp, hv⟩
  | .eref id i j, v, r => by
    simp only [relTV] at r ⊢
    obtain ⟨b, s, c, z, l, hp, hv⟩ := r
    exact ⟨b, s, c, z, l, e _ _ hp, hv⟩
  | .ow id, v, r => by
    simp only [relTV] at r ⊢
    rcases r with ⟨hp, hv⟩ | ⟨b, s, c, z, l, a, hp, hv⟩
    · exact .inl ⟨e _ _ hp, hv⟩
    · exact .inr ⟨b, s, c, z, l, a, e _ _ hp, hv⟩
  | .sl id off len cp, v, r => by
    simp only [relTV] at r ⊢
    rcases r with ⟨hp, hv⟩ | ⟨b, s, c, z, l, a, cv, hp, hv⟩
    · exact .inl ⟨e _ _ hp, hv⟩
    · exact .inr ⟨b, s, c, z, l, a, cv, e _ _ hp, hv⟩
  | .vc es, v, r => by
    simp only [relTV] at r ⊢
    exact ⟨rel_keep h _ v r.1, r.2⟩
  | .mp id, v, r => by
    simp only [relTV] at r ⊢
    obtain ⟨b, s, c, z, l, hp, hv⟩ := r
    exact ⟨b, s, c, z, l, e _ _ hp, hv⟩
  | .it id, v, r => by
    simp only [relTV] at r ⊢
    obtain ⟨b, s, c, z, l, hp, hv⟩ := r
    exact ⟨b, s, c, z, l, e _ _ hp, hv⟩
  | .agg cs, v, r => by
    simp only [relTV] at r ⊢
    obtain ⟨us, hv, h1, hl⟩ := r
    exact ⟨us, hv, h1, relTVs_keep h e cs _ hl⟩
  | .tuple cs, v, r => by
    simp only [relTV] at r ⊢
    obtain ⟨us, hv, hl⟩ := r
    exact ⟨us, hv, relTVs_keep h e cs _ hl⟩
  | .fn f caps, v, r => by
    simp only [relTV] at r ⊢
    obtain ⟨us, hv, hl⟩ := r
    exact ⟨us, hv, relTVs_keep h e caps _ hl⟩
  | .undef, _, _ => by simp only [relTV]
theorem relTVs_keep {w w' : World} {S S' : Nat → Prop} {π π' : Nat → Option Pl} (h : Keep w S w' S') (e : Ext π π') : ∀ (ts : List TV) (us : List Value), relTVs w S π ts us → relTVs w' S' π' ts us
  | [], _, r => r
  | p :: ps, us, r => by
    simp only [relTVs] at r ⊢
    obtain ⟨u, us', hu, h1, h2⟩ := r
    exact ⟨u, us', hu, relTV_keep h e p u h1, relTVs_keep h e ps us' h2⟩
end

theorem relKV_keep {w w' : World} {S S' : Nat → Prop} (h : Keep w S w' S') : ∀ (kvs : List (PV × PV)) (es : List MapEntry), relKV w S kvs es → relKV w' S' kvs es
  | [], _, r => r
  | kv :: kvs, es, r => by
    simp only [relKV] at r ⊢
    obtain ⟨e, es', he, h1, h2, h3⟩ := r
    exact ⟨e, es', he, rel_keep h _ _ h1, rel_keep h _ _ h2, relKV_keep h kvs es' h3⟩

theorem obOk_keep {w w' : World} {S S' : Nat → Prop} {π π' : Nat → Option Pl} (h : Keep w S w' S') (e : Ext π π') (o : Ob) (pl : Pl)
    (hb : o.live = true → ∀ b, pl.blk = some b → w'.heap[b]? = w.heap[b]?) (r : obOk w S π o pl) : obOk w' S' π' o pl := by
  cases hlv : o.live with
  | false =>
    cases o <;> simp only [Ob.live, Bool.true_eq_false] at hlv
    · rename_i p
      cases pl <;> cases p <;> simp only [obOk] at r ⊢
      · exact r
      · obtain ⟨h1, h2, h3, h4, h5⟩ := r
        exact ⟨h1, h2, h3, h.sub _ h4, relEs_keep h _ _ _ _ (h.same _ h4) h5⟩
      · obtain ⟨h1, h4, h5⟩ := r
        exact ⟨h1, h.sub _ h4, relCs_keep h _ _ _ (h.same _ h4) h5⟩
    · simp only [obOk]
  | true =>
  have hb := hb hlv
  cases pl with
  | nil => cases o <;> simp only [Ob.live, Bool.false_eq_true] at hlv <;> simp only [obOk] at r ⊢ <;> exact r
  | «at» b s c z l =>
    have hb' := hb b rfl
    cases o <;> simp only [Ob.live, Bool.false_eq_true] at hlv <;> simp only [obOk] at r ⊢
    case box cs =>
      obtain ⟨h0, C, t, fr, h1, h2, h3, h4⟩ := r
      exact ⟨h0, C, t, fr, hb'.trans h1, h2, h3, relTVs_keep h e _ _ h4⟩
    case pbox p n =>
      obtain ⟨h0, C, t, fr, h1, h2, h3, h4, h5, h6⟩ := r
      exact ⟨h0, C, t, fr, hb'.trans h1, h2, h3, h4, h5, rel_keep h _ _ h6⟩
    case row es sz =>
      obtain ⟨h1, h2, h3, h4, C, t, fr, h5, h6, h7, h8, h9⟩ := r
      exact ⟨h1, h2, h3, h4, C, t, fr, hb'.trans h5, h6, h7, h8, relEs_keep h _ _ _ _ hb' h9⟩
    case map kvs =>
      obtain ⟨es, clock, h1, h2⟩ := r
      exact ⟨es, clock, hb'.trans h1, relKV_keep h _ _ h2⟩
    case sit => exact hb'.trans r

end Go.Proofs.YtgpjnppakffoiaaV
