/- The reading machine: every operation is told rightly. -/
import Derived.Test.YtgpjnppakffoiaaVNat
namespace Go.Proofs.YtgpjnppakffoiaaV
open Go Go.RowKit

section
variable {P : Program} {T : TypeId → Option TI} {G : Nat → Option (List PV)} {Γ : FuncId → Option Ctr} {look : Nat → Option Ob} {nx : Nat} {ev : Operand → Option TV} {o : Oper} {v : TV} {up : List (Nat × Ob)} {nw : List Ob} {rd : List Nat}

theorem gok_of {a : Act} {w : World} {S : Nat → Prop} {π : Nat → Option Pl} (hG : ∀ g cs, G g = some cs → ev (.global g) = some (.val (.rp cs 0))) (hev : evOk ev a w S π) : GOk G w S := by
  intro g cs hg
  have := hev _ _ (hG g cs hg)
  simp only [relTV, rel, Act.eval, Value.pointer.injEq, Option.some.injEq, Addr.mk.injEq, Nat.add_zero, and_true] at this
  obtain ⟨b, o, ⟨rfl, rfl⟩, h1, h2⟩ := this
  exact ⟨h1, h2⟩

theorem relTVs_map_val {w : World} {S : Nat → Prop} {π : Nat → Option Pl} {ps : List PV} {us : List Value} (h : relL w S ps us) : relTVs w S π (ps.map .val) us := relTVs_vals h

theorem call_ok {c : Call} {F : Operand} {args caps : List TV} {g : FuncId} (hΓ : ∀ g c, Γ g = some c → Holds P G g c) (hG : ∀ g cs, G g = some cs → ev (.global g) = some (.val (.rp cs 0))) (ho : o.op = .call c) (hc : c.callee = .value F) (hargs : allSome (c.args.toList.map ev) = some args)
    (hF : ∀ (a : Act) (w : World) (S : Nat → Prop) (π : Nat → Option Pl), evOk ev a w S π → ∃ us, a.eval F = .func (.func g) #[] us ∧ relTVs w S π caps us.toList)
    (h : callK Γ look nx g (args ++ caps) (resK T o.type ret4) = some (v, up, nw, rd)) : OpOk P look nx ev o v up nw := by
  intro a w S π hev hob hf K Q hK
  obtain ⟨us, he, hcaps⟩ := hF a w S π hev
  have hrel := relTVs_append (evOk_all hev hargs) hcaps
  cases hg : Γ g with
  | none => unfold callK at h; rw [hg] at h; cases h
  | some ct =>
    have happ := apply_ok hg (hΓ g ct hg) h (gok_of hG hev) hrel hob hf
    have hexec : (execOp a.eval o).run P w = (callFunc g (c.args.map a.eval ++ us)).run P w := by
      simp [execOp, ho, resolve, hc, he, Deferred.ofValue, invoke]
    have harr : (List.map a.eval c.args.toList ++ us.toList).toArray = c.args.map a.eval ++ us := by
      apply Array.ext'
      simp
    rw [harr] at happ
    unfold Oper.wp
    rw [hexec]
    unfold Applies at happ
    split at happ
    · rename_i g' as w' hr
      rw [hr]
      refine happ.mono fun e w'' ⟨u, h1, S', π', h2⟩ => ?_
      subst h1
      exact hK u w'' S' π' h2
    · rename_i u w' hr
      rw [hr]
      obtain ⟨S', π', h2⟩ := happ
      exact hK u w' S' π' h2
    · exact happ.elim

theorem op_ok (hT : TOk P T) (hΓ : ∀ g c, Γ g = some c → Holds P G g c) (hG : ∀ g cs, G g = some cs → ev (.global g) = some (.val (.rp cs 0))) (h : opK T Γ look nx ev o.op o.type ret4 = some (v, up, nw, rd)) : OpOk P look nx ev o v up nw := by
  unfold opK at h
  split at h
  · rename_i x hop
    split at h
    · rename_i tv hx; exact move_ok (.inl hop) hx h
    · cases h
  · rename_i x hop
    split at h
    · rename_i tv hx; exact move_ok (.inr hop) hx h
    · cases h
  · rename_i c a b hop
    split at h
    · rename_i p u v' hc ha hb; exact pick_ok hop hc ha hb h
    · cases h
  · rename_i t hop
    split at h
    · rename_i i hi; exact alloc_ok hT hop hi h
    · cases h
  · rename_i t x hop
    split at h
    · rename_i tv i hx hi
      split at h
      · rename_i ob hb; exact box_ok hT hop hx hb (by rw [hi]; rfl) h
      · cases h
    · cases h
  · rename_i t x hop
    split at h
    · rename_i tv i hx hi; exact load_ok hT hop hx (by rw [hi]; rfl) h
    · cases h
  · rename_i t x y hop
    split at h
    · rename_i tv u i hx hy hi
      exact store_ok hT hop hx (fun a w S π hev => fixNil_rel (hev y _ hy)) (by rw [hi]; rfl) h
    · cases h
  · rename_i x hop
    split at h
    · rename_i i j hx; exact nilCheck_ok hop hx (.inl ⟨_, _, rfl⟩) h
    · rename_i i j m hx; exact nilCheck_ok hop hx (.inr (.inl ⟨_, _, _, rfl⟩)) h
    · rename_i cs off hx; exact nilCheck_ok hop hx (.inr (.inr (.inl ⟨_, _, rfl⟩))) h
    · rename_i f cs hx; exact nilCheck_ok hop hx (.inr (.inr (.inr (.inl ⟨_, _, rfl⟩)))) h
    · rename_i f cs hx; exact nilCheck_ok hop hx (.inr (.inr (.inr (.inr ⟨_, _, rfl⟩)))) h
    · cases h
  · rename_i op xt x y yt hop
    split at h
    · rename_i u u' hx hy; exact bin_ok hT hop hx hy h
    · cases h
  · rename_i op xt x hop
    split at h
    · rename_i u hx; exact un_ok hop hx h
    · cases h
  · rename_i src dst x hop
    split at h
    · rename_i u hx; exact convert_ok hT hop hx h
    · cases h
  · rename_i fn first caps hop
    split at h
    · rename_i vs hf hc; exact makeFunc_ok hop hf hc h
    · cases h
  · rename_i t hop; exact makeMap_ok hop h
  · rename_i t l c hop
    split at h
    · rename_i u u' hx hy; exact makeSlice_ok hT hop hx hy h
    · cases h
  · rename_i t x lo hi mx hop
    split at h
    · rename_i u l m n hx hl hm hn; exact slice_ok hT hop hx hl hm hn h
    · cases h
  · rename_i t x f hop
    split at h
    · rename_i u hx; exact fieldAddr_ok hT hop hx h
    · cases h
  · rename_i t x f hop
    split at h
    · rename_i u hx; exact field_ok hT hop hx h
    · cases h
  · rename_i t x i hop
    split at h
    · rename_i u u' hx hy; exact indexAddr_ok hT hop hx hy h
    · cases h
  · rename_i t x i hop
    split at h
    · rename_i u u' hx hy; exact index_ok hT hop hx hy h
    · cases h
  · rename_i t x i ok hop
    split at h
    · rename_i u u' hx hy; exact lookup_ok hT hop hx hy h
    · cases h
  · rename_i t m i x hop
    split at h
    · rename_i u u' u'' hx hy hz; exact mapUpdate_ok hT hop hx hy hz h
    · cases h
  · rename_i t parts hop; exact build_ok hT hop h
  · rename_i t n parts hop; exact buildSlice_ok hT hop h
  · rename_i t x hop
    split at h
    · rename_i i1 i2 i3 p hi hx
      obtain ⟨s, hs, h'⟩ := bind_inv h
      cases asS_inv hs
      exact range_ok hT hop hi hx h'
    · cases h
  · rename_i x hop
    split at h
    · rename_i u hx; exact next_ok hop hx h
    · cases h
  · rename_i x i hop
    cases hx : ev x with
    | none => rw [hx] at h; simp only [reduceCtorEq] at h
    | some u =>
      rw [hx] at h
      refine extract_ok (T := T) (rd := rd) hop hx ?_
      cases u <;> exact h
  · rename_i c hop
    split at h
    · rename_i x t ts hc hx ht; exact len_ok hT hop hc hx ht h
    · rename_i x y t u ts hc hx ht; exact append_ok hT hop hc hx ht h
    · rename_i p q t ts hc hx ht
      split at h
      · exact min_ok hop hc hx h
      · cases h
    · rename_i p q t ts hc hx ht
      split at h
      · exact max_ok hop hc hx h
      · cases h
    · rename_i F args hc hx
      split at h
      · rename_i g caps hF
        refine call_ok hΓ hG hop hc hx (fun a w S π hev => ?_) h
        have := hev F _ hF
        simp only [relTV, rel] at this
        obtain ⟨us, he, hr⟩ := this
        exact ⟨us, he, relTVs_vals hr⟩
      · rename_i g caps hF
        refine call_ok hΓ hG hop hc hx (fun a w S π hev => ?_) h
        have := hev F _ hF
        simp only [relTV] at this
        exact this
      · cases h
    · cases h
  · cases h

end
end Go.Proofs.YtgpjnppakffoiaaV
