/- The reading machine: a function is as its code says. -/
import Derived.Test.YtgpjnppakffoiaaVCode
namespace Go.Proofs.YtgpjnppakffoiaaV
open Go Go.RowKit

section
variable {w : World} {S S' : Nat → Prop}
mutual
theorem noMem_rel : ∀ (p : PV) (v : Value), rel w S p v → noMem p = true → rel w S' p v
  | .bool _, v, h, _ => by simp only [rel] at h ⊢; exact h
  | .int _ _, v, h, _ => by simp only [rel] at h ⊢; exact h
  | .str _, v, h, _ => by simp only [rel] at h ⊢; exact h
  | .fs _, v, h, hn => by simp [noMem] at hn
  | .os _ _, v, h, _ => by simp only [rel] at h
  | .agg cs, v, h, hn => by
    simp only [rel] at h ⊢
    simp only [noMem] at hn
    obtain ⟨us, h1, h2, h3⟩ := h
    exact ⟨us, h1, h2, noMem_relL cs _ h3 hn⟩
  | .tuple cs, v, h, hn => by
    simp only [rel] at h ⊢
    simp only [noMem] at hn
    obtain ⟨us, h1, h3⟩ := h
    exact ⟨us, h1, noMem_relL cs _ h3 hn⟩
  | .pnil, v, h, _ => by simp only [rel] at h ⊢; exact h
  | .rp _ _, v, h, hn => by simp [noMem] at hn
  | .obj _, v, h, _ => by simp only [rel] at h
  | .fn f cs, v, h, hn => by
    simp only [rel] at h ⊢
    simp only [noMem] at hn
    obtain ⟨us, h1, h3⟩ := h
    exact ⟨us, h1, noMem_relL cs _ h3 hn⟩
  | .fnil, v, h, _ => by simp only [rel] at h ⊢; exact h
  | .mnil, v, h, _ => by simp only [rel] at h ⊢; exact h
  | .undef, v, h, _ => by simp only [rel]
theorem noMem_relL : ∀ (ps : List PV) (us : List Value), relL w S ps us → noMemL ps = true → relL w S' ps us
  | [], us, h, _ => by simp only [relL] at h ⊢; exact h
  | p :: ps, us, h, hn => by
    simp only [relL] at h ⊢
    simp only [noMemL, Bool.and_eq_true] at hn
    obtain ⟨u, us', h1, h2, h3⟩ := h
    exact ⟨u, us', h1, noMem_rel p u h2 hn.1, noMem_relL ps us' h3 hn.2⟩
end
theorem noMem_cs : ∀ (ps : List PV) (b o : Nat), relCs w S b o ps → noMemL ps = true → relCs w S' b o ps
  | [], _, _, _, _ => by simp only [relCs]
  | p :: ps, b, o, h, hn => by
    simp only [relCs] at h ⊢
    simp only [noMemL, Bool.and_eq_true] at hn
    obtain ⟨⟨u, h1, h2, h3⟩, h4⟩ := h
    exact ⟨⟨u, h1, h2, noMem_rel p u h3 hn.1⟩, noMem_cs ps b _ h4 hn.2⟩
theorem noMem_es : ∀ (es : List (List PV)) (b o sz : Nat), relEs w S b o sz es → noMemEs es = true → relEs w S' b o sz es
  | [], _, _, _, _, _ => by simp only [relEs]
  | e :: es, b, o, sz, h, hn => by
    simp only [relEs] at h ⊢
    simp only [noMemEs, Bool.and_eq_true] at hn
    obtain ⟨h1, h2, h3⟩ := h
    exact ⟨h1, noMem_cs e b o h2 hn.1, noMem_es es b _ sz h3 hn.2⟩
mutual
theorem noMem_own : ∀ (sh : Shp) (p : PV) (v : Value) (f : List Nat), ownS w S sh p v f → noMem p = true → ownS w S' sh p v f
  | .d, p, v, f, h, hn => by simp only [ownS] at h ⊢; exact ⟨h.1, noMem_rel p v h.2 hn⟩
  | .s, p, v, f, h, hn => by
    simp only [ownS] at h ⊢
    obtain ⟨es, sz, rfl, h1⟩ := h
    simp only [noMem] at hn
    refine ⟨es, sz, rfl, ?_⟩
    rcases h1 with h1 | ⟨b, s, c, a, C, t, fr, h1, h2, h3, h4, h5, h6, h7, h8, h9, h10⟩
    · exact .inl h1
    · exact .inr ⟨b, s, c, a, C, t, fr, h1, h2, h3, h4, h5, h6, h7, h8, h9, noMem_es es b s sz h10 hn⟩
  | .o shs, p, v, f, h, hn => by
    simp only [ownS] at h ⊢
    obtain ⟨cs, b, C, t, fr, fp', rfl, h1, h2, h3, h4, h5, h6⟩ := h
    simp only [noMem] at hn
    exact ⟨cs, b, C, t, fr, fp', rfl, h1, h2, h3, h4, h5, noMem_ownL shs cs _ _ h6 hn⟩
  | .a shs, p, v, f, h, hn => by
    simp only [ownS] at h ⊢
    obtain ⟨cs, us, rfl, h1, h2, h3⟩ := h
    simp only [noMem] at hn
    exact ⟨cs, us, rfl, h1, h2, noMem_ownL shs cs _ _ h3 hn⟩
  | .t shs, p, v, f, h, hn => by
    simp only [ownS] at h ⊢
    obtain ⟨cs, us, rfl, h1, h3⟩ := h
    simp only [noMem] at hn
    exact ⟨cs, us, rfl, h1, noMem_ownL shs cs _ _ h3 hn⟩
theorem noMem_ownL : ∀ (shs : List Shp) (ps : List PV) (us : List Value) (f : List Nat), ownL w S shs ps us f → noMemL ps = true → ownL w S' shs ps us f
  | [], ps, us, f, h, _ => by simp only [ownL] at h ⊢; exact h
  | sh :: shs, ps, us, f, h, hn => by
    simp only [ownL] at h ⊢
    obtain ⟨p, ps', u, us', f1, f2, rfl, h1, h2, h3, h4⟩ := h
    simp only [noMemL, Bool.and_eq_true] at hn
    exact ⟨p, ps', u, us', f1, f2, rfl, h1, h2, noMem_own sh p u f1 h3 hn.1, noMem_ownL shs ps' us' f2 h4 hn.2⟩
end

theorem args_own : ∀ {ms : List (Option (Shp × Bool))} {ps : List PV} {us : List Value} {fps : List (List Nat)}, argsOk w S ms ps us fps → ownL w S (ms.map shOf) ps us fps.flatten
  | [], ps, us, fps, h => by
    simp only [argsOk] at h
    obtain ⟨rfl, rfl, rfl⟩ := h
    simp [ownL]
  | none :: ms, ps, us, fps, h => by
    simp only [argsOk] at h
    obtain ⟨p, ps', u, us', rfl, rfl, h1, h2⟩ := h
    simp only [List.map_cons, shOf, ownL]
    exact ⟨p, ps', u, us', [], fps.flatten, rfl, rfl, rfl, by simp only [ownS]; exact ⟨trivial, h1⟩, args_own h2⟩
  | some m :: ms, ps, us, fps, h => by
    simp only [argsOk] at h
    obtain ⟨p, ps', u, us', f, fps', rfl, rfl, rfl, h1, h2⟩ := h
    simp only [List.map_cons, shOf, ownL]
    exact ⟨p, ps', u, us', f, fps'.flatten, rfl, rfl, by simp, h1, args_own h2⟩

theorem backs_rel {π : Nat → Option Pl} : ∀ {ms : List (Option (Shp × Bool))} {vs : List TV} {us : List Value}, relTVs w S π vs us → relTVs w S π (backs ms vs) (backs ms us)
  | [], vs, us, h => by
    have : ∀ {α : Type} (l : List α), backs ([] : List (Option (Shp × Bool))) l = [] := by intro α l; cases l <;> rfl
    rw [this, this]; simp only [relTVs]
  | m :: ms, [], us, h => by
    simp only [relTVs] at h
    subst h
    have : ∀ {α : Type}, backs (m :: ms) ([] : List α) = [] := by intro α; cases m with | none => rfl | some m => obtain ⟨a, b⟩ := m; cases b <;> rfl
    rw [this, this]; simp only [relTVs]
  | none :: ms, v :: vs, us, h => by
    simp only [relTVs] at h
    obtain ⟨u, us', rfl, h1, h2⟩ := h
    simp only [backs]
    exact backs_rel h2
  | some (_, false) :: ms, v :: vs, us, h => by
    simp only [relTVs] at h
    obtain ⟨u, us', rfl, h1, h2⟩ := h
    simp only [backs]
    exact backs_rel h2
  | some (_, true) :: ms, v :: vs, us, h => by
    simp only [relTVs] at h
    obtain ⟨u, us', rfl, h1, h2⟩ := h
    simp only [backs, relTVs]
    exact ⟨u, _, rfl, h1, backs_rel h2⟩
end

section
variable {P : Program} {T : TypeId → Option TI} {G : Nat → Option (List PV)} {Γ : FuncId → Option Ctr} {us0 : Rts}

theorem cell_ok (hT : TOk P T) {w : World} {S : Nat → Prop} {π : Nat → Option Pl} {a : Act} {s : St} (hn : Now G us0 w S π a s) {t : TypeId} {i : TI} {v x : TV} {u : Value} (hi : T t = some i) (hr : relTV w S π v u) (h : cellTV T s t v = some x) :
    ∃ y, (do loadVar t (← asAddr u) : Sem Value).run P w = .ok y w ∧ relTV w S π x y := by
  unfold cellTV at h
  split at h
  · rename_i id off
    simp only [relTV] at hr
    obtain ⟨b, s0, c, z, l, hp, rfl⟩ := hr
    have has : ∀ ad : Addr, (asAddr (.pointer (some ad))).run P w = .ok ad w := fun ad => rfl
    split at h
    · rename_i cs hl
      obtain ⟨pl, hp', hk⟩ := hn.ob.ok id _ hl
      rw [hp] at hp'; cases hp'
      simp only [obOk] at hk
      obtain ⟨rfl, C, ct, fr, hg, hu, ho, hre⟩ := hk
      rw [isAggT_eq hi, tsize_eq hi] at h
      have hlen := relTVs_length hre
      cases hd : i.desc.isAgg with
      | true =>
        rw [hd, if_pos rfl] at h
        split at h
        · rename_i hle
          cases h
          have hre2 := relTVs_take (relTVs_drop hre off) i.size
          refine ⟨_, ?_, packTV_rel hre2 (fun u hu => ho u (List.mem_of_mem_drop (List.mem_of_mem_take hu)))⟩
          have hlt : ((C.toList.drop off).take i.size).length = i.size := by simp only [List.length_take, List.length_drop]; omega
          simp only [Sem.run_bind, has, Result.andThen_ok]
          rw [run_loadVar_agg (hT t i hi) hd ((C.toList.drop off).take i.size) hlt (fun j u hj => by
            rw [cell_of_row w b _ C ct fr hg, ← Array.getElem?_toList]
            rw [List.getElem?_take] at hj
            split at hj
            · rw [List.getElem?_drop] at hj
              rw [Nat.zero_add]; exact hj
            · cases hj)]
        · cases h
      | false =>
        rw [hd, if_neg (by simp)] at h
        obtain ⟨y, hy, hyr⟩ := relTVs_get hre h
        refine ⟨y, ?_, hyr⟩
        simp only [Sem.run_bind, has, Result.andThen_ok]
        rw [run_loadVar_one (hT t i hi) hd (by rw [cell_of_row w b _ C ct fr hg, ← Array.getElem?_toList, Nat.zero_add]; exact hy)]
    · rename_i p n hl
      obtain ⟨pl, hp', hk⟩ := hn.ob.ok id _ hl
      rw [hp] at hp'; cases hp'
      simp only [obOk] at hk
      obtain ⟨rfl, C, ct, fr, hg, hu, ho, hsz, hq, hre⟩ := hk
      rw [isAggT_eq hi, tsize_eq hi] at h
      cases hd : i.desc.isAgg with
      | false => rw [hd, if_neg (by simp)] at h; cases h
      | true =>
        rw [hd, if_pos rfl] at h
        split at h
        · rename_i hle
          cases h
          obtain ⟨rfl, hin⟩ := hle
          refine ⟨_, ?_, by simp only [relTV]; exact hre⟩
          simp only [Sem.run_bind, has, Result.andThen_ok]
          rw [run_loadVar_agg (hT t i hi) hd C.toList (by rw [Array.length_toList]; omega) (fun j u hj => by
            rw [cell_of_row w b _ C ct fr hg, ← Array.getElem?_toList, Nat.zero_add]; exact hj)]
        · cases h
    · cases h
  · cases h

/-- What a result is. -/
def resVal (tmps : Array Value) : ResultVar → Sem Value
  | .tmp t => pure (tmps.getD t undef)
  | .cell c t => do loadVar t (← asAddr (tmps.getD c undef))

theorem resTV_ok (hT : TOk P T) {w : World} {S : Nat → Prop} {π : Nat → Option Pl} {a : Act} {s : St} (hn : Now G us0 w S π a s) : ∀ (rs : List ResultVar) (vs : List TV), resTV T s rs = some vs →
    ∃ us, (rs.mapM (resVal a.tmps) : Sem (List Value)).run P w = .ok us w ∧ relTVs w S π vs us
  | [], vs, h => by
    simp only [resTV, Option.some.injEq] at h
    subst h
    exact ⟨[], by simp, by simp only [relTVs]⟩
  | .tmp t :: rs, vs, h => by
    simp only [resTV] at h
    split at h
    · rename_i v vs' hv hvs
      cases h
      obtain ⟨us, h1, h2⟩ := resTV_ok hT hn rs vs' hvs
      refine ⟨_, ?_, by simp only [relTVs]; exact ⟨_, us, rfl, hn.tm t v hv, h2⟩⟩
      simp only [List.mapM_cons, resVal, Sem.run_bind, Sem.run_pure, Result.andThen_ok, h1]
    · cases h
  | .cell c t :: rs, vs, h => by
    simp only [resTV] at h
    split at h
    · rename_i v i vs' hv hi hvs
      split at h
      · rename_i u hu
        cases h
        obtain ⟨us, h1, h2⟩ := resTV_ok hT hn rs vs' hvs
        obtain ⟨y, h3, h4⟩ := cell_ok hT hn hi (hn.tm c v hv) hu
        refine ⟨_, ?_, by simp only [relTVs]; exact ⟨y, us, rfl, h4, h2⟩⟩
        rw [List.mapM_cons]
        simp only [resVal, Sem.run_bind] at h3 ⊢
        rw [h3]
        simp only [Result.andThen_ok, h1, Sem.run_pure]
      · cases h
    · cases h

end
end Go.Proofs.YtgpjnppakffoiaaV
