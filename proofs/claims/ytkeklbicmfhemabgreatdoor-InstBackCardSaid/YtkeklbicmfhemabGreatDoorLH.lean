/- What Go's library is asked it answers: the kit's contracts as the reading machine's. -/
import Derived.Test.YtkeklbicmfhemabGreatDoorDL
import Derived.Test.YtkeklbicmfhemabGreatDoorLS
namespace Go.Proofs.YtkeklbicmfhemabGreatDoorV
open Go Go.RowKit
set_option maxRecDepth 100000

theorem tabIs_go {P : Program} {G : Nat → Option (List PV)} {w : World} {S : Nat → Prop} {name : String} {k : IntKind} {zs : List Int} {g : Nat} (hgo : GOk G w S) (hg : P.globalNamed name = some g) (hG : G g = some (zs.map (PV.int k))) : Lib.TabIs P w name k zs := by
  obtain ⟨_, h1, C, t, fr, h2, h3⟩ := hgo g _ hG
  unfold Lib.TabIs World.var?
  rw [hg, Option.bind_some, h2]
  simp only [Option.some.injEq]
  apply Array.ext'
  apply List.ext_getElem?
  intro i
  rw [List.length_map] at h3
  simp only [List.getElem?_map]
  by_cases hi : i < zs.length
  · obtain ⟨u, hu, _, hr⟩ := relCs_get h1 (i := i) (p := PV.int k zs[i]) (by simp [List.getElem?_map, hi])
    rw [cell_of_row w g _ C t fr h2, Nat.zero_add] at hu
    simp only [rel] at hr
    rw [Array.getElem?_toList, hu, hr, List.getElem?_eq_getElem hi]
    rfl
  · rw [List.getElem?_eq_none (by simp; omega), List.getElem?_eq_none (by omega)]
    rfl
theorem wint_go {G : Nat → Option (List PV)} {w : World} {S : Nat → Prop} {k : IntKind} {g : Nat} (hgo : GOk G w S) (hG : G g = some [.wint k]) : ∃ m, w.cell? ⟨g, 0, none⟩ = some (.int k m) := by
  obtain ⟨_, h1, _⟩ := hgo g _ hG
  obtain ⟨u, hu, _, hr⟩ := relCs_get h1 (i := 0) rfl
  simp only [rel] at hr
  obtain ⟨m, rfl⟩ := hr
  exact ⟨m, hu⟩
theorem err_go {G : Nat → Option (List PV)} {w : World} {S : Nat → Prop} {g : Nat} (hgo : GOk G w S) (hG : G g = some [.err]) : ∃ ev, w.cell? ⟨g, 0, none⟩ = some ev ∧ (ev = .nilIface ∨ ∃ te pe, ev = .iface te pe) := by
  obtain ⟨_, h1, _⟩ := hgo g _ hG
  obtain ⟨u, hu, _, hr⟩ := relCs_get h1 (i := 0) rfl
  simp only [rel] at hr
  exact ⟨u, hu, .inr hr⟩

theorem rel_one_arg {w : World} {S : Nat → Prop} {p : PV} {us : List Value} (h : relL w S [p] us) : ∃ u, us = [u] ∧ rel w S p u := by
  simp only [relL] at h
  obtain ⟨u, us', rfl, h1, rfl⟩ := h
  exact ⟨u, rfl, h1⟩
theorem rel_two_args {w : World} {S : Nat → Prop} {p q : PV} {us : List Value} (h : relL w S [p, q] us) : ∃ u v, us = [u, v] ∧ rel w S p u ∧ rel w S q v := by
  simp only [relL] at h
  obtain ⟨u, us', rfl, h1, v, vs, rfl, h2, rfl⟩ := h
  exact ⟨u, v, rfl, h1, h2⟩
theorem below_grow (w : World) (k : Nat) (os : Array Obj) : Below w.heap.size w (Sort.grow (w.drewN k) os) :=
  ⟨rfl, rfl, rfl, by simp [Sort.grow, World.drewN], fun i hi => by
    show ((w.drewN k).heap ++ os)[i]? = _
    rw [Array.getElem?_append_left (by simpa [World.drewN] using hi)]
    rfl⟩
theorem below_drewN (w : World) (k : Nat) : Below w.heap.size w (w.drewN k) := ⟨rfl, rfl, rfl, Nat.le_refl _, fun _ _ => rfl⟩
theorem below_bytes (w : World) (e : TypeId) (s : ByteArray) : Below w.heap.size w (Lib.bytesWorld w e s) := Lib.bytesWorld_below w e s

theorem itoaS_all : Holds Tryz.prog G0 33 itoaS_C := by
  refine holds_lib Tryz.func33 rfl rfl (by simp [itoaS_C]) rfl fun w S ps us r outs hr hst hgo hx => ?_
  obtain ⟨y, hy, hx⟩ := bind_inv hx
  cases hx
  change itoaS_D ps = some y at hy
  unfold itoaS_D at hy
  split at hy
  case h_2 => cases hy
  rename_i n
  unfold sItoa at hy
  split at hy
  case isFalse => cases hy
  rename_i hn
  cases hy
  obtain ⟨u, rfl, hu⟩ := rel_one_arg hr
  simp only [rel] at hu
  subst hu
  have hn' := hn
  simp only [inI, decide_eq_true_eq] at hn'
  have htab : Lib.TabIs Tryz.prog w "internal/strconv.uint64pow10" .u64 Lib.pow10Tab := tabIs_go hgo (g := 3) (by kernel_rfl) (by kernel_rfl)
  refine ⟨rfl, (Tryz.strconv_Itoa n hn'.1 (by omega) w htab).mono ?_⟩
  rintro e w' ⟨rfl, k, os, rfl⟩
  refine ⟨_, rfl, below_grow _ _ _, fun _ => False, fun b h => h.elim, fun S'' _ => ?_⟩
  rw [dig_itoa hn]
  simp only [itoaS_E, rel]
  rfl

theorem atoiS_all : Holds Tryz.prog G0 41 atoiS_C := by
  refine holds_lib Tryz.func41 rfl rfl (by simp [atoiS_C]) rfl fun w S ps us r outs hr hst hgo hx => ?_
  obtain ⟨y, hy, hx⟩ := bind_inv hx
  cases hx
  change atoiS_D ps = some y at hy
  unfold atoiS_D at hy
  split at hy
  case h_2 => cases hy
  rename_i s
  unfold sAtoi at hy
  split at hy
  case isFalse => cases hy
  rename_i hs
  cases hy
  obtain ⟨u, rfl, hu⟩ := rel_one_arg hr
  simp only [rel] at hu
  subst hu
  unfold lim at hs
  refine ⟨rfl, ?_⟩
  split
  · rename_i v hv
    refine (Tryz.strconv_Atoi_ok s (by omega) v hv w).mono ?_
    rintro e w' ⟨rfl, hw⟩
    refine ⟨_, rfl, ?_, fun _ => False, fun b h => h.elim, fun S'' _ => ?_⟩
    · rcases hw with rfl | ⟨t, rfl⟩
      · exact Below.refl _ _
      · exact below_bytes _ _ _
    · simp only [atoiS_E, rel, relL]; exact ⟨_, rfl, _, _, rfl, rfl, _, _, rfl, rfl, rfl⟩
  · rename_i hv
    obtain ⟨ev, h1, h2⟩ := err_go (g := 2) hgo rfl
    refine (Tryz.strconv_Atoi_range s (by omega) hv ev w h1 h2).mono ?_
    rintro e w' ⟨N, rfl, _, _, hb⟩
    refine ⟨_, rfl, hb, fun _ => False, fun b h => h.elim, fun S'' _ => ?_⟩
    simp only [atoiS_E, rel, relL]; exact ⟨_, rfl, _, _, rfl, rfl, _, _, rfl, ⟨_, _, rfl⟩, rfl⟩
  · rename_i n1 n2
    have hv : Lib.atoiAll s.data.toList = Lib.atoiAll [] := by
      cases h : Lib.atoiAll s.data.toList
      · exact absurd h (n1 _)
      · rfl
      · exact absurd h n2
    obtain ⟨ev, h1, h2⟩ := err_go (g := 1) hgo rfl
    refine (Tryz.strconv_Atoi_syntax s (by omega) hv ev w h1 h2).mono ?_
    rintro e w' ⟨N, rfl, _, _, hb⟩
    refine ⟨_, rfl, hb, fun _ => False, fun b h => h.elim, fun S'' _ => ?_⟩
    simp only [atoiS_E, rel, relL]; exact ⟨_, rfl, _, _, rfl, rfl, _, _, rfl, ⟨_, _, rfl⟩, rfl⟩

theorem cutS_all : Holds Tryz.prog G0 29 cutS_C := by
  refine holds_lib Tryz.func29 rfl rfl (by simp [cutS_C]) rfl fun w S ps us r outs hr hst hgo hx => ?_
  obtain ⟨y, hy, hx⟩ := bind_inv hx
  cases hx
  change cutS_D ps = some y at hy
  unfold cutS_D at hy
  split at hy
  case h_2 => cases hy
  rename_i s t
  unfold sCut at hy
  split at hy
  case isFalse => cases hy
  rename_i hs
  cases hy
  obtain ⟨u, v, rfl, hu, hv⟩ := rel_two_args hr
  simp only [rel] at hu hv
  subst hu hv
  unfold lim at hs
  obtain ⟨m, hm⟩ := wint_go (g := 0) hgo rfl
  refine ⟨rfl, (Tryz.strings_Cut s t m w (by omega) hm).mono ?_⟩
  rintro e w' ⟨rfl, n, rfl⟩
  refine ⟨_, rfl, below_drewN _ _, fun _ => False, fun b h => h.elim, fun S'' _ => ?_⟩
  simp only [cutS_E, rel, relL]; exact ⟨_, rfl, _, _, rfl, rfl, _, _, rfl, rfl, _, _, rfl, rfl, rfl⟩


theorem sRow_rel {w : World} {S : Nat → Prop} {b : Nat} : ∀ (l : List ByteArray) (o : Nat), (∀ (j : Nat) (s : ByteArray), l[j]? = some s → w.cell? ⟨b, o + j, none⟩ = some (.string s)) → relEs w S b o 1 (sRow l)
  | [], o, _ => by simp [sRow, relEs]
  | s :: l, o, h => by
    simp only [sRow, List.map_cons, relEs, List.length_singleton, relCs, and_true, true_and]
    refine ⟨⟨_, h 0 s rfl, rfl, by simp only [rel]⟩, ?_⟩
    exact sRow_rel l (o + 1) fun j t hj => by
      have := h (j + 1) t (by simpa using hj)
      rwa [show o + 1 + j = o + (j + 1) by omega]
/-- A new row of texts. -/
theorem split_fin (w : World) (S : Nat → Prop) (ss : List ByteArray) (t : TypeId) (c : Nat) (e1 : (sRow ss).length = c) (e2 : c ≤ maxLen) (hst : ∀ b, S b → b < w.heap.size) :
    ∃ v, Ending.returned (.slice (some ⟨w.heap.size, 0, none⟩) c c) = .returned v ∧ Below w.heap.size w (w.alloc (.cells (ss.map Value.string).toArray t)) ∧ ∃ N : Nat → Prop, (∀ b, N b → w.heap.size ≤ b ∧ b < (w.alloc (.cells (ss.map Value.string).toArray t)).heap.size) ∧
      ∀ S'' : Nat → Prop, (S'' = (fun b => S b ∨ N b) ∨ false = true) → rel (w.alloc (.cells (ss.map Value.string).toArray t)) S'' (.fs (sRow ss)) v := by
  have hsz : (w.alloc (.cells (ss.map Value.string).toArray t)).heap.size = w.heap.size + 1 := by show (w.heap.push _).size = _; simp
  refine ⟨_, rfl, (Below.refl _ _).alloc (Nat.le_refl _) _, fun b => b = w.heap.size, fun b h => ⟨by omega, by omega⟩, fun S'' hS => ?_⟩
  have hS' : S'' w.heap.size := by
    rcases hS with rfl | hS
    · exact .inr rfl
    · cases hS
  simp only [rel]
  refine .inr ⟨w.heap.size, 0, c, 1, by rw [e1], by omega, e2, hS', ?_⟩
  refine sRow_rel _ 0 fun j u hj => ?_
  rw [World.cell?_alloc_at _ _ _ _ rfl]
  simp only [Nat.zero_add, List.getElem?_toArray, List.getElem?_map, hj]
  rfl
theorem splitS_all : Holds Tryz.prog G0 35 splitS_C := by
  refine holds_lib Tryz.func35 rfl rfl (by simp [splitS_C]) rfl fun w S ps us r outs hr hst hgo hx => ?_
  obtain ⟨y, hy, hx⟩ := bind_inv hx
  cases hx
  change splitS_D ps = some y at hy
  unfold splitS_D at hy
  split at hy
  case h_2 => cases hy
  rename_i s t
  unfold sSplit at hy
  split at hy
  case isFalse => cases hy
  rename_i hs
  obtain ⟨hs, ht⟩ := hs
  cases hy
  obtain ⟨u, v, rfl, hu, hv⟩ := rel_two_args hr
  simp only [rel] at hu hv
  subst hu hv
  unfold lim at hs
  obtain rfl : t = ⟨#[32]⟩ := bytes_ext (by rw [ht])
  obtain ⟨m, hm⟩ := wint_go (g := 0) hgo rfl
  refine ⟨rfl, (Tryz.strings_Split s ⟨#[32]⟩ m w (by omega) hm (by decide)).mono ?_⟩
  rintro e w' ⟨rfl, rfl⟩
  have hall := Lib.splitB_all ⟨#[32]⟩ (by decide) 0 _ s rfl
  rw [split_text] at hall ⊢
  have hlen := splitOn_length 32 s.data.toList
  rw [List.length_map] at hall
  rw [size_data] at hlen
  have e1 : (sRow ((splitOn 32 s.data.toList).map text)).length = Lib.countB s ⟨#[32]⟩ + 1 := by rw [sRow_length, List.length_map, hall]
  have e2 : Lib.countB s ⟨#[32]⟩ + 1 ≤ maxLen := by unfold maxLen; omega
  clear hall hlen
  show ∃ v, _ ∧ _ ∧ ∃ N : Nat → Prop, _ ∧ ∀ S'', _ → rel _ S'' (.fs (sRow ((splitOn 32 s.data.toList).map text))) v
  generalize (splitOn 32 s.data.toList).map text = ss at e1 ⊢
  generalize Lib.countB s ⟨#[32]⟩ + 1 = c at e1 e2 ⊢
  exact split_fin w S ss _ c e1 e2 hst

theorem sRow_cells {w : World} {S : Nat → Prop} {b : Nat} : ∀ {l : List ByteArray} {o sz : Nat}, relEs w S b o sz (sRow l) → ∀ (j : Nat) (x : ByteArray), l[j]? = some x → w.cell? ⟨b, o + j, none⟩ = some (.string x)
  | [], _, _, _, j, x, h => by simp at h
  | s :: l, o, sz, h, j, x, hj => by
    simp only [sRow, List.map_cons, relEs, List.length_singleton, relCs, and_true] at h
    obtain ⟨h1, ⟨u, hu, _, hr⟩, h3⟩ := h
    subst h1
    simp only [rel] at hr
    subst hr
    cases j with
    | zero => simp only [List.getElem?_cons_zero, Option.some.injEq] at hj; subst hj; exact hu
    | succ j =>
      have := sRow_cells (l := l) h3 j x (by simpa using hj)
      rwa [show o + 1 + j = o + (j + 1) by omega] at this
theorem joinS_all : Holds Tryz.prog G0 31 joinS_C := by
  refine holds_lib Tryz.func31 rfl rfl (by simp [joinS_C]) rfl fun w S ps us r outs hr hst hgo hx => ?_
  obtain ⟨y, hy, hx⟩ := bind_inv hx
  cases hx
  change joinS_D ps = some y at hy
  unfold joinS_D at hy
  split at hy
  case h_2 => cases hy
  rename_i es t
  unfold sJoin at hy
  obtain ⟨ss, h1, h2⟩ := bind_inv hy
  split at h2
  case isFalse => cases h2
  rename_i hs
  cases h2
  rw [unS_inv h1] at hr
  obtain ⟨u, v, rfl, hu, hv⟩ := rel_two_args hr
  simp only [rel] at hu hv
  subst hv
  rcases hu with ⟨⟨A, rfl⟩, he⟩ | ⟨b, o, cap, sz, rfl, hl, hc, hS, he⟩
  · have hss : ss = [] := by cases ss with | nil => rfl | cons a l => simp [sRow] at he
    subst hss
    refine ⟨rfl, (Tryz.strings_Join_none A 0 t w).mono ?_⟩
    rintro e w' ⟨rfl, rfl⟩
    refine ⟨_, rfl, Below.refl _ _, fun _ => False, fun b h => h.elim, fun S'' _ => ?_⟩
    simp only [joinS_E, rel]
    rfl
  · rw [sRow_length] at hl ⊢
    refine ⟨rfl, (Tryz.strings_Join b o cap ss t w (sRow_cells he) (hst b hS) hs.1 hl hs.2).mono ?_⟩
    rintro e w' ⟨rfl, hb⟩
    refine ⟨_, rfl, hb, fun _ => False, fun b h => h.elim, fun S'' _ => ?_⟩
    simp only [joinS_E, rel]
    rfl

theorem trimS_all : Holds Tryz.prog G0 40 trimS_C := by
  refine holds_lib Tryz.func40 rfl rfl (by simp [trimS_C]) rfl fun w S ps us r outs hr hst hgo hx => ?_
  obtain ⟨y, hy, hx⟩ := bind_inv hx
  cases hx
  change trimS_D ps = some y at hy
  unfold trimS_D at hy
  split at hy
  case h_2 => cases hy
  rename_i s t
  unfold sTrim at hy
  split at hy
  case isFalse => cases hy
  rename_i hs
  obtain ⟨hs, ht, ha⟩ := hs
  cases hy
  obtain ⟨u, v, rfl, hu, hv⟩ := rel_two_args hr
  simp only [rel] at hu hv
  subst hu hv
  unfold lim at hs ht
  refine ⟨rfl, (Any.strings_Trim_laid Tryz.lays160 (by kernel_rfl) s t w (by omega) (by omega) (ascii_of_all ha)).mono ?_⟩
  rintro e w' ⟨rfl, hb⟩
  refine ⟨_, rfl, hb, fun _ => False, fun b h => h.elim, fun S'' _ => ?_⟩
  simp only [trimS_E, rel]
  rfl
end Go.Proofs.YtkeklbicmfhemabGreatDoorV
