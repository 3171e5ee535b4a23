/- What the rows' listed variables and the world's shape give: what is known of the package-level variables. -/
import Derived.Test.YtpaifgipdhgfkaaGreatDoorVTab
import Derived.Test.YtpaifgipdhgfkaaGreatDoorRows
import Derived.Shelf.Vars
import Derived.Lib.LaidTab
import Derived.LaidSub
namespace Go.Proofs.YtpaifgipdhgfkaaGreatDoorV
open Go
set_option maxRecDepth 100000
theorem var_block {P : Program} {w : World} {name : String} {g : Nat} {cs : Array Value} (hg : P.globalNamed name = some g) (h : w.var? P name = some cs) : ∃ t fr, w.heap[g]? = some (.cells cs t fr) := by
  unfold World.var? at h
  rw [hg, Option.bind_some] at h
  split at h
  · rename_i e; cases h; exact ⟨_, _, e⟩
  · cases h
theorem block_lt {w : World} {g : Nat} {o : Obj} (h : w.heap[g]? = some o) : g < w.heap.size := by
  cases Nat.lt_or_ge g w.heap.size with
  | inl h' => exact h'
  | inr h' => rw [Array.getElem?_eq_none h'] at h; cases h
theorem laid_one {P : Program} {W : World} {x : String × DataW Unit} (h : x.2.handleName? = none) (hl : laidMetH P [x] W) : laidMet P [x] W := by
  unfold laidMetH at hl
  simpa [h] using hl
def isIf : Option TypeDesc → Bool | some (.interface _) => true | _ => false
theorem isIf_inv {t : Option TypeDesc} (h : isIf t = true) : ∃ ms, t = some (.interface ms) := by
  unfold isIf at h
  split at h
  · exact ⟨_, rfl⟩
  · cases h
theorem trod_iface_inv {H : Type} {enc : TypeId × Value → H} {P : Program} {w : World} {base : Nat} {spare : Nat → Bool} {held : Bool} {fuel : Nat} {t : TypeId} {cs : List Value} {n : String} {d : DataW H} {p : List MemPlace} {ms : Array (String × TypeId)}
    (ht : P.underlying t = some (.interface ms)) (h : DataW.trod enc P w base spare held fuel t cs = some (.iface n d, p)) : ∃ u v, cs = [.iface u v] := by
  cases fuel with
  | zero => cases h
  | succ f =>
    unfold DataW.trod at h
    rw [ht] at h
    split at h <;> simp_all
abbrev Known (W : World) (g : Nat) (cs : List PV) : Prop := g < W.heap.size ∧ relCs W (fun b => b < W.heap.size) g 0 cs ∧ ∃ C t fr, W.heap[g]? = some (.cells C t fr) ∧ C.size = cs.length
theorem go_tab {P : Program} {W : World} {l : List (String × DataW Unit)} {name : String} {k : IntKind} {zs : List Int} {g : Nat} {t e : TypeId} {n : Nat} (hl : laidMetH P l W) (h : l.filter (fun x => x.1 == name) = [(name, Lib.tabData k zs)])
    (hg : P.globalNamed name = some g) (hty : (P.globals[g]?).map (·.type) = some t) (ht : P.underlying t = some (.array n e)) (he : P.underlying e = some (.int k)) (hce : P.cellsOf e = 1) (hct : P.cellsOf t = n) : Known W g (zs.map (PV.int k)) := by
  have h1 := hl.filter (fun x => x.1 == name)
  rw [h] at h1
  replace h1 := laid_one rfl h1
  have h2 : Lib.TabIs P W name k zs := Lib.tabIs_of_head hg hty ht he hce hct h1
  obtain ⟨t', fr, hb⟩ := var_block hg h2
  refine ⟨block_lt hb, relCs_of fun i p hp => ?_, _, _, _, hb, by simp⟩
  rw [List.getElem?_map, Option.map_eq_some_iff] at hp
  obtain ⟨z, hz, rfl⟩ := hp
  refine ⟨.int k z, ?_, rfl, by simp only [rel]⟩
  rw [cell_of_row W g _ _ _ _ hb, Nat.zero_add]
  simp [hz]
def errLaid (name : String) (l : List (String × DataW Unit)) : Bool := match l.filter (fun x => x.1 == name) with
  | [(m, .iface n d)] => decide (m = name) && (DataW.handleName? (H := Unit) (.iface n d)).isNone
  | _ => false
theorem errLaid_inv {name : String} {l : List (String × DataW Unit)} (h : errLaid name l = true) : ∃ n d, DataW.handleName? (H := Unit) (.iface n d) = none ∧ l.filter (fun x => x.1 == name) = [(name, .iface n d)] := by
  unfold errLaid at h
  split at h
  · rename_i m n d e
    simp only [Bool.and_eq_true, decide_eq_true_eq, Option.isNone_iff_eq_none] at h
    exact ⟨n, d, h.2, by rw [e, h.1]⟩
  · cases h
theorem go_err {P : Program} {W : World} {l : List (String × DataW Unit)} {name : String} {g : Nat} {t : TypeId} (hl : laidMetH P l W) (h : errLaid name l = true)
    (hg : P.globalNamed name = some g) (hty : (P.globals[g]?).map (·.type) = some t) (ht : isIf (P.underlying t) = true) : Known W g [.err] := by
  obtain ⟨nm, d, hn, h⟩ := errLaid_inv h
  have h1 := hl.filter (fun x => x.1 == name)
  rw [h] at h1
  replace h1 := laid_one hn h1
  obtain ⟨ps, ⟨g', t', cs, fuel, p, q, hg', ht', hvar, hd, _, _⟩, _⟩ := h1
  obtain rfl := Option.some.inj (hg.symm.trans hg')
  obtain rfl := Option.some.inj (hty.symm.trans ht')
  obtain ⟨ms, ht⟩ := isIf_inv ht
  obtain ⟨u, v, hcs⟩ := trod_iface_inv ht hd
  obtain ⟨t'', fr, hb⟩ := var_block hg hvar
  have hcs' : cs = #[.iface u v] := Array.ext' hcs
  refine ⟨block_lt hb, relCs_of fun i p hp => ?_, _, _, _, hb, by simp [hcs']⟩
  cases i with
  | succ i => simp at hp
  | zero =>
    simp at hp
    subst hp
    refine ⟨.iface u v, ?_, rfl, by simp only [rel]; exact ⟨u, v, rfl⟩⟩
    rw [cell_of_row W _ _ _ _ _ hb, hcs']
    rfl
theorem go_wint {P : Program} {W : World} {g : Nat} {t : TypeId} {k : IntKind} (h : W.ShapedOpen P) (hg : g < P.globals.size)
    (h0 : ((begin P (fun _ _ => 0) default).world.heap[g]?).bind Obj.row? = some (#[.int k 0], t)) (hb : P.buildable t = true) (hc : P.cellTypes P.depth t = some [t]) (hu : P.underlying t = some (.int k)) : Known W g [.wint k] := by
  obtain ⟨m, hm⟩ := cell_of_shapedOpen_int h hg h0 rfl hb hc hu
  obtain ⟨cs, hh, hs, _⟩ := h.1 g _ t hg h0
  refine ⟨block_lt hh, relCs_of fun i p hp => ?_, _, _, _, hh, by simpa using hs⟩
  cases i with
  | succ i => simp at hp
  | zero =>
    simp at hp
    subst hp
    exact ⟨_, hm, rfl, by simp only [rel]; exact ⟨m, rfl⟩⟩
structure LaidOk (l : List (String × DataW Unit)) : Prop where
  h1 : l.filter (fun x => x.1 == "internal/strconv.uint64pow10") = [("internal/strconv.uint64pow10", Lib.tabData .u64 [1, 10, 100, 1000, 10000, 100000, 1000000, 10000000, 100000000, 1000000000, 10000000000, 100000000000, 1000000000000, 10000000000000, 100000000000000, 1000000000000000, 10000000000000000, 100000000000000000, 1000000000000000000, 10000000000000000000])]
theorem go_of {l : List (String × DataW Unit)} {W : World} (hl : laidMetH Tryz.prog l W) (hsh : W.ShapedOpen Tryz.prog) (hk : LaidOk l) : GOk G0 W (fun b => b < W.heap.size) := by
  intro g cs hg
  unfold G0 at hg
  split at hg
  · cases hg; exact go_tab (P := Tryz.prog) (g := 1) (t := 268) (e := 180) (n := 20) (k := .u64) (zs := [1, 10, 100, 1000, 10000, 100000, 1000000, 10000000, 100000000, 1000000000, 10000000000, 100000000000, 1000000000000, 10000000000000, 100000000000000, 1000000000000000, 10000000000000000, 100000000000000000, 1000000000000000000, 10000000000000000000]) hl hk.h1 (by kernel_rfl) (by kernel_rfl) (by kernel_rfl) (by kernel_rfl) (by kernel_rfl) (by kernel_rfl)
  · cases hg
end Go.Proofs.YtpaifgipdhgfkaaGreatDoorV
