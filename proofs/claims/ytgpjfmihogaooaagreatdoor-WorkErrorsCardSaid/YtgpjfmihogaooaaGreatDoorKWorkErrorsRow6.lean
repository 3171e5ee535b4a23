/- Of this claim's texts what it needs, part 6. -/
import Derived.Test.YtgpjfmihogaooaaGreatDoorRows
import Derived.Shelf.Vars
import Derived.Lib.LaidTab
import Derived.LaidSub
import Derived.Test.YtgpjfmihogaooaaGreatDoorKWorkErrorsRow5
namespace Go.Proofs.YtgpjfmihogaooaaGreatDoorV
open Go
set_option maxRecDepth 100000
theorem var_block {P:Program} {w:World} {name:String} {g:Nat} {cs:Array Value} (hg:P.globalNamed name=some g) (h:w.var? P name=some cs):∃ t fr,w.heap[g]? = some (.cells cs t fr):=by
 unfold World.var? at h
 rw [hg,Option.bind_some] at h
 split at h
 ·rename_i e; cases h; exact ⟨_,_,e⟩
 ·cases h
theorem block_lt {w:World} {g:Nat} {o:Obj} (h:w.heap[g]? = some o):g < w.heap.size:=by
 cases Nat.lt_or_ge g w.heap.size with
 | inl h'=>exact h'
 | inr h'=>rw [Array.getElem?_eq_none h'] at h; cases h
theorem laid_one {P:Program} {W:World} {x:String × DataW Unit} (h:x.2.handleName? = none) (hl:laidMetH P [x] W):laidMet P [x] W:=by
 unfold laidMetH at hl
 simpa [h] using hl
abbrev Known (W:World) (g:Nat) (cs:List PV):Prop:=g < W.heap.size∧relCs W (fun b=>b < W.heap.size) g 0 cs∧∃ C t fr,W.heap[g]? = some (.cells C t fr)∧C.size=cs.length
theorem go_tab {P:Program} {W:World} {l:List (String × DataW Unit)} {name:String} {k:IntKind} {zs:List Int} {g:Nat} {t e:TypeId} {n:Nat} (hl:laidMetH P l W) (h:l.filter (fun x=>x.1 == name)=[(name,Lib.tabData k zs)])
  (hg:P.globalNamed name=some g) (hty:(P.globals[g]?).map (·.type)=some t) (ht:P.underlying t=some (.array n e)) (he:P.underlying e=some (.int k)) (hce:P.cellsOf e=1) (hct:P.cellsOf t=n):Known W g (zs.map (PV.int k)):=by
 have h1:=hl.filter (fun x=>x.1 == name)
 rw [h] at h1
 replace h1:=laid_one rfl h1
 have h2:Lib.TabIs P W name k zs:=Lib.tabIs_of_head hg hty ht he hce hct h1
 obtain ⟨t',fr,hb⟩:=var_block hg h2
 refine ⟨block_lt hb,relCs_of fun i p hp=>?_,_,_,_,hb,by simp⟩
 rw [List.getElem?_map,Option.map_eq_some_iff] at hp
 obtain ⟨z,hz,rfl⟩:=hp
 refine ⟨.int k z,?_,rfl,by simp only [rel]⟩
 rw [cell_of_row W g _ _ _ _ hb,Nat.zero_add]
 simp [hz]
structure LaidOk (l:List (String × DataW Unit)):Prop where
 h1:l.filter (fun x=>x.1 == "internal/strconv.uint64pow10")=[("internal/strconv.uint64pow10",Lib.tabData .u64 [1,10,100,1000,10000,100000,1000000,10000000,100000000,1000000000,10000000000,100000000000,1000000000000,10000000000000,100000000000000,1000000000000000,10000000000000000,100000000000000000,1000000000000000000,10000000000000000000])]
theorem go_of {l:List (String × DataW Unit)} {W:World} (hl:laidMetH Tryz.prog l W) (hsh:W.ShapedOpen Tryz.prog) (hk:LaidOk l):GOk G0 W (fun b=>b < W.heap.size):=by
 intro g cs hg
 unfold G0 at hg
 split at hg
 ·cases hg; exact go_tab (P:=Tryz.prog) (g:=1) (t:=334) (e:=246) (n:=20) (k:=.u64) (zs:=[1,10,100,1000,10000,100000,1000000,10000000,100000000,1000000000,10000000000,100000000000,1000000000000,10000000000000,100000000000000,1000000000000000,10000000000000000,100000000000000000,1000000000000000000,10000000000000000000]) hl hk.h1 (by kernel_rfl) (by kernel_rfl) (by kernel_rfl) (by kernel_rfl) (by kernel_rfl) (by kernel_rfl)
 ·cases hg
end Go.Proofs.YtgpjfmihogaooaaGreatDoorV
