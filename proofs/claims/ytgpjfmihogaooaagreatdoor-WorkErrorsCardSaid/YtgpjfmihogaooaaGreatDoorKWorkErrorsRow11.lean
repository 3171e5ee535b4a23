/- Of this claim's texts what it needs, part 11. -/
import Derived.Shelf.Small.Bits
import Derived.Shelf.Strconv.Itoa0
import Derived.Shelf.Strconv.Itoa1
import Derived.Shelf.LaysM
import Derived.Shelf.Strconv.Itoa2
import Derived.Shelf.Strconv.Itoa3
import Derived.Shelf.Slices.Reverse
import Derived.Ground.Names2Prog
import Derived.Shelf.Slices.Clone
import Derived.Shelf.Slices.CompactI
import Derived.Shelf.Slices.SearchI
import Derived.Shelf.Slices.Delete
import Derived.Shelf.Slices.Cells
import Derived.Shelf.Slices.Empties
import Derived.Ground.SlgnProg
import Derived.Shelf.SlicesE.Clone
import Derived.Test.YtgpjfmihogaooaaGreatDoorProg
import Derived.Shelf.Lays2
import Derived.Ground.Names2Prog
import Derived.Shelf.Spec.SlicesInsertGrow
import Derived.Test.YtgpjfmihogaooaaGreatDoorKWorkErrorsRow10
namespace Go.Proofs
open Go.Shelf
def Tryz.laysM171_ren:Go.Shelf.Ren:=⟨fun | 171=>166 | 243=>219 | 246=>265 | 283=>292 | 284=>293 | 285=>294 | 286=>295 | 129=>237 | 317=>307 | 318=>308 | 319=>309 | 320=>310 | 337=>318 | 338=>319 | n=>n,fun | 3=>3 | 9=>9 | 2=>2 | 4=>4 | 171=>312 | 0=>0 | 53=>246 | 37=>314 | 5=>5 | 173=>315 | 212=>334 | 51=>127 | 20=>20 | 213=>335 | 46=>203 | 232=>344 | 233=>345 | n=>n,fun | 17=>1 | 18=>2 | 19=>3 | n=>n⟩
theorem Tryz.laysM171:Go.Proofs.LaysM.n171 Tryz.prog Tryz.laysM171_ren:={
 mixed:=by kernel_rfl
 f129:=Tryz.func237.trans (congrArg some (by kernel_rfl))
 f171:=Tryz.func166.trans (congrArg some (by kernel_rfl))
 f243:=Tryz.func219.trans (congrArg some (by kernel_rfl))
 f246:=Tryz.func265.trans (congrArg some (by kernel_rfl))
 f283:=Tryz.func292.trans (congrArg some (by kernel_rfl))
 f284:=Tryz.func293.trans (congrArg some (by kernel_rfl))
 f285:=Tryz.func294.trans (congrArg some (by kernel_rfl))
 f286:=Tryz.func295.trans (congrArg some (by kernel_rfl))
 f317:=Tryz.func307.trans (congrArg some (by kernel_rfl))
 f318:=Tryz.func308.trans (congrArg some (by kernel_rfl))
 f319:=Tryz.func309.trans (congrArg some (by kernel_rfl))
 f320:=Tryz.func310.trans (congrArg some (by kernel_rfl))
 f337:=Tryz.func318.trans (congrArg some (by kernel_rfl))
 f338:=Tryz.func319.trans (congrArg some (by kernel_rfl))
 t0:=Tryz.underlying0
 a0:=Tryz.isAgg0
 z0:=Tryz.sizeOf0
 v0:=Tryz.zeroValue0
 t2:=Tryz.underlying2
 a2:=Tryz.isAgg2
 z2:=Tryz.sizeOf2
 v2:=Tryz.zeroValue2
 t3:=Tryz.underlying3
 a3:=Tryz.isAgg3
 z3:=Tryz.sizeOf3
 v3:=Tryz.zeroValue3
 t4:=Tryz.underlying4
 a4:=Tryz.isAgg4
 z4:=Tryz.sizeOf4
 v4:=Tryz.zeroValue4
 t5:=Tryz.underlying5
 a5:=Tryz.isAgg5
 z5:=Tryz.sizeOf5
 v5:=Tryz.zeroValue5
 t9:=Tryz.underlying9
 a9:=Tryz.isAgg9
 z9:=Tryz.sizeOf9
 v9:=Tryz.zeroValue9
 t20:=Tryz.underlying20
 a20:=Tryz.isAgg20
 z20:=Tryz.sizeOf20
 v20:=Tryz.zeroValue20
 t37:=Tryz.underlying314
 a37:=Tryz.isAgg314
 z37:=Tryz.sizeOf314
 v37:=Tryz.zeroValue314
 t46:=Tryz.underlying203
 a46:=Tryz.isAgg203
 z46:=Tryz.sizeOf203
 v46:=Tryz.zeroValue203
 t51:=Tryz.underlying127
 a51:=Tryz.isAgg127
 z51:=Tryz.sizeOf127
 v51:=Tryz.zeroValue127
 t53:=Tryz.underlying246
 a53:=Tryz.isAgg246
 z53:=Tryz.sizeOf246
 v53:=Tryz.zeroValue246
 t171:=Tryz.underlying312
 a171:=Tryz.isAgg312
 z171:=Tryz.sizeOf312
 v171:=Tryz.zeroValue312
 t173:=Tryz.underlying315
 a173:=Tryz.isAgg315
 z173:=Tryz.sizeOf315
 v173:=Tryz.zeroValue315
 t212:=Tryz.underlying334
 a212:=Tryz.isAgg334
 z212:=Tryz.sizeOf334
 v212:=Tryz.zeroValue334
 t213:=Tryz.underlying335
 a213:=Tryz.isAgg335
 z213:=Tryz.sizeOf335
 t232:=Tryz.underlying344
 a232:=Tryz.isAgg344
 z232:=Tryz.sizeOf344
 v232:=Tryz.zeroValue344
 t233:=Tryz.underlying345
 a233:=Tryz.isAgg345
 z233:=Tryz.sizeOf345
 v233:=Tryz.zeroValue345
 g17:=by kernel_rfl
 g18:=by kernel_rfl
 g19:=by kernel_rfl
 i0:=by kernel_rfl
 i2:=by kernel_rfl
 i3:=by kernel_rfl
 i4:=by kernel_rfl
 i5:=by kernel_rfl
 i9:=by kernel_rfl
 i20:=by kernel_rfl
 i37:=by kernel_rfl
 i46:=by kernel_rfl
 i51:=by kernel_rfl
 i53:=by kernel_rfl
 i171:=by kernel_rfl
 i173:=by kernel_rfl
 i212:=by kernel_rfl
 i232:=by kernel_rfl
 i233:=by kernel_rfl
 m17:=by kernel_rfl
 m18:=by kernel_rfl
 m19:=by kernel_rfl }
open Go.RowKit Go.Sort Go.Lib in
theorem Tryz.strconv_Itoa (n:Int) (h0 : -9223372036854775808≤n) (h1:n≤9223372036854775807) (w:World) (htab:Lib.TabIs Tryz.prog w "internal/strconv.uint64pow10" .u64 Lib.pow10Tab) :
  Calls Tryz.prog 166 #[.int .i64 n] w fun e w'=>e=.returned (.string ⟨(Lib.itoa n).toArray⟩)∧∃ k os,w'=grow (w.drewN k) os:=Any.strconv_Itoa Tryz.laysM171 n h0 h1 w htab
def Tryz.laysNm221_ren:Go.Shelf.Ren:=⟨fun | 21=>220 | 27=>266 | 28=>267 | 35=>296 | 39=>311 | n=>n,fun | 22=>28 | 3=>3 | 4=>4 | 0=>0 | n=>n,fun | n=>n⟩
theorem Tryz.laysNm221:Go.Proofs.Lays2.n21 Tryz.prog Tryz.laysNm221_ren:={
 mixed:=by kernel_rfl
 f21:=Tryz.func220.trans (congrArg some (by kernel_rfl))
 f27:=Tryz.func266.trans (congrArg some (by kernel_rfl))
 f28:=Tryz.func267.trans (congrArg some (by kernel_rfl))
 f35:=Tryz.func296.trans (congrArg some (by kernel_rfl))
 f39:=Tryz.func311.trans (congrArg some (by kernel_rfl))
 t0:=Tryz.underlying0
 a0:=Tryz.isAgg0
 z0:=Tryz.sizeOf0
 v0:=Tryz.zeroValue0
 t3:=Tryz.underlying3
 a3:=Tryz.isAgg3
 z3:=Tryz.sizeOf3
 v3:=Tryz.zeroValue3
 t4:=Tryz.underlying4
 a4:=Tryz.isAgg4
 z4:=Tryz.sizeOf4
 v4:=Tryz.zeroValue4
 t22:=Tryz.underlying28
 a22:=Tryz.isAgg28
 z22:=Tryz.sizeOf28
 v22:=Tryz.zeroValue28
 i3:=by kernel_rfl }
end Go.Proofs
namespace Go.Proofs.YtgpjfmihogaooaaGreatDoorV
open Go Go.RowKit
set_option maxRecDepth 100000
theorem tabIs_go {P:Program} {G:Nat→Option (List PV)} {w:World} {S:Nat→Prop} {name:String} {k:IntKind} {zs:List Int} {g:Nat} (hgo:GOk G w S) (hg:P.globalNamed name=some g) (hG:G g=some (zs.map (PV.int k))):Lib.TabIs P w name k zs:=by
 obtain ⟨_,h1,C,t,fr,h2,h3⟩:=hgo g _ hG
 unfold Lib.TabIs World.var?
 rw [hg,Option.bind_some,h2]
 simp only [Option.some.injEq]
 apply Array.ext'
 apply List.ext_getElem?
 intro i
 rw [List.length_map] at h3
 simp only [List.getElem?_map]
 by_cases hi:i < zs.length
 ·obtain ⟨u,hu,_,hr⟩:=relCs_get h1 (i:=i) (p:=PV.int k zs[i]) (by simp [List.getElem?_map,hi])
  rw [cell_of_row w g _ C t fr h2,Nat.zero_add] at hu
  simp only [rel] at hr
  rw [Array.getElem?_toList,hu,hr,List.getElem?_eq_getElem hi]
  rfl
 ·rw [List.getElem?_eq_none (by simp; omega),List.getElem?_eq_none (by omega)]
  rfl
theorem rel_one_arg {w:World} {S:Nat→Prop} {p:PV} {us:List Value} (h:relL w S [p] us):∃ u,us=[u]∧rel w S p u:=by
 simp only [relL] at h
 obtain ⟨u,us',rfl,h1,rfl⟩:=h
 exact ⟨u,rfl,h1⟩
theorem below_grow (w:World) (k:Nat) (os:Array Obj):Below w.heap.size w (Sort.grow (w.drewN k) os) :=
 ⟨rfl,rfl,rfl,by simp [Sort.grow,World.drewN],fun i hi=>by
  show ((w.drewN k).heap ++ os)[i]? = _
  rw [Array.getElem?_append_left (by simpa [World.drewN] using hi)]
  rfl⟩
theorem itoaS_all:Zka Tryz.prog G0 166 itoaS_C:=by
 refine holds_lib Tryz.func166 rfl rfl (by simp [itoaS_C]) rfl fun w S ps us r outs hr hst hgo hx=>?_
 obtain ⟨y,hy,hx⟩:=Zba hx
 cases hx
 change itoaS_D ps=some y at hy
 unfold itoaS_D at hy
 split at hy
 case h_2=>cases hy
 rename_i n
 unfold sItoa at hy
 split at hy
 case isFalse=>cases hy
 rename_i hn
 cases hy
 obtain ⟨u,rfl,hu⟩:=rel_one_arg hr
 simp only [rel] at hu
 subst hu
 have hn':=hn
 simp only [inI,decide_eq_true_eq] at hn'
 have htab:Lib.TabIs Tryz.prog w "internal/strconv.uint64pow10" .u64 Lib.pow10Tab:=tabIs_go hgo (g:=1) (by kernel_rfl) (by kernel_rfl)
 refine ⟨rfl,(Tryz.strconv_Itoa n hn'.1 (by omega) w htab).mono ?_⟩
 rintro e w' ⟨rfl,k,os,rfl⟩
 refine ⟨_,rfl,below_grow _ _ _,fun _=>False,fun b h=>h.elim,fun S'' _=>?_⟩
 rw [dig_itoa hn]
 simp only [itoaS_E,rel]
 rfl
end Go.Proofs.YtgpjfmihogaooaaGreatDoorV
namespace Go.Proofs.YtgpjfmihogaooaaGreatDoorV
open Go
set_option maxRecDepth 100000
set_option linter.unusedVariables false
set_option linter.unusedSimpArgs false
noncomputable section
def Zcb {R:Type} (n:Nat)(a b d e:Int)(f:Rs)(k0:Int→Int→Int→Int→Rs→Option R):Option R :=
 if 0≤(IntKind.i64.wrap (e - (1:Int)))∧(IntKind.i64.wrap (e - (1:Int))) < (f.length:Int) then
  if 0≤e∧e < (f.length:Int) then
   meet (
    Option.bind (f[(Int.toNat (IntKind.i64.wrap (e - (1:Int))))]?) fun g =>
    Option.bind (Zra g 0 3) fun i =>
    Option.bind (f[(Int.toNat e)]?) fun j =>
    Option.bind (Zra j 0 3) fun l =>
    if 0≤e∧e < (f.length:Int) then
     if (PV.isAgg i 3)=true then
      Option.bind (f[(Int.toNat e)]?) fun o =>
      if 0≤(IntKind.i64.wrap (e - (1:Int)))∧(IntKind.i64.wrap (e - (1:Int))) < ((List.set f (Int.toNat e) (PV.cells i)).length:Int) then
       if (PV.isAgg l 3)=true then
        Option.bind ((List.set f (Int.toNat e) (PV.cells i))[(Int.toNat (IntKind.i64.wrap (e - (1:Int))))]?) fun q =>
        k0 a b d (IntKind.i64.wrap (e - (1:Int))) (List.set (List.set f (Int.toNat e) (PV.cells i)) (Int.toNat (IntKind.i64.wrap (e - (1:Int)))) (PV.cells l))
       else none
      else none
     else none
    else none) (
    Option.bind (f[(Int.toNat e)]?) fun t =>
    Option.bind (Zra t 0 3) fun u =>
    Option.bind (f[(Int.toNat (IntKind.i64.wrap (e - (1:Int))))]?) fun v =>
    Option.bind (Zra v 0 3) fun z =>
    if 0≤e∧e < (f.length:Int) then
     if (PV.isAgg z 3)=true then
      Option.bind (f[(Int.toNat e)]?) fun A =>
      if 0≤(IntKind.i64.wrap (e - (1:Int)))∧(IntKind.i64.wrap (e - (1:Int))) < ((List.set f (Int.toNat e) (PV.cells z)).length:Int) then
       if (PV.isAgg u 3)=true then
        Option.bind ((List.set f (Int.toNat e) (PV.cells z))[(Int.toNat (IntKind.i64.wrap (e - (1:Int))))]?) fun B =>
        k0 a b d (IntKind.i64.wrap (e - (1:Int))) (List.set (List.set f (Int.toNat e) (PV.cells z)) (Int.toNat (IntKind.i64.wrap (e - (1:Int)))) (PV.cells u))
       else none
      else none
     else none
    else none)
  else none
 else none
def ZYa {R:Type}:Nat→Int→Int→Int→Int→Rs→(Int→Int→Int→Rs→Option R)→Option R
 | 0,_,_,_,_,_,_=>none
 | n + 1,a,b,d,e,f,k0 =>
  cond (decide (e > a)) (
   if 0≤e∧e < (f.length:Int) then
    if 0≤(IntKind.i64.wrap (e - (1:Int)))∧(IntKind.i64.wrap (e - (1:Int))) < (f.length:Int) then
     meet (
      Option.bind (f[(Int.toNat e)]?) fun g =>
      Option.bind (Zra g 0 3) fun i =>
      Option.bind (f[(Int.toNat (IntKind.i64.wrap (e - (1:Int))))]?) fun j =>
      Option.bind (Zra j 0 3) fun l =>
      Option.bind (Zgd [i,l]) fun o =>
      cond (decide (o < (0:Int))) (
       Zcb n a b d e f
        (fun (q t u v:Int)(z:Rs) =>
         ZYa n q t u v z k0)) (
       k0 a b d f)) (
      Option.bind (f[(Int.toNat (IntKind.i64.wrap (e - (1:Int))))]?) fun A =>
      Option.bind (Zra A 0 3) fun B =>
      Option.bind (f[(Int.toNat e)]?) fun C =>
      Option.bind (Zra C 0 3) fun D =>
      Option.bind (Zgd [D,B]) fun E =>
      cond (decide (E < (0:Int))) (
       Zcb n a b d e f
        (fun (F G H I:Int)(J:Rs) =>
         ZYa n F G H I J k0)) (
       k0 a b d f))
    else none
   else none) (
   (fun (z1:Option R) =>
    meet (
     z1) (
     z1)) (
    k0 a b d f))
def Zdb {R:Type}:Nat→Int→Int→Int→Rs→(Rs→Option R)→Option R
 | 0,_,_,_,_,_=>none
 | n + 1,a5,b6,i7,a,k0 =>
  cond (decide (i7 < b6)) (
   ZYa n a5 b6 i7 i7 a
    (fun (a9 b d:Int)(e:Rs) =>
     Zdb n a9 b (IntKind.i64.wrap (d + (1:Int))) e k0)) (
   k0 a)
def Zgb {R:Type} (n:Nat)(a:Rs)(a2 b3:Int)(k:Rs→Option R):Option R :=
 Zdb n a2 b3 (IntKind.i64.wrap (a2 + (1:Int))) a k
def Z6e (y:Rs):PV × Cs:=((PV.tuple []),[.os y 3])
def Zvc (n:Nat)(a b d e:Int)(f:Rs):Option ((Int × Int × Int × Int × Rs)) :=
 if 0≤(IntKind.i64.wrap (e - (1:Int)))∧(IntKind.i64.wrap (e - (1:Int))) < (f.length:Int) then
  if 0≤e∧e < (f.length:Int) then
   Option.bind (f[(Int.toNat (IntKind.i64.wrap (e - (1:Int))))]?) fun g =>
   Option.bind (Zra g 0 3) fun i =>
   Option.bind (f[(Int.toNat e)]?) fun j =>
   Option.bind (Zra j 0 3) fun l =>
   if 0≤e∧e < (f.length:Int) then
    if (PV.isAgg i 3)=true then
     Option.bind (f[(Int.toNat e)]?) fun o =>
     if 0≤(IntKind.i64.wrap (e - (1:Int)))∧(IntKind.i64.wrap (e - (1:Int))) < ((List.set f (Int.toNat e) (PV.cells i)).length:Int) then
      if (PV.isAgg l 3)=true then
       Option.bind ((List.set f (Int.toNat e) (PV.cells i))[(Int.toNat (IntKind.i64.wrap (e - (1:Int))))]?) fun q =>
       some (a,b,d,(IntKind.i64.wrap (e - (1:Int))),(List.set (List.set f (Int.toNat e) (PV.cells i)) (Int.toNat (IntKind.i64.wrap (e - (1:Int)))) (PV.cells l)))
      else none
     else none
    else none
   else none
  else none
 else none
theorem Z6j {R:Type} (n:Nat)(a b d e:Int)(f:Rs)(k0:Int→Int→Int→Int→Rs→Option R):Tw (Zvc n a b d e f) (Zcb n a b d e f k0) (fun s=>match s with | (a0,a1,a2,a3,a4)=>k0 a0 a1 a2 a3 a4):=by
 unfold Zvc Zcb
 refine Zqa fun _=>?_
 refine Zqa fun _=>?_
 intro s hs
 obtain ⟨g,i,hs⟩:=Zba hs
 obtain ⟨j,l,hs⟩:=Zba hs
 obtain ⟨o,q,hs⟩:=Zba hs
 obtain ⟨t,u,hs⟩:=Zba hs
 obtain ⟨v,hs⟩:=ZSa hs
 obtain ⟨z,hs⟩:=ZSa hs
 obtain ⟨A,B,hs⟩:=Zba hs
 cases q.symm.trans B
 obtain ⟨C,hs⟩:=ZSa hs
 obtain ⟨D,hs⟩:=ZSa hs
 obtain ⟨E,F,hs⟩:=Zba hs
 cases hs
 simp only [i,l,q,u,v,z,C,D,F,Option.bind_some,cond_true,cond_false,if_true,if_false,ite_true,ite_false,ZGa,and_self,true_and,and_true,eq_self,not_true_eq_false,not_false_eq_true,Bool.false_eq_true,reduceCtorEq]
def Zxb:Nat→Int→Int→Int→Int→Rs→Option ((Int × Int × Int × Rs))
 | 0,_,_,_,_,_=>none
 | n + 1,a,b,d,e,f =>
  cond (decide (e > a)) (
   if 0≤e∧e < (f.length:Int) then
    if 0≤(IntKind.i64.wrap (e - (1:Int)))∧(IntKind.i64.wrap (e - (1:Int))) < (f.length:Int) then
     Option.bind (f[(Int.toNat e)]?) fun g =>
     Option.bind (Zra g 0 3) fun i =>
     Option.bind (f[(Int.toNat (IntKind.i64.wrap (e - (1:Int))))]?) fun j =>
     Option.bind (Zra j 0 3) fun l =>
     Option.bind (Zgd [i,l]) fun o =>
     cond (decide (o < (0:Int))) (
      Option.bind (Zvc n a b d e f) fun s=>match s with
       | (q,t,u,v,z) =>
        Zxb n q t u v z) (
      some (a,b,d,f))
    else none
   else none) (
   some (a,b,d,f))
theorem Zik {R:Type} (n:Nat)(a b d e:Int)(f:Rs)(k0:Int→Int→Int→Rs→Option R):Tw (Zxb n a b d e f) (ZYa n a b d e f k0) (fun s=>match s with | (a0,a1,a2,a3)=>k0 a0 a1 a2 a3):=by
 induction n generalizing a b d e f with
 | zero=>exact Zwa
 | succ n ih =>
  unfold Zxb ZYa
  refine Zha (fun _=>?_) (fun _=>?_)
  ·refine Zqa fun _=>?_
   refine Zqa fun _=>?_
   intro s hs
   obtain ⟨g,i,hs⟩:=Zba hs
   obtain ⟨j,l,hs⟩:=Zba hs
   obtain ⟨o,q,hs⟩:=Zba hs
   obtain ⟨t,u,hs⟩:=Zba hs
   obtain ⟨v,z,hs⟩:=Zba hs
   rcases tw_condI hs with ⟨A,hs⟩ | ⟨A,hs⟩
   ·obtain ⟨B,C,hs⟩:=Zba hs
    have D:=fun k0=>Z6j (R:=R) _ _ _ _ _ _ k0 _ C
    rcases B with ⟨E,F,G,H,I⟩
    ·have J:=ih _ _ _ _ _ s hs
     simp only [i,l,q,u,z,A,D,J,Option.bind_some,cond_true,cond_false,if_true,if_false,ite_true,ite_false,ZGa,and_self,true_and,and_true,eq_self,not_true_eq_false,not_false_eq_true,Bool.false_eq_true,reduceCtorEq]
   ·cases hs
    simp only [i,l,q,u,z,A,Option.bind_some,cond_true,cond_false,if_true,if_false,ite_true,ite_false,ZGa,and_self,true_and,and_true,eq_self,not_true_eq_false,not_false_eq_true,Bool.false_eq_true,reduceCtorEq]
  ·intro s hs
   cases hs
   simp only [Option.bind_some,cond_true,cond_false,if_true,if_false,ite_true,ite_false,ZGa,and_self,true_and,and_true,eq_self,not_true_eq_false,not_false_eq_true,Bool.false_eq_true,reduceCtorEq]
def Zwb:Nat→Int→Int→Int→Rs→Option ((Rs))
 | 0,_,_,_,_=>none
 | n + 1,a5,b6,i7,a =>
  cond (decide (i7 < b6)) (
   Option.bind (Zxb n a5 b6 i7 i7 a) fun s=>match s with
    | (a9,b,d,e) =>
     Zwb n a9 b (IntKind.i64.wrap (d + (1:Int))) e) (
   some a)
theorem Z7j {R:Type} (n:Nat)(a5 b6 i7:Int)(a:Rs)(k0:Rs→Option R):Tw (Zwb n a5 b6 i7 a) (Zdb n a5 b6 i7 a k0) (fun s=>match s with | a0=>k0 a0):=by
 induction n generalizing a5 b6 i7 a with
 | zero=>exact Zwa
 | succ n ih =>
  unfold Zwb Zdb
  refine Zha (fun _=>?_) (fun _=>?_)
  ·refine Zma (Zik _ _ _ _ _ _ _) (fun s=>?_)
   rcases s with ⟨a9,b,d,e⟩
   ·exact ih _ _ _ _
  ·exact Zda rfl
def ZMa (a:Rs)(a2 b3:Int):Option (Rs) :=
 Option.bind (Zwb 9223372036854775808 a2 b3 (IntKind.i64.wrap (a2 + (1:Int))) a) fun s=>match s with
  | b =>
   some b
theorem ZRl {R:Type} (a:Rs)(a2 b3:Int)(k:Rs→Option R):Tw (ZMa a a2 b3) (Zgb 9223372036854775808 a a2 b3 k) (fun s=>match s with | a0=>k a0):=by
 unfold ZMa Zgb
 refine Zma (Z7j _ _ _ _ _ _) (fun s=>?_)
 rcases s with b
 ·exact Zda rfl
theorem ZKl:∀ (a:Rs)(a2 b3:Int)(y:Rs),ZMa a a2 b3=some y→∃ n,∀ (R:Type)(k:Rs→Option R),Zgb n a a2 b3 k=k y:=fun a a2 b3 y h=>⟨9223372036854775808,fun R k=>ZRl a a2 b3 k y h⟩
def ZUc:Cs→Option (Rs)
 | [.os a 3,.int .i64 a2,.int .i64 b3,.fn (Fn.func 184) []]=>ZMa a a2 b3
 | _=>none
def Z2a:List (Nat × Cal):=[(184,.ctr Z8j)]
def ZXc:Ctr:=⟨[some (.s,true),none,none,none],Rs,ZUc,Z6e,false,.d⟩
def ZTa:List (Nat × LC):=[(1,⟨[0,1,2,3,8],[],[],[],[]⟩),
 (4,⟨[0,1,2,3,8,9],[],[],[],[]⟩),
 (1001000,⟨[],[],[],[],[]⟩),
 (1004002,⟨[0,1,2,3,8],[],[],[],[]⟩),
 (4000007,⟨[0,1,2,3,8,9],[],[],[],[]⟩),
 (5000007,⟨[0,1,2,3,8,9],[],[],[],[]⟩)]
def Zrc:SP:=⟨Zea .undef [(0,(.ow 0)),(1,(.val (.int .i64))),(2,(.val (.int .i64))),(3,(.val (.fn 184 []))),(8,(.val (.int .i64))),(9,(.val (.int .i64)))] 0 53,[(.row 3)],[(.ow 0)]⟩
def ZEc:SP:=⟨Zea .undef [(0,(.ow 0)),(1,(.val (.int .i64))),(2,(.val (.int .i64))),(3,(.val (.fn 184 []))),(8,(.val (.int .i64))),(9,(.val (.int .i64)))] 0 53,[(.row 3)],[(.ow 0)]⟩
def ZBc:SP:=⟨Zea .undef [(0,(.ow 0)),(1,(.val (.int .i64))),(2,(.val (.int .i64))),(3,(.val (.fn 184 []))),(8,(.val (.int .i64)))] 0 53,[(.row 3)],[(.ow 0)]⟩
def Zue:Nat→Option SP
 | 4=>some ZEc
 | 1=>some ZBc
 | _=>none
def Zhe:Nat→Option SP
 | 7=>some Zrc
 | _=>none
def ZCb (n:Nat)(ls:List Leaf)(R:Type)(k:Ex→St→Option R):Option R :=
 match ls with
 | [.int a,.int b,.int d,.int e,.rows f]=>Zcb n a b d e f (fun g i j l o=>k .normal ⟨Zea .undef [(0,(TV.ow 0)),(1,(TV.val (PV.int .i64 g))),(2,(TV.val (PV.int .i64 i))),(3,(TV.val (PV.fn (Fn.func 184) []))),(8,(TV.val (PV.int .i64 j))),(9,(TV.val (PV.int .i64 l)))] 0 53,[(Ob.row o 3)],[(TV.ow 0)]⟩)
 | _=>none
def ZXa (n:Nat)(ls:List Leaf)(R:Type)(k:Ex→St→Option R):Option R :=
 match ls with
 | [.int a,.int b,.int d,.int e,.rows f]=>ZYa n a b d e f (fun g i j l=>k (.exit 2) ⟨Zea .undef [(0,(TV.ow 0)),(1,(TV.val (PV.int .i64 g))),(2,(TV.val (PV.int .i64 i))),(3,(TV.val (PV.fn (Fn.func 184) []))),(8,(TV.val (PV.int .i64 j)))] 0 53,[(Ob.row l 3)],[(TV.ow 0)]⟩)
 | _=>none
def ZZa (n:Nat)(ls:List Leaf)(R:Type)(k:Ex→St→Option R):Option R :=
 match ls with
 | [.int a5,.int b6,.int i7,.rows a]=>Zdb n a5 b6 i7 a (fun b=>k (.exit 0) ⟨Zea .undef [] 0 53,[(Ob.row b 3)],[(TV.ow 0)]⟩)
 | _=>none
def Z3e (n key:Nat) (ls:List Leaf) (R:Type) (k:Ex→St→Option R):Option R :=
 match key with
 | 4=>ZXa n ls R k
 | 1=>ZZa n ls R k
 | _=>none
def Z4e (n key:Nat) (ls:List Leaf) (R:Type) (k:Ex→St→Option R):Option R :=
 match key with
 | 7=>ZCb n ls R k
 | _=>none
def ZDc:Code→Bool:=onKeys [7]
def ZEb:Nat→Loops:=patL (Zsa ZTa) Zue Z3e (ZCa ZTa) ZDc Zhe Z4e
theorem ZBj (n:Nat)(a5 b6 i7:Int)(a:Rs)  (R:Type) (k:Ex→St→Option R) :
  Zza T G0 (Zja Z2a) (Zsa ZTa) (ZEb n) (Zia [1,0,0] (Zca Tryz.f270)) (Zoa ZBc [.int a5,.int b6,.int i7,.rows a]) R k=ZZa (n + 1) [.int a5,.int b6,.int i7,.rows a] R k:=by kernel_rfl
theorem Zuj (n:Nat)(a b d e:Int)(f:Rs)  (R:Type) (k:Ex→St→Option R) :
  Zza T G0 (Zja Z2a) (Zsa ZTa) (ZEb n) (Zia [1,0,0,1,0,0,1,0,0] (Zca Tryz.f270)) (Zoa ZEc [.int a,.int b,.int d,.int e,.rows f]) R k=ZXa (n + 1) [.int a,.int b,.int d,.int e,.rows f] R k:=by kernel_rfl
theorem Zdj (n:Nat)(a b d e:Int)(f:Rs)  (R:Type) (k:Ex→St→Option R) :
  Z0a T G0 (Zja Z2a) (ZCa ZTa) (ZEb n) (Zia [1,0,0,1,0,0,1,0,0,1] (Zca Tryz.f270)) (Zoa Zrc [.int a,.int b,.int d,.int e,.rows f]) R k=ZCb n [.int a,.int b,.int d,.int e,.rows f] R k:=by kernel_rfl
theorem ZJl (n:Nat)(a:Rs)(a2 b3:Int) :
  funK T G0 (Zja Z2a) (ZEb n) .d false [some (.s,true),none,none,none] (Zfa Tryz.f270) [.os a 3,.int .i64 a2,.int .i64 b3,.fn (Fn.func 184) []]=Zgb n  a a2 b3 (fun a0=>some (Z6e a0)):=by kernel_rfl
theorem ZTk {ps:Cs} {y:Rs} (h:ZUc ps=some y):∃ (a:Rs) (a2:Int) (b3:Int),ps=[.os a 3,.int .i64 a2,.int .i64 b3,.fn (Fn.func 184) []]:=by
 unfold ZUc at h
 split at h
 ·exact ⟨_,_,_,rfl⟩
 ·cases h
theorem Z1d:Zpa (Zca Tryz.f270)=[Zia [1,0,0] (Zca Tryz.f270),Zia [1,0,0,1,0,0,1,0,0] (Zca Tryz.f270)]:=by kernel_rfl
theorem ZEj:(ZAa (Zca Tryz.f270)).filter ZDc=[Zia [1,0,0,1,0,0,1,0,0,1] (Zca Tryz.f270)]:=by kernel_rfl
theorem ZVj (hΓ:Zga Tryz.prog G0 Z2a) (hok:∀ (a:Rs)(a2 b3:Int)(y:Rs),ZMa a a2 b3=some y→∃ n,∀ (R:Type)(k:Rs→Option R),Zgb n  a a2 b3 k=k y):Zka Tryz.prog G0 270 ZXc:=by
 refine ZHa mixed tOk (Zna hΓ) Tryz.func270 rfl rfl rfl rfl (F:=Zfa Tryz.f270) (ZBa ZTa) (pat:=Zue) (L:=Z3e) (ZFa ZTa) (on:=ZDc) (patj:=Zhe) (J:=Z4e) (fun c hc ls R k=>?_) (fun c hc p hp m ls R k r h=>?_) (fun c hc p hp m ls R k r h=>?_) (fun ps x h=>?_)
 ·rw [show (Zfa Tryz.f270).code=Zca Tryz.f270 from rfl,Z1d] at hc
  simp only [List.mem_cons,List.not_mem_nil,or_false] at hc
  rcases hc with rfl | rfl
  ·show ZZa 0 ls R k=none
   unfold ZZa
   split
   ·rfl
   ·rfl
  ·show ZXa 0 ls R k=none
   unfold ZXa
   split
   ·rfl
   ·rfl
 ·rw [show (Zfa Tryz.f270).code=Zca Tryz.f270 from rfl,Z1d] at hc
  simp only [List.mem_cons,List.not_mem_nil,or_false] at hc
  rcases hc with rfl | rfl
  ·obtain rfl:ZBc=p:=Option.some.inj hp
   change ZZa (m + 1) ls R k=some r at h
   have h':=h
   unfold ZZa at h'
   split at h'
   ·exact (ZBj m _ _ _ _ R k).trans h
   ·cases h'
  ·obtain rfl:ZEc=p:=Option.some.inj hp
   change ZXa (m + 1) ls R k=some r at h
   have h':=h
   unfold ZXa at h'
   split at h'
   ·exact (Zuj m _ _ _ _ _ R k).trans h
   ·cases h'
 ·rw [show (Zfa Tryz.f270).code=Zca Tryz.f270 from rfl,ZEj] at hc
  simp only [List.mem_cons,List.not_mem_nil,or_false] at hc
  rcases hc with rfl
  ·obtain rfl:Zrc=p:=Option.some.inj hp
   change ZCb m ls R k=some r at h
   have h':=h
   unfold ZCb at h'
   split at h'
   ·exact (Zdj m _ _ _ _ _ R k).trans h
   ·cases h'
 ·obtain ⟨y,hy,hx⟩:=Zba h
  cases hx
  obtain ⟨a,a2,b3,rfl⟩:=ZTk hy
  obtain ⟨n,hn⟩:=hok a a2 b3 y hy
  exact ⟨n,(ZJl n a a2 b3).trans (hn _ _)⟩
def ZTc {R:Type}:Nat→Int→Int→Int→Int→Rs→(Int→Int→Int→Rs→Option R)→Option R
 | 0,_,_,_,_,_,_=>none
 | n + 1,a,blockSize23,b,d,e,k0 =>
  cond (decide (d≤a)) (
   none) (
   k0 a blockSize23 b e)
def ZPb {R:Type}:Nat→Int→Int→Rs→(Rs→Option R)→Option R
 | 0,_,_,_,_=>none
 | n + 1,a,blockSize16,b,k0 =>
  cond (decide (blockSize16 < a)) (
   ZTc n a blockSize16 0 (IntKind.i64.wrap ((2:Int) * blockSize16)) b
    (fun (d blockSize19 e:Int)(f:Rs) =>
     cond (decide ((IntKind.i64.wrap (e + blockSize19)) < d)) (
      none) (
      ZPb n d (IntKind.i64.wrap (blockSize19 * (2:Int))) f k0))) (
   k0 b)
def ZQb {R:Type}:Nat→Int→Int→Int→Int→Rs→(Int→Int→Int→Rs→Option R)→Option R
 | 0,_,_,_,_,_,_=>none
 | n + 1,n9,blockSize10,a,b,d,k0 =>
  cond (decide (b≤n9)) (
   Option.bind (ZMa d a b) fun e =>
   ZQb n n9 blockSize10 b (IntKind.i64.wrap (b + blockSize10)) e k0) (
   k0 n9 blockSize10 a d)
def Z1b {R:Type} (n:Nat)(a:Rs)(n2:Int)(k:Rs→Option R):Option R :=
 ZQb n n2 20 0 20 a
  (fun (n3 blockSize4 a5:Int)(b:Rs) =>
   Option.bind (ZMa b a5 n3) fun y7 =>
   ZPb n n3 blockSize4 y7 k)
def Zpj (y:Rs):PV × Cs:=((PV.tuple []),[.os y 3])
def Z4d:Nat→Int→Int→Int→Int→Rs→Option ((Int × Int × Int × Rs))
 | 0,_,_,_,_,_=>none
 | n + 1,a,blockSize23,b,d,e =>
  cond (decide (d≤a)) (
   none) (
   some (a,blockSize23,b,e))
theorem Zfp {R:Type} (n:Nat)(a blockSize23 b d:Int)(e:Rs)(k0:Int→Int→Int→Rs→Option R):Tw (Z4d n a blockSize23 b d e) (ZTc n a blockSize23 b d e k0) (fun s=>match s with | (a0,a1,a2,a3)=>k0 a0 a1 a2 a3):=by
 induction n generalizing a blockSize23 b d e with
 | zero=>exact Zwa
 | succ n ih =>
  unfold Z4d ZTc
  refine Zha (fun _=>?_) (fun _=>?_)
  ·exact Zwa
  ·exact Zda rfl
def Zxc:Nat→Int→Int→Rs→Option ((Rs))
 | 0,_,_,_=>none
 | n + 1,a,blockSize16,b =>
  cond (decide (blockSize16 < a)) (
   Option.bind (Z4d n a blockSize16 0 (IntKind.i64.wrap ((2:Int) * blockSize16)) b) fun s=>match s with
    | (d,blockSize19,e,f) =>
     cond (decide ((IntKind.i64.wrap (e + blockSize19)) < d)) (
      none) (
      Zxc n d (IntKind.i64.wrap (blockSize19 * (2:Int))) f)) (
   some b)
theorem Zcp {R:Type} (n:Nat)(a blockSize16:Int)(b:Rs)(k0:Rs→Option R):Tw (Zxc n a blockSize16 b) (ZPb n a blockSize16 b k0) (fun s=>match s with | a0=>k0 a0):=by
 induction n generalizing a blockSize16 b with
 | zero=>exact Zwa
 | succ n ih =>
  unfold Zxc ZPb
  refine Zha (fun _=>?_) (fun _=>?_)
  ·refine Zma (Zfp _ _ _ _ _ _ _) (fun s=>?_)
   rcases s with ⟨d,blockSize19,e,f⟩
   ·refine Zha (fun _=>?_) (fun _=>?_)
    ·exact Zwa
    ·exact ih _ _ _
  ·exact Zda rfl
def ZAc:Nat→Int→Int→Int→Int→Rs→Option ((Int × Int × Int × Rs))
 | 0,_,_,_,_,_=>none
 | n + 1,n9,blockSize10,a,b,d =>
  cond (decide (b≤n9)) (
   Option.bind (ZMa d a b) fun e =>
   ZAc n n9 blockSize10 b (IntKind.i64.wrap (b + blockSize10)) e) (
   some (n9,blockSize10,a,d))
theorem Zmp {R:Type} (n:Nat)(n9 blockSize10 a b:Int)(d:Rs)(k0:Int→Int→Int→Rs→Option R):Tw (ZAc n n9 blockSize10 a b d) (ZQb n n9 blockSize10 a b d k0) (fun s=>match s with | (a0,a1,a2,a3)=>k0 a0 a1 a2 a3):=by
 induction n generalizing n9 blockSize10 a b d with
 | zero=>exact Zwa
 | succ n ih =>
  unfold ZAc ZQb
  refine Zha (fun _=>?_) (fun _=>?_)
  ·refine Zaa fun e _=>?_
   exact ih _ _ _ _ _
  ·exact Zda rfl
def Ztb (a:Rs)(n2:Int):Option (Rs) :=
 Option.bind (ZAc 9223372036854775808 n2 20 0 20 a) fun s=>match s with
  | (n3,blockSize4,a5,b) =>
   Option.bind (ZMa b a5 n3) fun y7 =>
   Option.bind (Zxc 9223372036854775808 n3 blockSize4 y7) fun s=>match s with
    | d =>
     some d
theorem ZNq {R:Type} (a:Rs)(n2:Int)(k:Rs→Option R):Tw (Ztb a n2) (Z1b 9223372036854775808 a n2 k) (fun s=>match s with | a0=>k a0):=by
 unfold Ztb Z1b
 refine Zma (Zmp _ _ _ _ _ _ _) (fun s=>?_)
 rcases s with ⟨n3,blockSize4,a5,b⟩
 ·refine Zaa fun y7 _=>?_
  refine Zma (Zcp _ _ _ _ _) (fun s=>?_)
  rcases s with d
  ·exact Zda rfl
theorem Zfr:∀ (a:Rs)(n2:Int)(y:Rs),Ztb a n2=some y→∃ n,∀ (R:Type)(k:Rs→Option R),Z1b n a n2 k=k y:=fun a n2 y h=>⟨9223372036854775808,fun R k=>ZNq a n2 k y h⟩
def ZYe:Cs→Option (Rs)
 | [.os a 3,.int .i64 n2,.fn (Fn.func 184) []]=>Ztb a n2
 | _=>none
def Zsb:List (Nat × Cal):=[(270,.ctr ZXc)]
def ZRe:Ctr:=⟨[some (.s,true),none,none],Rs,ZYe,Zpj,false,.d⟩
def Z6a:List (Nat × LC):=[(2,⟨[0,1,2,6,7,8],[],[],[],[]⟩),
 (1002000,⟨[0,1,2,6,7],[],[],[],[]⟩),
 (7,⟨[0,1,2,6],[],[],[],[]⟩),
 (9,⟨[0,1,2,6,7,8],[],[],[],[]⟩),
 (1007002,⟨[],[],[],[],[]⟩),
 (1009004,⟨[0,1,2,6,7],[],[],[],[]⟩)]
def Zqe:SP:=⟨Zea .undef [(0,(.ow 0)),(1,(.val (.int .i64))),(2,(.val (.fn 184 []))),(6,(.val (.int .i64))),(7,(.val (.int .i64))),(8,(.val (.int .i64)))] 0 63,[(.row 3)],[(.ow 0)]⟩
def Zse:SP:=⟨Zea .undef [(0,(.ow 0)),(1,(.val (.int .i64))),(2,(.val (.fn 184 []))),(6,(.val (.int .i64)))] 0 63,[(.row 3)],[(.ow 0)]⟩
def Zie:SP:=⟨Zea .undef [(0,(.ow 0)),(1,(.val (.int .i64))),(2,(.val (.fn 184 []))),(6,(.val (.int .i64))),(7,(.val (.int .i64))),(8,(.val (.int .i64)))] 0 63,[(.row 3)],[(.ow 0)]⟩
def ZMh:Nat→Option SP
 | 9=>some Zqe
 | 7=>some Zse
 | 2=>some Zie
 | _=>none
def Z8g:Nat→Option SP
 | _=>none
def Zob (n:Nat)(ls:List Leaf)(R:Type)(k:Ex→St→Option R):Option R :=
 match ls with
 | [.int a,.int blockSize23,.int b,.int d,.rows e]=>ZTc n a blockSize23 b d e (fun f g i j=>k (.exit 4) ⟨Zea .undef [(0,(TV.ow 0)),(1,(TV.val (PV.int .i64 f))),(2,(TV.val (PV.fn (Fn.func 184) []))),(6,(TV.val (PV.int .i64 g))),(7,(TV.val (PV.int .i64 i)))] 0 63,[(Ob.row j 3)],[(TV.ow 0)]⟩)
 | _=>none
def Znb (n:Nat)(ls:List Leaf)(R:Type)(k:Ex→St→Option R):Option R :=
 match ls with
 | [.int a,.int blockSize16,.rows b]=>ZPb n a blockSize16 b (fun d=>k (.exit 2) ⟨Zea .undef [] 0 63,[(Ob.row d 3)],[(TV.ow 0)]⟩)
 | _=>none
def Zpb (n:Nat)(ls:List Leaf)(R:Type)(k:Ex→St→Option R):Option R :=
 match ls with
 | [.int n9,.int blockSize10,.int a,.int b,.rows d]=>ZQb n n9 blockSize10 a b d (fun e f g i=>k (.exit 0) ⟨Zea .undef [(0,(TV.ow 0)),(1,(TV.val (PV.int .i64 e))),(2,(TV.val (PV.fn (Fn.func 184) []))),(6,(TV.val (PV.int .i64 f))),(7,(TV.val (PV.int .i64 g)))] 0 63,[(Ob.row i 3)],[(TV.ow 0)]⟩)
 | _=>none
def Zsj (n key:Nat) (ls:List Leaf) (R:Type) (k:Ex→St→Option R):Option R :=
 match key with
 | 9=>Zob n ls R k
 | 7=>Znb n ls R k
 | 2=>Zpb n ls R k
 | _=>none
def Zoj (n key:Nat) (ls:List Leaf) (R:Type) (k:Ex→St→Option R):Option R :=
 match key with
 | _=>none
def Zyi:Code→Bool:=fun _=>false
def Z3c:Nat→Loops:=patL (Zsa Z6a) ZMh Zsj (ZCa Z6a) Zyi Z8g Zoj
theorem Zmo (n:Nat)(n9 blockSize10 a b:Int)(d:Rs)  (R:Type) (k:Ex→St→Option R) :
  Zza T G0 (Zja Zsb) (Zsa Z6a) (Z3c n) (Zia [1,1,0,0,0] (Zca Tryz.f226)) (Zoa Zie [.int n9,.int blockSize10,.int a,.int b,.rows d]) R k=Zpb (n + 1) [.int n9,.int blockSize10,.int a,.int b,.rows d] R k:=by kernel_rfl
theorem Zoo (n:Nat)(a blockSize16:Int)(b:Rs)  (R:Type) (k:Ex→St→Option R) :
  Zza T G0 (Zja Zsb) (Zsa Z6a) (Z3c n) (Zia [1,1,1,1,0,0] (Zca Tryz.f226)) (Zoa Zse [.int a,.int blockSize16,.rows b]) R k=Znb (n + 1) [.int a,.int blockSize16,.rows b] R k:=by kernel_rfl
theorem Zeo (n:Nat)(a blockSize23 b d:Int)(e:Rs)  (R:Type) (k:Ex→St→Option R) :
  Zza T G0 (Zja Zsb) (Zsa Z6a) (Z3c n) (Zia [1,1,1,1,0,0,1,0,1,0,0,0] (Zca Tryz.f226)) (Zoa Zqe [.int a,.int blockSize23,.int b,.int d,.rows e]) R k=Zob (n + 1) [.int a,.int blockSize23,.int b,.int d,.rows e] R k:=by kernel_rfl
theorem Z4q (n:Nat)(a:Rs)(n2:Int) :
  funK T G0 (Zja Zsb) (Z3c n) .d false [some (.s,true),none,none] (Zfa Tryz.f226) [.os a 3,.int .i64 n2,.fn (Fn.func 184) []]=Z1b n  a n2 (fun a0=>some (Zpj a0)):=by kernel_rfl
theorem Zsq {ps:Cs} {y:Rs} (h:ZYe ps=some y):∃ (a:Rs) (n2:Int),ps=[.os a 3,.int .i64 n2,.fn (Fn.func 184) []]:=by
 unfold ZYe at h
 split at h
 ·exact ⟨_,_,rfl⟩
 ·cases h
theorem Z2g:Zpa (Zca Tryz.f226)=[Zia [1,1,0,0,0] (Zca Tryz.f226),Zia [1,1,1,1,0,0] (Zca Tryz.f226),Zia [1,1,1,1,0,0,1,0,1,0,0,0] (Zca Tryz.f226)]:=by kernel_rfl
theorem Z9n (hΓ:Zga Tryz.prog G0 Zsb) (hok:∀ (a:Rs)(n2:Int)(y:Rs),Ztb a n2=some y→∃ n,∀ (R:Type)(k:Rs→Option R),Z1b n  a n2 k=k y):Zka Tryz.prog G0 226 ZRe:=by
 refine ZHa mixed tOk (Zna hΓ) Tryz.func226 rfl rfl rfl rfl (F:=Zfa Tryz.f226) (ZBa Z6a) (pat:=ZMh) (L:=Zsj) (ZFa Z6a) (on:=Zyi) (patj:=Z8g) (J:=Zoj) (fun c hc ls R k=>?_) (fun c hc p hp m ls R k r h=>?_) (fun c hc p hp m ls R k r h=>?_) (fun ps x h=>?_)
 ·rw [show (Zfa Tryz.f226).code=Zca Tryz.f226 from rfl,Z2g] at hc
  simp only [List.mem_cons,List.not_mem_nil,or_false] at hc
  rcases hc with rfl | rfl | rfl
  ·show Zpb 0 ls R k=none
   unfold Zpb
   split
   ·rfl
   ·rfl
  ·show Znb 0 ls R k=none
   unfold Znb
   split
   ·rfl
   ·rfl
  ·show Zob 0 ls R k=none
   unfold Zob
   split
   ·rfl
   ·rfl
 ·rw [show (Zfa Tryz.f226).code=Zca Tryz.f226 from rfl,Z2g] at hc
  simp only [List.mem_cons,List.not_mem_nil,or_false] at hc
  rcases hc with rfl | rfl | rfl
  ·obtain rfl:Zie=p:=Option.some.inj hp
   change Zpb (m + 1) ls R k=some r at h
   have h':=h
   unfold Zpb at h'
   split at h'
   ·exact (Zmo m _ _ _ _ _ R k).trans h
   ·cases h'
  ·obtain rfl:Zse=p:=Option.some.inj hp
   change Znb (m + 1) ls R k=some r at h
   have h':=h
   unfold Znb at h'
   split at h'
   ·exact (Zoo m _ _ _ R k).trans h
   ·cases h'
  ·obtain rfl:Zqe=p:=Option.some.inj hp
   change Zob (m + 1) ls R k=some r at h
   have h':=h
   unfold Zob at h'
   split at h'
   ·exact (Zeo m _ _ _ _ _ R k).trans h
   ·cases h'
 ·cases (List.mem_filter.1 hc).2
 ·obtain ⟨y,hy,hx⟩:=Zba h
  cases hx
  obtain ⟨a,n2,rfl⟩:=Zsq hy
  obtain ⟨n,hn⟩:=hok a n2 y hy
  exact ⟨n,(Z4q n a n2).trans (hn _ _)⟩
def ZOb {R:Type} (x1:Rs)(k:Rs→Option R):Option R :=
 Option.bind (Ztb x1 (x1.length:Int)) fun y2 =>
 k y2
def Zui (y:Rs):PV × Cs:=((PV.tuple []),[.os y 3])
def ZSc (x1:Rs):Option (Rs):=ZOb x1 fun a0=>some a0
def Zme:Cs→Option (Rs)
 | [.os x1 3,.fn (Fn.func 184) []]=>ZSc x1
 | _=>none
def Zpe:List (Nat × Cal):=[(226,.ctr ZRe)]
def Zne:Ctr:=⟨[some (.s,true),none],Rs,Zme,Zui,false,.d⟩
theorem Zlq (x1:Rs) :
  funK T G0 (Zja Zpe) noL .d false [some (.s,true),none] (Zfa Tryz.f183) [.os x1 3,.fn (Fn.func 184) []]=ZOb  x1 (fun a0=>some (Zui a0)):=by kernel_rfl
theorem Zdp {ps:Cs} {y:Rs} (h:Zme ps=some y):∃ (x1:Rs),ps=[.os x1 3,.fn (Fn.func 184) []]:=by
 unfold Zme at h
 split at h
 ·exact ⟨_,rfl⟩
 ·cases h
theorem ZAp {R:Type} (x1:Rs)(k:Rs→Option R):ZOb x1 k=Option.bind (ZOb x1 fun a0=>some a0) fun y=>k y:=by
 unfold ZOb
 first | rfl | simp only [Option.bind_assoc,Zya,Zxa,Option.bind_some,Option.bind_none]
theorem Z0n (hΓ:Zga Tryz.prog G0 Zpe):Zka Tryz.prog G0 183 Zne:=by
 refine ZIa mixed tOk (Zna hΓ) Tryz.func183 rfl rfl rfl rfl (F:=Zfa Tryz.f183) (fun ps x h=>?_)
 obtain ⟨y,hy,hx⟩:=Zba h
 cases hx
 obtain ⟨x1,rfl⟩:=Zdp hy
 have hy':ZSc x1=some y:=hy
 refine ⟨noL,ZKa _,(Zlq x1).trans ?_⟩
 unfold ZSc at hy'
 rw [ZAp,hy']
 rfl
def ZLg {R:Type} (l1:Rs)(k:Rs→Option R):Option R :=
 Option.bind (ZOa 3 24 l1) fun y2 =>
 Option.bind (ZVb y2) fun y3 =>
 Option.bind (ZSc y3) fun y4 =>
 k y4
def Ziv (y:Rs):PV × Cs:=((PV.fs y),[])
def ZKg (l1:Rs):Option (Rs):=ZLg l1 fun a0=>some a0
def Zco:Cs→Option (Rs)
 | [.fs l1]=>ZKg l1
 | _=>none
def Zlo:List (Nat × Cal):=[(181,.ctr ZLl),(180,.ctr ZUg),(183,.ctr Zne)]
def Zno:Ctr:=⟨[none],Rs,Zco,Ziv,false,.d⟩
theorem ZZE (l1:Rs) :
  funK T G0 (Zja Zlo) noL .d false [none] (Zfa Tryz.f123) [.fs l1]=ZLg  l1 (fun a0=>some (Ziv a0)):=by kernel_rfl
theorem ZkC {ps:Cs} {y:Rs} (h:Zco ps=some y):∃ (l1:Rs),ps=[.fs l1]:=by
 unfold Zco at h
 split at h
 ·exact ⟨_,rfl⟩
 ·cases h
theorem ZQC {R:Type} (l1:Rs)(k:Rs→Option R):ZLg l1 k=Option.bind (ZLg l1 fun a0=>some a0) fun y=>k y:=by
 unfold ZLg
 first | rfl | simp only [Option.bind_assoc,Zya,Zxa,Option.bind_some,Option.bind_none]
theorem Z8y (hΓ:Zga Tryz.prog G0 Zlo):Zka Tryz.prog G0 123 Zno:=by
 refine ZIa mixed tOk (Zna hΓ) Tryz.func123 rfl rfl rfl rfl (F:=Zfa Tryz.f123) (fun ps x h=>?_)
 obtain ⟨y,hy,hx⟩:=Zba h
 cases hx
 obtain ⟨l1,rfl⟩:=ZkC hy
 have hy':ZKg l1=some y:=hy
 refine ⟨noL,ZKa _,(ZZE l1).trans ?_⟩
 unfold ZKg at hy'
 rw [ZQC,hy']
 rfl
def ZXi {R:Type} (d1 d2 d3:Rs)(k:Rs→Rs→Rs→Option R):Option R :=
 Option.bind (Znf d1) fun y4 =>
 Option.bind (Znc y4) fun y5 =>
 Option.bind (Zpd y5) fun y6 =>
 Option.bind (ZKg d2) fun y7 =>
 Option.bind (ZKg d3) fun y8 =>
 k y6 y7 y8
def ZLz (y:Rs × Rs × Rs):PV × Cs:=((PV.agg [.fs y.1,.fs y.2.1,.fs y.2.2]),[])
def Zmb (d1 d2 d3:Rs):Option (Rs × Rs × Rs):=ZXi d1 d2 d3 fun a0 a1 a2=>some (a0,a1,a2)
def Zks:Cs→Option (Rs × Rs × Rs)
 | [.agg [.fs d1,.fs d2,.fs d3]]=>Zmb d1 d2 d3
 | _=>none
def ZCr:List (Nat × Cal):=[(116,.ctr Zkq),(115,.ctr Zpi),(120,.ctr Zff),(123,.ctr Zno),(1000000001,ro_I)]
def Z0c:Ctr:=⟨[none],Rs × Rs × Rs,Zks,ZLz,false,.d⟩
theorem ZjH (d1 d2 d3:Rs) :
  funK T G0 (Zja ZCr) noL .d false [none] (Zfa Tryz.f46) [.agg [.fs d1,.fs d2,.fs d3]]=ZXi  d1 d2 d3 (fun a0 a1 a2=>some (ZLz (a0,a1,a2))):=by kernel_rfl
theorem ZvG {ps:Cs} {y:Rs × Rs × Rs} (h:Zks ps=some y):∃ (d1:Rs) (d2:Rs) (d3:Rs),ps=[.agg [.fs d1,.fs d2,.fs d3]]:=by
 unfold Zks at h
 split at h
 ·exact ⟨_,_,_,rfl⟩
 ·cases h
theorem ZoF {R:Type} (d1 d2 d3:Rs)(k:Rs→Rs→Rs→Option R):ZXi d1 d2 d3 k=Option.bind (ZXi d1 d2 d3 fun a0 a1 a2=>some (a0,a1,a2)) fun y=>k y.1 y.2.1 y.2.2:=by
 unfold ZXi
 first | rfl | simp only [Option.bind_assoc,Zya,Zxa,Option.bind_some,Option.bind_none]
theorem ZUC (hΓ:Zga Tryz.prog G0 ZCr):Zka Tryz.prog G0 46 Z0c:=by
 refine ZIa mixed tOk (Zna hΓ) Tryz.func46 rfl rfl rfl rfl (F:=Zfa Tryz.f46) (fun ps x h=>?_)
 obtain ⟨y,hy,hx⟩:=Zba h
 cases hx
 obtain ⟨d1,d2,d3,rfl⟩:=ZvG hy
 have hy':Zmb d1 d2 d3=some y:=hy
 refine ⟨noL,ZKa _,(ZjH d1 d2 d3).trans ?_⟩
 unfold Zmb at hy'
 rw [ZoF,hy']
 rfl
def ZQg {R:Type} (t1:Int)(t2 t3:Rs)(a:Cs)(k:Bool→Option R):Option R :=
 cond (decide (t1 ≥ (0:Int))) (
  Option.bind (a[2]?) fun c5 =>
  Option.bind (PV.asFs c5) fun b =>
  cond (decide (t1 < (b.length:Int))) (
   Option.bind (a[2]?) fun c7 =>
   Option.bind (PV.asFs c7) fun d =>
   Option.bind (idx d t1) fun e9 =>
   if e9.length=1 then
    Option.bind (e9[0]?) fun e =>
    Option.bind (PV.asI .i64 e) fun f =>
    k (f !=(-1:Int))
   else none) (
   k false)) (
  k false)
def Zgv (y:Bool):PV × Cs:=((PV.bool y),[])
def ZFo (t1:Int)(t2 t3:Rs)(a:Cs):Option (Bool):=ZQg t1 t2 t3 a fun a0=>some a0
def Zig:Cs→Option (Bool)
 | [.agg [.int .i64 t1,.fs t2,.fs t3],.rp a 0]=>ZFo t1 t2 t3 a
 | _=>none
def Zao:List (Nat × Cal):=[(1000000002,ro_I)]
def Zzo:Ctr:=⟨[none,none],Bool,Zig,Zgv,true,.d⟩
theorem ZSD (t1:Int)(t2 t3:Rs)(a:Cs) :
  funK T G0 (Zja Zao) noL .d true [none,none] (Zfa Tryz.f186) [.agg [.int .i64 t1,.fs t2,.fs t3],.rp a 0]=ZQg  t1 t2 t3 a (fun a0=>some (Zgv a0)):=by kernel_rfl
theorem ZbC {ps:Cs} {y:Bool} (h:Zig ps=some y):∃ (t1:Int) (t2:Rs) (t3:Rs) (a:Cs),ps=[.agg [.int .i64 t1,.fs t2,.fs t3],.rp a 0]:=by
 unfold Zig at h
 split at h
 ·exact ⟨_,_,_,_,rfl⟩
 ·cases h
theorem ZDC {R:Type} (t1:Int)(t2 t3:Rs)(a:Cs)(k:Bool→Option R):ZQg t1 t2 t3 a k=Option.bind (ZQg t1 t2 t3 a fun a0=>some a0) fun y=>k y:=by
 unfold ZQg
 first | rfl | simp only [Option.bind_assoc,Zya,Zxa,Option.bind_some,Option.bind_none]
theorem Zpz (hΓ:Zga Tryz.prog G0 Zao):Zka Tryz.prog G0 186 Zzo:=by
 refine ZIa mixed tOk (Zna hΓ) Tryz.func186 rfl rfl rfl rfl (F:=Zfa Tryz.f186) (fun ps x h=>?_)
 obtain ⟨y,hy,hx⟩:=Zba h
 cases hx
 obtain ⟨t1,t2,t3,a,rfl⟩:=ZbC hy
 have hy':ZFo t1 t2 t3 a=some y:=hy
 refine ⟨noL,ZKa _,(ZSD t1 t2 t3 a).trans ?_⟩
 unfold ZFo at hy'
 rw [ZDC,hy']
 rfl
def ZKc {R:Type}:Nat→Rs→Cs→Int→Int→(Int→Option R)→(Unit→Option R)→Option R
 | 0,_,_,_,_,_,_=>none
 | n + 1,a,b,d,e,k0,k1 =>
  cond (decide (e < d)) (
   Option.bind (idx a e) fun f =>
   if f.length=3 then
    Option.bind (Zra f 0 3) fun g =>
    Option.bind (Zig [g,.rp b 0]) fun i =>
    cond i (
     k0 e) (
     ZKc n a b d (IntKind.i64.wrap (e + (1:Int))) k0 k1)
   else none) (
   k1 ())
def Zed {R:Type} (n:Nat)(s1 a b d e f g:Rs)(n8:Int)(k:Int→Option R):Option R :=
 ZKc n s1 [.fs a,.fs b,.fs d,.fs e,.fs f,.fs g,.int .i64 n8] (s1.length:Int) 0 k
  (fun (_:Unit) =>
   k (-1))
def Zin (y:Int):PV × Cs:=((PV.int .i64 y),[])
def ZCd:Nat→Rs→Cs→Int→Int→Option ((Int) ⊕ (Unit))
 | 0,_,_,_,_=>none
 | n + 1,a,b,d,e =>
  cond (decide (e < d)) (
   Option.bind (idx a e) fun f =>
   if f.length=3 then
    Option.bind (Zra f 0 3) fun g =>
    Option.bind (Zig [g,.rp b 0]) fun i =>
    cond i (
     some (Sum.inl e)) (
     ZCd n a b d (IntKind.i64.wrap (e + (1:Int))))
   else none) (
   some (Sum.inr ()))
theorem Z1s {R:Type} (n:Nat)(a:Rs)(b:Cs)(d e:Int)(k0:Int→Option R)(k1:Unit→Option R):Tw (ZCd n a b d e) (ZKc n a b d e k0 k1) (fun s=>match s with | (Sum.inl a0)=>k0 a0 | (Sum.inr _)=>k1 ()):=by
 induction n generalizing a b d e with
 | zero=>exact Zwa
 | succ n ih =>
  unfold ZCd ZKc
  refine Zha (fun _=>?_) (fun _=>?_)
  ·refine Zaa fun f _=>?_
   refine Zqa fun _=>?_
   refine Zaa fun g _=>?_
   refine Zaa fun i _=>?_
   refine Zha (fun _=>?_) (fun _=>?_)
   ·exact Zda rfl
   ·exact ih _ _ _ _
  ·exact Zda rfl
def Zdc (s1 a b d e f g:Rs)(n8:Int):Option (Int) :=
 Option.bind (ZCd 9223372036854775808 s1 [.fs a,.fs b,.fs d,.fs e,.fs f,.fs g,.int .i64 n8] (s1.length:Int) 0) fun s=>match s with
  | (Sum.inl i9) =>
   some i9
  | (Sum.inr _) =>
   some (-1)
theorem Z4v {R:Type} (s1 a b d e f g:Rs)(n8:Int)(k:Int→Option R):Tw (Zdc s1 a b d e f g n8) (Zed 9223372036854775808 s1 a b d e f g n8 k) (fun s=>match s with | a0=>k a0):=by
 unfold Zdc Zed
 refine Zma (Z1s _ _ _ _ _ _ _) (fun s=>?_)
 rcases s with i9 | ⟨⟩
 ·exact Zda rfl
 ·exact Zda rfl
theorem ZIv:∀ (s1 a b d e f g:Rs)(n8 y:Int),Zdc s1 a b d e f g n8=some y→∃ n,∀ (R:Type)(k:Int→Option R),Zed n s1 a b d e f g n8 k=k y:=fun s1 a b d e f g n8 y h=>⟨9223372036854775808,fun R k=>Z4v s1 a b d e f g n8 k y h⟩
def Zfh:Cs→Option (Int)
 | [.fs s1,.fn (Fn.func 186) [.rp [.fs a,.fs b,.fs d,.fs e,.fs f,.fs g,.int .i64 n8] 0]]=>Zdc s1 a b d e f g n8
 | _=>none
def Zre:List (Nat × Cal):=[(186,.ctr Zzo)]
def Zdh:Ctr:=⟨[none,none],Int,Zfh,Zin,true,.d⟩
def Zpc:List (Nat × LC):=[(2,⟨[0,1,7,8],[],[],[],[]⟩),
 (2000002,⟨[4],[],[],[],[]⟩),
 (1002000,⟨[],[],[],[],[]⟩)]
def Zug:SP:=⟨Zea .undef [(0,(.val .fs)),(1,(.val (.fn 186 [(.rp 0)]))),(7,(.val (.int .i64))),(8,(.val (.int .i64)))] 0 19,[],[]⟩
def Zbl:Nat→Option SP
 | 2=>some Zug
 | _=>none
def Z5j:Nat→Option SP
 | _=>none
def ZTb (n:Nat)(ls:List Leaf)(R:Type)(k:Ex→St→Option R):Option R :=
 match ls with
 | [.rows a,.cells b,.int d,.int e]=>ZKc n a b d e (fun f=>k .ret ⟨Zea .undef [(4,(TV.val (PV.int .i64 f)))] 0 19,[],[]⟩)
   (fun _=>k (.exit 0) ⟨Zea .undef [] 0 19,[],[]⟩)
 | _=>none
def Zvm (n key:Nat) (ls:List Leaf) (R:Type) (k:Ex→St→Option R):Option R :=
 match key with
 | 2=>ZTb n ls R k
 | _=>none
def Zsm (n key:Nat) (ls:List Leaf) (R:Type) (k:Ex→St→Option R):Option R :=
 match key with
 | _=>none
def Z2l:Code→Bool:=fun _=>false
def ZSm:Nat→Loops:=patL (Zsa Zpc) Zbl Zvm (ZCa Zpc) Z2l Z5j Zsm
theorem ZAr (n:Nat)(a:Rs)(b:Cs)(d e:Int)  (R:Type) (k:Ex→St→Option R) :
  Zza T G0 (Zja Zre) (Zsa Zpc) (ZSm n) (Zia [1,0,1,0,0] (Zca Tryz.f176)) (Zoa Zug [.rows a,.cells b,.int d,.int e]) R k=ZTb (n + 1) [.rows a,.cells b,.int d,.int e] R k:=by kernel_rfl
theorem Zxv (n:Nat)(s1 a b d e f g:Rs)(n8:Int) :
  funK T G0 (Zja Zre) (ZSm n) .d true [none,none] (Zfa Tryz.f176) [.fs s1,.fn (Fn.func 186) [.rp [.fs a,.fs b,.fs d,.fs e,.fs f,.fs g,.int .i64 n8] 0]]=Zed n  s1 a b d e f g n8 (fun a0=>some (Zin a0)):=by kernel_rfl
theorem ZPu {ps:Cs} {y:Int} (h:Zfh ps=some y):∃ (s1:Rs) (a:Rs) (b:Rs) (d:Rs) (e:Rs) (f:Rs) (g:Rs) (n8:Int),ps=[.fs s1,.fn (Fn.func 186) [.rp [.fs a,.fs b,.fs d,.fs e,.fs f,.fs g,.int .i64 n8] 0]]:=by
 unfold Zfh at h
 split at h
 ·exact ⟨_,_,_,_,_,_,_,_,rfl⟩
 ·cases h
theorem Zmj:Zpa (Zca Tryz.f176)=[Zia [1,0,1,0,0] (Zca Tryz.f176)]:=by kernel_rfl
theorem ZTr (hΓ:Zga Tryz.prog G0 Zre) (hok:∀ (s1 a b d e f g:Rs)(n8 y:Int),Zdc s1 a b d e f g n8=some y→∃ n,∀ (R:Type)(k:Int→Option R),Zed n  s1 a b d e f g n8 k=k y):Zka Tryz.prog G0 176 Zdh:=by
 refine ZHa mixed tOk (Zna hΓ) Tryz.func176 rfl rfl rfl rfl (F:=Zfa Tryz.f176) (ZBa Zpc) (pat:=Zbl) (L:=Zvm) (ZFa Zpc) (on:=Z2l) (patj:=Z5j) (J:=Zsm) (fun c hc ls R k=>?_) (fun c hc p hp m ls R k r h=>?_) (fun c hc p hp m ls R k r h=>?_) (fun ps x h=>?_)
 ·rw [show (Zfa Tryz.f176).code=Zca Tryz.f176 from rfl,Zmj] at hc
  simp only [List.mem_cons,List.not_mem_nil,or_false] at hc
  rcases hc with rfl
  ·show ZTb 0 ls R k=none
   unfold ZTb
   split
   ·rfl
   ·rfl
 ·rw [show (Zfa Tryz.f176).code=Zca Tryz.f176 from rfl,Zmj] at hc
  simp only [List.mem_cons,List.not_mem_nil,or_false] at hc
  rcases hc with rfl
  ·obtain rfl:Zug=p:=Option.some.inj hp
   change ZTb (m + 1) ls R k=some r at h
   have h':=h
   unfold ZTb at h'
   split at h'
   ·exact (ZAr m _ _ _ _ R k).trans h
   ·cases h'
 ·cases (List.mem_filter.1 hc).2
 ·obtain ⟨y,hy,hx⟩:=Zba h
  cases hx
  obtain ⟨s1,a,b,d,e,f,g,n8,rfl⟩:=ZPu hy
  obtain ⟨n,hn⟩:=hok s1 a b d e f g n8 y hy
  exact ⟨n,(Zxv n s1 a b d e f g n8).trans (hn _ _)⟩
def ZJc {R:Type} (s1 a b d e f g:Rs)(n8:Int)(k:Bool→Option R):Option R :=
 Option.bind (Zdc s1 a b d e f g n8) fun y9 =>
 k (decide (y9 ≥ (0:Int)))
def Zdm (y:Bool):PV × Cs:=((PV.bool y),[])
def ZYd (s1 a b d e f g:Rs)(n8:Int):Option (Bool):=ZJc s1 a b d e f g n8 fun a0=>some a0
def ZHg:Cs→Option (Bool)
 | [.fs s1,.fn (Fn.func 186) [.rp [.fs a,.fs b,.fs d,.fs e,.fs f,.fs g,.int .i64 n8] 0]]=>ZYd s1 a b d e f g n8
 | _=>none
def Zlg:List (Nat × Cal):=[(176,.ctr Zdh)]
def ZDg:Ctr:=⟨[none,none],Bool,ZHg,Zdm,true,.d⟩
theorem Znu (s1 a b d e f g:Rs)(n8:Int) :
  funK T G0 (Zja Zlg) noL .d true [none,none] (Zfa Tryz.f185) [.fs s1,.fn (Fn.func 186) [.rp [.fs a,.fs b,.fs d,.fs e,.fs f,.fs g,.int .i64 n8] 0]]=ZJc  s1 a b d e f g n8 (fun a0=>some (Zdm a0)):=by kernel_rfl
theorem Z9s {ps:Cs} {y:Bool} (h:ZHg ps=some y):∃ (s1:Rs) (a:Rs) (b:Rs) (d:Rs) (e:Rs) (f:Rs) (g:Rs) (n8:Int),ps=[.fs s1,.fn (Fn.func 186) [.rp [.fs a,.fs b,.fs d,.fs e,.fs f,.fs g,.int .i64 n8] 0]]:=by
 unfold ZHg at h
 split at h
 ·exact ⟨_,_,_,_,_,_,_,_,rfl⟩
 ·cases h
theorem Z6s {R:Type} (s1 a b d e f g:Rs)(n8:Int)(k:Bool→Option R):ZJc s1 a b d e f g n8 k=Option.bind (ZJc s1 a b d e f g n8 fun a0=>some a0) fun y=>k y:=by
 unfold ZJc
 first | rfl | simp only [Option.bind_assoc,Zya,Zxa,Option.bind_some,Option.bind_none]
theorem Zkr (hΓ:Zga Tryz.prog G0 Zlg):Zka Tryz.prog G0 185 ZDg:=by
 refine ZIa mixed tOk (Zna hΓ) Tryz.func185 rfl rfl rfl rfl (F:=Zfa Tryz.f185) (fun ps x h=>?_)
 obtain ⟨y,hy,hx⟩:=Zba h
 cases hx
 obtain ⟨s1,a,b,d,e,f,g,n8,rfl⟩:=Z9s hy
 have hy':ZYd s1 a b d e f g n8=some y:=hy
 refine ⟨noL,ZKa _,(Znu s1 a b d e f g n8).trans ?_⟩
 unfold ZYd at hy'
 rw [Z6s,hy']
 rfl
def ZLk {R:Type} (p1 p2 p3 p4 p5 p6:Rs)(p7:Int)(d8 d9 a:Rs)(k:Bool→Option R):Option R :=
 Option.bind (ZYd d8 p1 p2 p3 p4 p5 p6 p7) fun b =>
 k b
def Z7A (y:Bool):PV × Cs:=((PV.bool y),[])
def ZUo (p1 p2 p3 p4 p5 p6:Rs)(p7:Int)(d8 d9 a:Rs):Option (Bool):=ZLk p1 p2 p3 p4 p5 p6 p7 d8 d9 a fun a0=>some a0
def ZSu:Cs→Option (Bool)
 | [.agg [.fs p1,.fs p2,.fs p3,.fs p4,.fs p5,.fs p6,.int .i64 p7],.agg [.fs d8,.fs d9,.fs a]]=>ZUo p1 p2 p3 p4 p5 p6 p7 d8 d9 a
 | _=>none
def Zfu:List (Nat × Cal):=[(185,.ctr ZDg),(1000000002,ro_I),(1000000003,ro_I)]
def Zqu:Ctr:=⟨[none,none],Bool,ZSu,Z7A,true,.d⟩
theorem ZFI (p1 p2 p3 p4 p5 p6:Rs)(p7:Int)(d8 d9 a:Rs) :
  funK T G0 (Zja Zfu) noL .d true [none,none] (Zfa Tryz.f124) [.agg [.fs p1,.fs p2,.fs p3,.fs p4,.fs p5,.fs p6,.int .i64 p7],.agg [.fs d8,.fs d9,.fs a]]=ZLk  p1 p2 p3 p4 p5 p6 p7 d8 d9 a (fun a0=>some (Z7A a0)):=by kernel_rfl
theorem ZCH {ps:Cs} {y:Bool} (h:ZSu ps=some y):∃ (p1:Rs) (p2:Rs) (p3:Rs) (p4:Rs) (p5:Rs) (p6:Rs) (p7:Int) (d8:Rs) (d9:Rs) (a:Rs),ps=[.agg [.fs p1,.fs p2,.fs p3,.fs p4,.fs p5,.fs p6,.int .i64 p7],.agg [.fs d8,.fs d9,.fs a]]:=by
 unfold ZSu at h
 split at h
 ·exact ⟨_,_,_,_,_,_,_,_,_,_,rfl⟩
 ·cases h
theorem ZnH {R:Type} (p1 p2 p3 p4 p5 p6:Rs)(p7:Int)(d8 d9 a:Rs)(k:Bool→Option R):ZLk p1 p2 p3 p4 p5 p6 p7 d8 d9 a k=Option.bind (ZLk p1 p2 p3 p4 p5 p6 p7 d8 d9 a fun a0=>some a0) fun y=>k y:=by
 unfold ZLk
 first | rfl | simp only [Option.bind_assoc,Zya,Zxa,Option.bind_some,Option.bind_none]
theorem ZnE (hΓ:Zga Tryz.prog G0 Zfu):Zka Tryz.prog G0 124 Zqu:=by
 refine ZIa mixed tOk (Zna hΓ) Tryz.func124 rfl rfl rfl rfl (F:=Zfa Tryz.f124) (fun ps x h=>?_)
 obtain ⟨y,hy,hx⟩:=Zba h
 cases hx
 obtain ⟨p1,p2,p3,p4,p5,p6,p7,d8,d9,a,rfl⟩:=ZCH hy
 have hy':ZUo p1 p2 p3 p4 p5 p6 p7 d8 d9 a=some y:=hy
 refine ⟨noL,ZKa _,(ZFI p1 p2 p3 p4 p5 p6 p7 d8 d9 a).trans ?_⟩
 unfold ZUo at hy'
 rw [ZnH,hy']
 rfl
def ZUi {R:Type} (a b:Int)(k:Bool→Option R):Option R :=
 cond (a !=(-1:Int)) (
  k (a != b)) (
  k false)
def Ztz (y:Bool):PV × Cs:=((PV.bool y),[])
def ZNg (a b:Int):Option (Bool):=ZUi a b fun a0=>some a0
def Zns:Cs→Option (Bool)
 | [.int .i64 a,.int .i64 b]=>ZNg a b
 | _=>none
def ZdA:List (Nat × Cal):=[]
def ZEm:Ctr:=⟨[none,none],Bool,Zns,Ztz,true,.d⟩
theorem Z7G (a b:Int) :
  funK T G0 (Zja ZdA) noL .d true [none,none] (Zfa Tryz.f189) [.int .i64 a,.int .i64 b]=ZUi  a b (fun a0=>some (Ztz a0)):=by kernel_rfl
theorem ZeF {ps:Cs} {y:Bool} (h:Zns ps=some y):∃ (a:Int) (b:Int),ps=[.int .i64 a,.int .i64 b]:=by
 unfold Zns at h
 split at h
 ·exact ⟨_,_,rfl⟩
 ·cases h
theorem ZPF {R:Type} (a b:Int)(k:Bool→Option R):ZUi a b k=Option.bind (ZUi a b fun a0=>some a0) fun y=>k y:=by
 unfold ZUi
 first | rfl | simp only [Option.bind_assoc,Zya,Zxa,Option.bind_some,Option.bind_none]
theorem Z1B (hΓ:Zga Tryz.prog G0 ZdA):Zka Tryz.prog G0 189 ZEm:=by
 refine ZIa mixed tOk (Zna hΓ) Tryz.func189 rfl rfl rfl rfl (F:=Zfa Tryz.f189) (fun ps x h=>?_)
 obtain ⟨y,hy,hx⟩:=Zba h
 cases hx
 obtain ⟨a,b,rfl⟩:=ZeF hy
 have hy':ZNg a b=some y:=hy
 refine ⟨noL,ZKa _,(Z7G a b).trans ?_⟩
 unfold ZNg at hy'
 rw [ZPF,hy']
 rfl
def ZGf {R:Type} (h1 h2 h3:Int)(a:Cs)(k:Bool→Option R):Option R :=
 Option.bind (a[0]?) fun c5 =>
 Option.bind (PV.asI .i64 c5) fun n6 =>
 Option.bind (ZNg h2 n6) fun y7 =>
 k y7
def ZCt (y:Bool):PV × Cs:=((PV.bool y),[])
def ZBn (h1 h2 h3:Int)(a:Cs):Option (Bool):=ZGf h1 h2 h3 a fun a0=>some a0
def ZUf:Cs→Option (Bool)
 | [.agg [.int .i64 h1,.int .i64 h2,.int .i64 h3],.rp a 0]=>ZBn h1 h2 h3 a
 | _=>none
def Z5m:List (Nat × Cal):=[(189,.ctr ZEm),(1000000002,ro_I)]
def Zun:Ctr:=⟨[none,none],Bool,ZUf,ZCt,true,.d⟩
theorem ZpC (h1 h2 h3:Int)(a:Cs) :
  funK T G0 (Zja Z5m) noL .d true [none,none] (Zfa Tryz.f188) [.agg [.int .i64 h1,.int .i64 h2,.int .i64 h3],.rp a 0]=ZGf  h1 h2 h3 a (fun a0=>some (ZCt a0)):=by kernel_rfl
theorem ZkA {ps:Cs} {y:Bool} (h:ZUf ps=some y):∃ (h1:Int) (h2:Int) (h3:Int) (a:Cs),ps=[.agg [.int .i64 h1,.int .i64 h2,.int .i64 h3],.rp a 0]:=by
 unfold ZUf at h
 split at h
 ·exact ⟨_,_,_,_,rfl⟩
 ·cases h
theorem Z2A {R:Type} (h1 h2 h3:Int)(a:Cs)(k:Bool→Option R):ZGf h1 h2 h3 a k=Option.bind (ZGf h1 h2 h3 a fun a0=>some a0) fun y=>k y:=by
 unfold ZGf
 first | rfl | simp only [Option.bind_assoc,Zya,Zxa,Option.bind_some,Option.bind_none]
theorem Z8x (hΓ:Zga Tryz.prog G0 Z5m):Zka Tryz.prog G0 188 Zun:=by
 refine ZIa mixed tOk (Zna hΓ) Tryz.func188 rfl rfl rfl rfl (F:=Zfa Tryz.f188) (fun ps x h=>?_)
 obtain ⟨y,hy,hx⟩:=Zba h
 cases hx
 obtain ⟨h1,h2,h3,a,rfl⟩:=ZkA hy
 have hy':ZBn h1 h2 h3 a=some y:=hy
 refine ⟨noL,ZKa _,(ZpC h1 h2 h3 a).trans ?_⟩
 unfold ZBn at hy'
 rw [Z2A,hy']
 rfl
def ZOc {R:Type}:Nat→Rs→Cs→Int→Int→(Int→Option R)→(Unit→Option R)→Option R
 | 0,_,_,_,_,_,_=>none
 | n + 1,s4,f5,i6,i7,k0,k1 =>
  cond (decide (i7 < i6)) (
   Option.bind (idx s4 i7) fun e8 =>
   if e8.length=3 then
    Option.bind (Zra e8 0 3) fun p9 =>
    Option.bind (ZUf [p9,.rp f5 0]) fun a =>
    cond a (
     k0 i7) (
     ZOc n s4 f5 i6 (IntKind.i64.wrap (i7 + (1:Int))) k0 k1)
   else none) (
   k1 ())
def Z2c {R:Type} (n:Nat)(s1:Rs)(n2:Int)(k:Int→Option R):Option R :=
 ZOc n s1 [.int .i64 n2] (s1.length:Int) 0 k
  (fun (_:Unit) =>
   k (-1))
def Zlm (y:Int):PV × Cs:=((PV.int .i64 y),[])
def ZHd:Nat→Rs→Cs→Int→Int→Option ((Int) ⊕ (Unit))
 | 0,_,_,_,_=>none
 | n + 1,s4,f5,i6,i7 =>
  cond (decide (i7 < i6)) (
   Option.bind (idx s4 i7) fun e8 =>
   if e8.length=3 then
    Option.bind (Zra e8 0 3) fun p9 =>
    Option.bind (ZUf [p9,.rp f5 0]) fun a =>
    cond a (
     some (Sum.inl i7)) (
     ZHd n s4 f5 i6 (IntKind.i64.wrap (i7 + (1:Int))))
   else none) (
   some (Sum.inr ()))
theorem Zdt {R:Type} (n:Nat)(s4:Rs)(f5:Cs)(i6 i7:Int)(k0:Int→Option R)(k1:Unit→Option R):Tw (ZHd n s4 f5 i6 i7) (ZOc n s4 f5 i6 i7 k0 k1) (fun s=>match s with | (Sum.inl a0)=>k0 a0 | (Sum.inr _)=>k1 ()):=by
 induction n generalizing s4 f5 i6 i7 with
 | zero=>exact Zwa
 | succ n ih =>
  unfold ZHd ZOc
  refine Zha (fun _=>?_) (fun _=>?_)
  ·refine Zaa fun e8 _=>?_
   refine Zqa fun _=>?_
   refine Zaa fun p9 _=>?_
   refine Zaa fun a _=>?_
   refine Zha (fun _=>?_) (fun _=>?_)
   ·exact Zda rfl
   ·exact ih _ _ _ _
  ·exact Zda rfl
def Z9b (s1:Rs)(n2:Int):Option (Int) :=
 Option.bind (ZHd 9223372036854775808 s1 [.int .i64 n2] (s1.length:Int) 0) fun s=>match s with
  | (Sum.inl i3) =>
   some i3
  | (Sum.inr _) =>
   some (-1)
theorem ZUv {R:Type} (s1:Rs)(n2:Int)(k:Int→Option R):Tw (Z9b s1 n2) (Z2c 9223372036854775808 s1 n2 k) (fun s=>match s with | a0=>k a0):=by
 unfold Z9b Z2c
 refine Zma (Zdt _ _ _ _ _ _ _) (fun s=>?_)
 rcases s with i3 | ⟨⟩
 ·exact Zda rfl
 ·exact Zda rfl
theorem Zrv:∀ (s1:Rs)(n2 y:Int),Z9b s1 n2=some y→∃ n,∀ (R:Type)(k:Int→Option R),Z2c n s1 n2 k=k y:=fun s1 n2 y h=>⟨9223372036854775808,fun R k=>ZUv s1 n2 k y h⟩
def Zmh:Cs→Option (Int)
 | [.fs s1,.fn (Fn.func 188) [.rp [.int .i64 n2] 0]]=>Z9b s1 n2
 | _=>none
def Zke:List (Nat × Cal):=[(188,.ctr Zun)]
def Zoh:Ctr:=⟨[none,none],Int,Zmh,Zlm,true,.d⟩
def Ztc:List (Nat × LC):=[(2,⟨[0,1,7,8],[],[],[],[]⟩),
 (2000002,⟨[4],[],[],[],[]⟩),
 (1002000,⟨[],[],[],[],[]⟩)]
def Z5g:SP:=⟨Zea .undef [(0,(.val .fs)),(1,(.val (.fn 188 [(.rp 0)]))),(7,(.val (.int .i64))),(8,(.val (.int .i64)))] 0 19,[],[]⟩
def Z8k:Nat→Option SP
 | 2=>some Z5g
 | _=>none
def Z4j:Nat→Option SP
 | _=>none
def ZWb (n:Nat)(ls:List Leaf)(R:Type)(k:Ex→St→Option R):Option R :=
 match ls with
 | [.rows s4,.cells f5,.int i6,.int i7]=>ZOc n s4 f5 i6 i7 (fun a=>k .ret ⟨Zea .undef [(4,(TV.val (PV.int .i64 a)))] 0 19,[],[]⟩)
   (fun _=>k (.exit 0) ⟨Zea .undef [] 0 19,[],[]⟩)
 | _=>none
def Zjm (n key:Nat) (ls:List Leaf) (R:Type) (k:Ex→St→Option R):Option R :=
 match key with
 | 2=>ZWb n ls R k
 | _=>none
def Zvn (n key:Nat) (ls:List Leaf) (R:Type) (k:Ex→St→Option R):Option R :=
 match key with
 | _=>none
def Z1l:Code→Bool:=fun _=>false
def Zxn:Nat→Loops:=patL (Zsa Ztc) Z8k Zjm (ZCa Ztc) Z1l Z4j Zvn
theorem Zbs (n:Nat)(s4:Rs)(f5:Cs)(i6 i7:Int)  (R:Type) (k:Ex→St→Option R) :
  Zza T G0 (Zja Zke) (Zsa Ztc) (Zxn n) (Zia [1,0,1,0,0] (Zca Tryz.f225)) (Zoa Z5g [.rows s4,.cells f5,.int i6,.int i7]) R k=ZWb (n + 1) [.rows s4,.cells f5,.int i6,.int i7] R k:=by kernel_rfl
theorem Znv (n:Nat)(s1:Rs)(n2:Int) :
  funK T G0 (Zja Zke) (Zxn n) .d true [none,none] (Zfa Tryz.f225) [.fs s1,.fn (Fn.func 188) [.rp [.int .i64 n2] 0]]=Z2c n  s1 n2 (fun a0=>some (Zlm a0)):=by kernel_rfl
theorem Zlu {ps:Cs} {y:Int} (h:Zmh ps=some y):∃ (s1:Rs) (n2:Int),ps=[.fs s1,.fn (Fn.func 188) [.rp [.int .i64 n2] 0]]:=by
 unfold Zmh at h
 split at h
 ·exact ⟨_,_,rfl⟩
 ·cases h
theorem Z7i:Zpa (Zca Tryz.f225)=[Zia [1,0,1,0,0] (Zca Tryz.f225)]:=by kernel_rfl
theorem Zus (hΓ:Zga Tryz.prog G0 Zke) (hok:∀ (s1:Rs)(n2 y:Int),Z9b s1 n2=some y→∃ n,∀ (R:Type)(k:Int→Option R),Z2c n  s1 n2 k=k y):Zka Tryz.prog G0 225 Zoh:=by
 refine ZHa mixed tOk (Zna hΓ) Tryz.func225 rfl rfl rfl rfl (F:=Zfa Tryz.f225) (ZBa Ztc) (pat:=Z8k) (L:=Zjm) (ZFa Ztc) (on:=Z1l) (patj:=Z4j) (J:=Zvn) (fun c hc ls R k=>?_) (fun c hc p hp m ls R k r h=>?_) (fun c hc p hp m ls R k r h=>?_) (fun ps x h=>?_)
 ·rw [show (Zfa Tryz.f225).code=Zca Tryz.f225 from rfl,Z7i] at hc
  simp only [List.mem_cons,List.not_mem_nil,or_false] at hc
  rcases hc with rfl
  ·show ZWb 0 ls R k=none
   unfold ZWb
   split
   ·rfl
   ·rfl
 ·rw [show (Zfa Tryz.f225).code=Zca Tryz.f225 from rfl,Z7i] at hc
  simp only [List.mem_cons,List.not_mem_nil,or_false] at hc
  rcases hc with rfl
  ·obtain rfl:Z5g=p:=Option.some.inj hp
   change ZWb (m + 1) ls R k=some r at h
   have h':=h
   unfold ZWb at h'
   split at h'
   ·exact (Zbs m _ _ _ _ R k).trans h
   ·cases h'
 ·cases (List.mem_filter.1 hc).2
 ·obtain ⟨y,hy,hx⟩:=Zba h
  cases hx
  obtain ⟨s1,n2,rfl⟩:=Zlu hy
  obtain ⟨n,hn⟩:=hok s1 n2 y hy
  exact ⟨n,(Znv n s1 n2).trans (hn _ _)⟩
def Zfc {R:Type} (s1:Rs)(n2:Int)(k:Bool→Option R):Option R :=
 Option.bind (Z9b s1 n2) fun y3 =>
 k (decide (y3 ≥ (0:Int)))
def ZZj (y:Bool):PV × Cs:=((PV.bool y),[])
def Znd (s1:Rs)(n2:Int):Option (Bool):=Zfc s1 n2 fun a0=>some a0
def Zcf:Cs→Option (Bool)
 | [.fs s1,.fn (Fn.func 188) [.rp [.int .i64 n2] 0]]=>Znd s1 n2
 | _=>none
def Z8e:List (Nat × Cal):=[(225,.ctr Zoh)]
def Zef:Ctr:=⟨[none,none],Bool,Zcf,ZZj,true,.d⟩
theorem ZOs (s1:Rs)(n2:Int) :
  funK T G0 (Zja Z8e) noL .d true [none,none] (Zfa Tryz.f187) [.fs s1,.fn (Fn.func 188) [.rp [.int .i64 n2] 0]]=Zfc  s1 n2 (fun a0=>some (ZZj a0)):=by kernel_rfl
theorem Z2q {ps:Cs} {y:Bool} (h:Zcf ps=some y):∃ (s1:Rs) (n2:Int),ps=[.fs s1,.fn (Fn.func 188) [.rp [.int .i64 n2] 0]]:=by
 unfold Zcf at h
 split at h
 ·exact ⟨_,_,rfl⟩
 ·cases h
theorem Zlr {R:Type} (s1:Rs)(n2:Int)(k:Bool→Option R):Zfc s1 n2 k=Option.bind (Zfc s1 n2 fun a0=>some a0) fun y=>k y:=by
 unfold Zfc
 first | rfl | simp only [Option.bind_assoc,Zya,Zxa,Option.bind_some,Option.bind_none]
theorem Zwp (hΓ:Zga Tryz.prog G0 Z8e):Zka Tryz.prog G0 187 Zef:=by
 refine ZIa mixed tOk (Zna hΓ) Tryz.func187 rfl rfl rfl rfl (F:=Zfa Tryz.f187) (fun ps x h=>?_)
 obtain ⟨y,hy,hx⟩:=Zba h
 cases hx
 obtain ⟨s1,n2,rfl⟩:=Z2q hy
 have hy':Znd s1 n2=some y:=hy
 refine ⟨noL,ZKa _,(ZOs s1 n2).trans ?_⟩
 unfold Znd at hy'
 rw [Zlr,hy']
 rfl
def Zcj {R:Type} (l1:Rs)(a:Int)(k:Bool→Option R):Option R :=
 Option.bind (Znd l1 a) fun y3 =>
 k y3
def Zhz (y:Bool):PV × Cs:=((PV.bool y),[])
def Zij (l1:Rs)(a:Int):Option (Bool):=Zcj l1 a fun a0=>some a0
def Z0r:Cs→Option (Bool)
 | [.fs l1,.int .i64 a]=>Zij l1 a
 | _=>none
def ZUr:List (Nat × Cal):=[(187,.ctr Zef),(1000000003,ro_I)]
def ZJr:Ctr:=⟨[none,none],Bool,Z0r,Zhz,true,.d⟩
theorem ZUH (l1:Rs)(a:Int) :
  funK T G0 (Zja ZUr) noL .d true [none,none] (Zfa Tryz.f125) [.fs l1,.int .i64 a]=Zcj  l1 a (fun a0=>some (Zhz a0)):=by kernel_rfl
theorem Z1F {ps:Cs} {y:Bool} (h:Z0r ps=some y):∃ (l1:Rs) (a:Int),ps=[.fs l1,.int .i64 a]:=by
 unfold Z0r at h
 split at h
 ·exact ⟨_,_,rfl⟩
 ·cases h
theorem ZrF {R:Type} (l1:Rs)(a:Int)(k:Bool→Option R):Zcj l1 a k=Option.bind (Zcj l1 a fun a0=>some a0) fun y=>k y:=by
 unfold Zcj
 first | rfl | simp only [Option.bind_assoc,Zya,Zxa,Option.bind_some,Option.bind_none]
theorem Z7C (hΓ:Zga Tryz.prog G0 ZUr):Zka Tryz.prog G0 125 ZJr:=by
 refine ZIa mixed tOk (Zna hΓ) Tryz.func125 rfl rfl rfl rfl (F:=Zfa Tryz.f125) (fun ps x h=>?_)
 obtain ⟨y,hy,hx⟩:=Zba h
 cases hx
 obtain ⟨l1,a,rfl⟩:=Z1F hy
 have hy':Zij l1 a=some y:=hy
 refine ⟨noL,ZKa _,(ZUH l1 a).trans ?_⟩
 unfold Zij at hy'
 rw [ZrF,hy']
 rfl
def Zkg {R:Type}:Nat→Rs→Int→Int→Int→Int→Rs→Rs→Rs→Rs→Rs→Rs→(Int→Int→Rs→Rs→Rs→Rs→Rs→Rs→Option R)→Option R
 | 0,_,_,_,_,_,_,_,_,_,_,_,_=>none
 | n + 1,a,b,d,e,f,g,i,j,l,o,q,k0 =>
  cond (decide (d < b)) (
   Option.bind (idx a d) fun t =>
   if t.length=1 then
    Option.bind (t[0]?) fun u =>
    Option.bind (PV.asFs u) fun v =>
    meet (
     Option.bind (ZOa 1 8 v) fun z =>
     if (g.length + ([[.fs z]]:Rs).length) * 24≤Zla then
      Zkg n a b (IntKind.i64.wrap (d + (1:Int))) e f (g ++ [[.fs z]]) i j l o q k0
     else none) (
     Option.bind (ZOa 1 8 v) fun A =>
     (fun (z1:Option R) =>
      meet (
       z1) (
       z1)) (
      if (g.length + ([[.fs A]]:Rs).length) * 24≤Zla then
       Zkg n a b (IntKind.i64.wrap (d + (1:Int))) e f (g ++ [[.fs A]]) i j l o q k0
      else none))
   else none) (
   k0 e f g i j l o q)
def Z4c {R:Type} (n:Nat)(a:Cs)(b d:Int)(e f g i j:Rs)(k0:Int→Rs→Rs→Rs→Rs→Rs→Rs→Option R):Option R :=
 Option.bind (a[0]?) fun l =>
 Option.bind (PV.asFs l) fun o =>
 Zkg n o (o.length:Int) 0 b d [] e f g i j
  (fun (q t:Int)(u v z A B C:Rs) =>
   k0 t u v z A B C)
def Zsk {R:Type} (n:Nat)(p1 p2 p3 p4 p5 p6:Rs)(p7:Int)(k:Rs→Rs→Rs→Rs→Rs→Rs→Int→Option R):Option R :=
 meet (
  Option.bind (ZOa 1 8 p2) fun y8 =>
  meet (
   Option.bind (ZOa 1 8 p3) fun y9 =>
   meet (
    Option.bind (ZOa 1 8 p4) fun a =>
    meet (
     Option.bind (ZOa 1 8 p5) fun b =>
     meet (
      Option.bind (ZOa 1 8 p6) fun d =>
      (fun (z2:Option R) =>
       meet (
        z2) (
        z2)) (
       Z4c n [.fs p1,.fs p2,.fs p3,.fs p4,.fs p5,.fs p6,.int .i64 p7] 0 p7 y8 y9 a b d
        (fun (e:Int)(f g i j l o:Rs) =>
         k f g i j l o e))) (
      Option.bind (ZOa 1 8 p6) fun q =>
      Z4c n [.fs p1,.fs p2,.fs p3,.fs p4,.fs p5,.fs p6,.int .i64 p7] 0 p7 y8 y9 a b q
       (fun (t:Int)(u v z A B C:Rs) =>
        k u v z A B C t))) (
     Option.bind (ZOa 1 8 p5) fun D =>
     Option.bind (ZOa 1 8 p6) fun E =>
     Z4c n [.fs p1,.fs p2,.fs p3,.fs p4,.fs p5,.fs p6,.int .i64 p7] 0 p7 y8 y9 a D E
      (fun (F:Int)(G H I J K L:Rs) =>
       k G H I J K L F))) (
    Option.bind (ZOa 1 8 p4) fun M =>
    Option.bind (ZOa 1 8 p5) fun N =>
    Option.bind (ZOa 1 8 p6) fun O =>
    Z4c n [.fs p1,.fs p2,.fs p3,.fs p4,.fs p5,.fs p6,.int .i64 p7] 0 p7 y8 y9 M N O
     (fun (Q:Int)(U V W X Y Z:Rs) =>
      k U V W X Y Z Q))) (
   Option.bind (ZOa 1 8 p3) fun a1 =>
   Option.bind (ZOa 1 8 p4) fun b1 =>
   Option.bind (ZOa 1 8 p5) fun c1 =>
   Option.bind (ZOa 1 8 p6) fun d1 =>
   Z4c n [.fs p1,.fs p2,.fs p3,.fs p4,.fs p5,.fs p6,.int .i64 p7] 0 p7 y8 a1 b1 c1 d1
    (fun (e1:Int)(f1 g1 h1 i1 j1 k1:Rs) =>
     k f1 g1 h1 i1 j1 k1 e1))) (
  Option.bind (ZOa 1 8 p2) fun l1 =>
  Option.bind (ZOa 1 8 p3) fun m1 =>
  Option.bind (ZOa 1 8 p4) fun n1 =>
  Option.bind (ZOa 1 8 p5) fun o1 =>
  Option.bind (ZOa 1 8 p6) fun q1 =>
  Z4c n [.fs p1,.fs p2,.fs p3,.fs p4,.fs p5,.fs p6,.int .i64 p7] 0 p7 l1 m1 n1 o1 q1
   (fun (r1:Int)(s1 t1 u1 v1 w1 x1:Rs) =>
    k s1 t1 u1 v1 w1 x1 r1))
def ZVB (y:Rs × Rs × Rs × Rs × Rs × Rs × Int):PV × Cs:=((PV.agg [.os y.1 1,.os y.2.1 1,.os y.2.2.1 1,.os y.2.2.2.1 1,.os y.2.2.2.2.1 1,.os y.2.2.2.2.2.1 1,.int .i64 y.2.2.2.2.2.2]),[])
def Zpl:Nat→Rs→Int→Int→Int→Int→Rs→Rs→Rs→Rs→Rs→Rs→Option ((Int × Int × Rs × Rs × Rs × Rs × Rs × Rs))
 | 0,_,_,_,_,_,_,_,_,_,_,_=>none
 | n + 1,a,b,d,e,f,g,i,j,l,o,q =>
  cond (decide (d < b)) (
   Option.bind (idx a d) fun t =>
   if t.length=1 then
    Option.bind (t[0]?) fun u =>
    Option.bind (PV.asFs u) fun v =>
    Option.bind (ZOa 1 8 v) fun z =>
    if (g.length + ([[.fs z]]:Rs).length) * 24≤Zla then
     Zpl n a b (IntKind.i64.wrap (d + (1:Int))) e f (g ++ [[.fs z]]) i j l o q
    else none
   else none) (
   some (e,f,g,i,j,l,o,q))
theorem Z6E {R:Type} (n:Nat)(a:Rs)(b d e f:Int)(g i j l o q:Rs)(k0:Int→Int→Rs→Rs→Rs→Rs→Rs→Rs→Option R):Tw (Zpl n a b d e f g i j l o q) (Zkg n a b d e f g i j l o q k0) (fun s=>match s with | (a0,a1,a2,a3,a4,a5,a6,a7)=>k0 a0 a1 a2 a3 a4 a5 a6 a7):=by
 induction n generalizing a b d e f g i j l o q with
 | zero=>exact Zwa
 | succ n ih =>
  unfold Zpl Zkg
  refine Zha (fun _=>?_) (fun _=>?_)
  ·refine Zaa fun t _=>?_
   refine Zqa fun _=>?_
   refine Zaa fun u _=>?_
   refine Zaa fun v _=>?_
   intro s hs
   obtain ⟨z,A,hs⟩:=Zba hs
   obtain ⟨B,hs⟩:=ZSa hs
   have C:=ih _ _ _ _ _ _ _ _ _ _ _ s hs
   simp only [A,B,C,Option.bind_some,cond_true,cond_false,if_true,if_false,ite_true,ite_false,ZGa,and_self,true_and,and_true,eq_self,not_true_eq_false,not_false_eq_true,Bool.false_eq_true,reduceCtorEq]
  ·exact Zda rfl
def Zqq (n:Nat)(a:Cs)(b d:Int)(e f g i j:Rs):Option ((Int × Rs × Rs × Rs × Rs × Rs × Rs)) :=
 Option.bind (a[0]?) fun l =>
 Option.bind (PV.asFs l) fun o =>
 Option.bind (Zpl n o (o.length:Int) 0 b d [] e f g i j) fun s=>match s with
  | (q,t,u,v,z,A,B,C) =>
   some (t,u,v,z,A,B,C)
theorem ZuG {R:Type} (n:Nat)(a:Cs)(b d:Int)(e f g i j:Rs)(k0:Int→Rs→Rs→Rs→Rs→Rs→Rs→Option R):Tw (Zqq n a b d e f g i j) (Z4c n a b d e f g i j k0) (fun s=>match s with | (a0,a1,a2,a3,a4,a5,a6)=>k0 a0 a1 a2 a3 a4 a5 a6):=by
 unfold Zqq Z4c
 refine Zaa fun l _=>?_
 refine Zaa fun o _=>?_
 refine Zma (Z6E _ _ _ _ _ _ _ _ _ _ _ _ _) (fun s=>?_)
 rcases s with ⟨q,t,u,v,z,A,B,C⟩
 ·exact Zda rfl
def Z3f (p1 p2 p3 p4 p5 p6:Rs)(p7:Int):Option (Rs × Rs × Rs × Rs × Rs × Rs × Int) :=
 Option.bind (ZOa 1 8 p2) fun y8 =>
 Option.bind (ZOa 1 8 p3) fun y9 =>
 Option.bind (ZOa 1 8 p4) fun a =>
 Option.bind (ZOa 1 8 p5) fun b =>
 Option.bind (ZOa 1 8 p6) fun d =>
 Option.bind (Zqq 9223372036854775808 [.fs p1,.fs p2,.fs p3,.fs p4,.fs p5,.fs p6,.int .i64 p7] 0 p7 y8 y9 a b d) fun s=>match s with
  | (e,f,g,i,j,l,o) =>
   some (f,g,i,j,l,o,e)
theorem ZnJ {R:Type} (p1 p2 p3 p4 p5 p6:Rs)(p7:Int)(k:Rs→Rs→Rs→Rs→Rs→Rs→Int→Option R):Tw (Z3f p1 p2 p3 p4 p5 p6 p7) (Zsk 9223372036854775808 p1 p2 p3 p4 p5 p6 p7 k) (fun s=>match s with | (a0,a1,a2,a3,a4,a5,a6)=>k a0 a1 a2 a3 a4 a5 a6):=by
 unfold Z3f Zsk
 intro s hs
 obtain ⟨y8,a,hs⟩:=Zba hs
 obtain ⟨y9,b,hs⟩:=Zba hs
 obtain ⟨d,e,hs⟩:=Zba hs
 obtain ⟨f,g,hs⟩:=Zba hs
 obtain ⟨i,j,hs⟩:=Zba hs
 obtain ⟨l,o,hs⟩:=Zba hs
 have q:=fun k0=>ZuG (R:=R) _ _ _ _ _ _ _ _ _ k0 _ o
 rcases l with ⟨t,u,v,z,A,B,C⟩
 ·cases hs
  simp only [a,b,e,g,j,q,Option.bind_some,cond_true,cond_false,if_true,if_false,ite_true,ite_false,ZGa,and_self,true_and,and_true,eq_self,not_true_eq_false,not_false_eq_true,Bool.false_eq_true,reduceCtorEq]
theorem ZIJ:∀ (p1 p2 p3 p4 p5 p6:Rs)(p7:Int)(y:Rs × Rs × Rs × Rs × Rs × Rs × Int),Z3f p1 p2 p3 p4 p5 p6 p7=some y→∃ n,∀ (R:Type)(k:Rs→Rs→Rs→Rs→Rs→Rs→Int→Option R),Zsk n p1 p2 p3 p4 p5 p6 p7 k=k y.1 y.2.1 y.2.2.1 y.2.2.2.1 y.2.2.2.2.1 y.2.2.2.2.2.1 y.2.2.2.2.2.2:=fun p1 p2 p3 p4 p5 p6 p7 y h=>⟨9223372036854775808,fun R k=>ZnJ p1 p2 p3 p4 p5 p6 p7 k y h⟩
def Z9t:Cs→Option (Rs × Rs × Rs × Rs × Rs × Rs × Int)
 | [.agg [.fs p1,.fs p2,.fs p3,.fs p4,.fs p5,.fs p6,.int .i64 p7]]=>Z3f p1 p2 p3 p4 p5 p6 p7
 | _=>none
def Z0k:List (Nat × Cal):=[(177,.ctr Zxd),(1000000001,ro_I)]
def ZAu:Ctr:=⟨[none],Rs × Rs × Rs × Rs × Rs × Rs × Int,Z9t,ZVB,false,(.a [.s,.s,.s,.s,.s,.s,.d])⟩
def Zwf:List (Nat × LC):=[(3,⟨[2,3,25,26,27],[],[],[(3,0)],[]⟩),
 (4000003,⟨[1,2,3],[],[],[],[1]⟩),
 (1003000,⟨[2,3],[],[],[],[]⟩),
 (6000003,⟨[2],[],[],[],[]⟩)]
def Zas:SP:=⟨Zea .undef [(2,(.ref 0 0)),(3,(.ref 1 0)),(25,(.val .fs)),(26,(.val (.int .i64))),(27,(.val (.int .i64)))] 0 40,[(.box [(.nil 1),(.nil 1),(.nil 1),(.nil 1),(.nil 1),(.nil 1),(.val (.int .i64))]),(.box [(.ow 2),(.ow 3),(.ow 4),(.ow 5),(.ow 6),(.ow 7),(.val (.int .i64))]),(.row 1),(.row 1),(.row 1),(.row 1),(.row 1),(.row 1)],[]⟩
def Zwq:SP:=⟨Zea .undef [(1,(.val (.rp 0))),(2,(.ref 0 0)),(3,(.ref 1 0))] 0 40,[(.box [(.nil 1),(.nil 1),(.nil 1),(.nil 1),(.nil 1),(.nil 1),(.val (.int .i64))]),(.box [(.nil 1),(.ow 2),(.ow 3),(.ow 4),(.ow 5),(.ow 6),(.val (.int .i64))]),(.row 1),(.row 1),(.row 1),(.row 1),(.row 1)],[]⟩
def Zxx:Nat→Option SP
 | 3=>some Zas
 | _=>none
def Zov:Nat→Option SP
 | 3=>some Zwq
 | _=>none
def ZBg (n:Nat)(ls:List Leaf)(R:Type)(k:Ex→St→Option R):Option R :=
 match ls with
 | [.rows a,.int b,.int d,.int e,.int f,.rows g,.rows i,.rows j,.rows l,.rows o,.rows q]=>Zkg n a b d e f g i j l o q (fun t u v z A B C D=>k (.exit 0) ⟨Zea .undef [(2,(TV.ref 0 0)),(3,(TV.ref 1 0))] 0 40,[(Ob.box [(TV.nil 1),(TV.nil 1),(TV.nil 1),(TV.nil 1),(TV.nil 1),(TV.nil 1),(TV.val (PV.int .i64 t))]),(Ob.box [(TV.ow 2),(TV.ow 3),(TV.ow 4),(TV.ow 5),(TV.ow 6),(TV.ow 7),(TV.val (PV.int .i64 u))]),(Ob.row v 1),(Ob.row z 1),(Ob.row A 1),(Ob.row B 1),(Ob.row C 1),(Ob.row D 1)],[]⟩)
 | _=>none
def Zhm (n:Nat)(ls:List Leaf)(R:Type)(k:Ex→St→Option R):Option R :=
 match ls with
 | [.cells a,.int b,.int d,.rows e,.rows f,.rows g,.rows i,.rows j]=>Z4c n a b d e f g i j (fun l o q t u v z=>k .ret ⟨Zea .undef [(2,(TV.ref 0 0))] 0 40,[(Ob.box [(TV.ow 1),(TV.ow 2),(TV.ow 3),(TV.ow 4),(TV.ow 5),(TV.ow 6),(TV.val (PV.int .i64 l))]),(Ob.row o 1),(Ob.row q 1),(Ob.row t 1),(Ob.row u 1),(Ob.row v 1),(Ob.row z 1)],[]⟩)
 | _=>none
def ZDB (n key:Nat) (ls:List Leaf) (R:Type) (k:Ex→St→Option R):Option R :=
 match key with
 | 3=>ZBg n ls R k
 | _=>none
def ZnB (n key:Nat) (ls:List Leaf) (R:Type) (k:Ex→St→Option R):Option R :=
 match key with
 | 3=>Zhm n ls R k
 | _=>none
def Z3r:Code→Bool:=onKeys [3]
def Z1t:Nat→Loops:=patL (Zsa Zwf) Zxx ZDB (ZCa Zwf) Z3r Zov ZnB
theorem ZVE (n:Nat)(a:Rs)(b d e f:Int)(g i j l o q:Rs)  (R:Type) (k:Ex→St→Option R) :
  Zza T G0 (Zja Z0k) (Zsa Zwf) (Z1t n) (Zia [1,1,0,1,0,0] (Zca Tryz.f155)) (Zoa Zas [.rows a,.int b,.int d,.int e,.int f,.rows g,.rows i,.rows j,.rows l,.rows o,.rows q]) R k=ZBg (n + 1) [.rows a,.int b,.int d,.int e,.int f,.rows g,.rows i,.rows j,.rows l,.rows o,.rows q] R k:=by kernel_rfl
theorem ZYC (n:Nat)(a:Cs)(b d:Int)(e f g i j:Rs)  (R:Type) (k:Ex→St→Option R) :
  Z0a T G0 (Zja Z0k) (ZCa Zwf) (Z1t n) (Zia [1,1] (Zca Tryz.f155)) (Zoa Zwq [.cells a,.int b,.int d,.rows e,.rows f,.rows g,.rows i,.rows j]) R k=Zhm n [.cells a,.int b,.int d,.rows e,.rows f,.rows g,.rows i,.rows j] R k:=by kernel_rfl
theorem ZfJ (n:Nat)(p1 p2 p3 p4 p5 p6:Rs)(p7:Int) :
  funK T G0 (Zja Z0k) (Z1t n) (.a [.s,.s,.s,.s,.s,.s,.d]) false [none] (Zfa Tryz.f155) [.agg [.fs p1,.fs p2,.fs p3,.fs p4,.fs p5,.fs p6,.int .i64 p7]]=Zsk n  p1 p2 p3 p4 p5 p6 p7 (fun a0 a1 a2 a3 a4 a5 a6=>some (ZVB (a0,a1,a2,a3,a4,a5,a6))):=by kernel_rfl
theorem Z7H {ps:Cs} {y:Rs × Rs × Rs × Rs × Rs × Rs × Int} (h:Z9t ps=some y):∃ (p1:Rs) (p2:Rs) (p3:Rs) (p4:Rs) (p5:Rs) (p6:Rs) (p7:Int),ps=[.agg [.fs p1,.fs p2,.fs p3,.fs p4,.fs p5,.fs p6,.int .i64 p7]]:=by
 unfold Z9t at h
 split at h
 ·exact ⟨_,_,_,_,_,_,_,rfl⟩
 ·cases h
theorem Zst:Zpa (Zca Tryz.f155)=[Zia [1,1,0,1,0,0] (Zca Tryz.f155)]:=by kernel_rfl
theorem ZOD:(ZAa (Zca Tryz.f155)).filter Z3r=[Zia [1,1] (Zca Tryz.f155)]:=by kernel_rfl
theorem ZFD (hΓ:Zga Tryz.prog G0 Z0k) (hok:∀ (p1 p2 p3 p4 p5 p6:Rs)(p7:Int)(y:Rs × Rs × Rs × Rs × Rs × Rs × Int),Z3f p1 p2 p3 p4 p5 p6 p7=some y→∃ n,∀ (R:Type)(k:Rs→Rs→Rs→Rs→Rs→Rs→Int→Option R),Zsk n  p1 p2 p3 p4 p5 p6 p7 k=k y.1 y.2.1 y.2.2.1 y.2.2.2.1 y.2.2.2.2.1 y.2.2.2.2.2.1 y.2.2.2.2.2.2):Zka Tryz.prog G0 155 ZAu:=by
 refine ZHa mixed tOk (Zna hΓ) Tryz.func155 rfl rfl rfl rfl (F:=Zfa Tryz.f155) (ZBa Zwf) (pat:=Zxx) (L:=ZDB) (ZFa Zwf) (on:=Z3r) (patj:=Zov) (J:=ZnB) (fun c hc ls R k=>?_) (fun c hc p hp m ls R k r h=>?_) (fun c hc p hp m ls R k r h=>?_) (fun ps x h=>?_)
 ·rw [show (Zfa Tryz.f155).code=Zca Tryz.f155 from rfl,Zst] at hc
  simp only [List.mem_cons,List.not_mem_nil,or_false] at hc
  rcases hc with rfl
  ·show ZBg 0 ls R k=none
   unfold ZBg
   split
   ·rfl
   ·rfl
 ·rw [show (Zfa Tryz.f155).code=Zca Tryz.f155 from rfl,Zst] at hc
  simp only [List.mem_cons,List.not_mem_nil,or_false] at hc
  rcases hc with rfl
  ·obtain rfl:Zas=p:=Option.some.inj hp
   change ZBg (m + 1) ls R k=some r at h
   have h':=h
   unfold ZBg at h'
   split at h'
   ·exact (ZVE m _ _ _ _ _ _ _ _ _ _ _ R k).trans h
   ·cases h'
 ·rw [show (Zfa Tryz.f155).code=Zca Tryz.f155 from rfl,ZOD] at hc
  simp only [List.mem_cons,List.not_mem_nil,or_false] at hc
  rcases hc with rfl
  ·obtain rfl:Zwq=p:=Option.some.inj hp
   change Zhm m ls R k=some r at h
   have h':=h
   unfold Zhm at h'
   split at h'
   ·exact (ZYC m _ _ _ _ _ _ _ _ R k).trans h
   ·cases h'
 ·obtain ⟨y,hy,hx⟩:=Zba h
  cases hx
  obtain ⟨p1,p2,p3,p4,p5,p6,p7,rfl⟩:=Z7H hy
  obtain ⟨n,hn⟩:=hok p1 p2 p3 p4 p5 p6 p7 y hy
  exact ⟨n,(ZfJ n p1 p2 p3 p4 p5 p6 p7).trans (hn _ _)⟩
def ZEf {R:Type}:Nat→Rs→Int→Int→Int→(Int→Option R)→(Unit→Option R)→Option R
 | 0,_,_,_,_,_,_=>none
 | n + 1,s4,i5,i6,i7,k0,k1 =>
  cond (decide (i7 < i6)) (
   Option.bind (idx s4 i7) fun e8 =>
   if e8.length=1 then
    Option.bind (e8[0]?) fun c9 =>
    Option.bind (PV.asI .i64 c9) fun a =>
    cond (i5 == a) (
     k0 i7) (
     ZEf n s4 i5 i6 (IntKind.i64.wrap (i7 + (1:Int))) k0 k1)
   else none) (
   k1 ())
def ZGg {R:Type} (n:Nat)(s1:Rs)(v2:Int)(k:Int→Option R):Option R :=
 ZEf n s1 v2 (s1.length:Int) 0 k
  (fun (_:Unit) =>
   k (-1))
def Zew (y:Int):PV × Cs:=((PV.int .i64 y),[])
def Zhh:Nat→Rs→Int→Int→Int→Option ((Int) ⊕ (Unit))
 | 0,_,_,_,_=>none
 | n + 1,s4,i5,i6,i7 =>
  cond (decide (i7 < i6)) (
   Option.bind (idx s4 i7) fun e8 =>
   if e8.length=1 then
    Option.bind (e8[0]?) fun c9 =>
    Option.bind (PV.asI .i64 c9) fun a =>
    cond (i5 == a) (
     some (Sum.inl i7)) (
     Zhh n s4 i5 i6 (IntKind.i64.wrap (i7 + (1:Int))))
   else none) (
   some (Sum.inr ()))
theorem Z4A {R:Type} (n:Nat)(s4:Rs)(i5 i6 i7:Int)(k0:Int→Option R)(k1:Unit→Option R):Tw (Zhh n s4 i5 i6 i7) (ZEf n s4 i5 i6 i7 k0 k1) (fun s=>match s with | (Sum.inl a0)=>k0 a0 | (Sum.inr _)=>k1 ()):=by
 induction n generalizing s4 i5 i6 i7 with
 | zero=>exact Zwa
 | succ n ih =>
  unfold Zhh ZEf
  refine Zha (fun _=>?_) (fun _=>?_)
  ·refine Zaa fun e8 _=>?_
   refine Zqa fun _=>?_
   refine Zaa fun c9 _=>?_
   refine Zaa fun a _=>?_
   refine Zha (fun _=>?_) (fun _=>?_)
   ·exact Zda rfl
   ·exact ih _ _ _ _
  ·exact Zda rfl
def ZLb (s1:Rs)(v2:Int):Option (Int) :=
 Option.bind (Zhh 9223372036854775808 s1 v2 (s1.length:Int) 0) fun s=>match s with
  | (Sum.inl i3) =>
   some i3
  | (Sum.inr _) =>
   some (-1)
theorem ZmE {R:Type} (s1:Rs)(v2:Int)(k:Int→Option R):Tw (ZLb s1 v2) (ZGg 9223372036854775808 s1 v2 k) (fun s=>match s with | a0=>k a0):=by
 unfold ZLb ZGg
 refine Zma (Z4A _ _ _ _ _ _ _) (fun s=>?_)
 rcases s with i3 | ⟨⟩
 ·exact Zda rfl
 ·exact Zda rfl
theorem ZAD:∀ (s1:Rs)(v2 y:Int),ZLb s1 v2=some y→∃ n,∀ (R:Type)(k:Int→Option R),ZGg n s1 v2 k=k y:=fun s1 v2 y h=>⟨9223372036854775808,fun R k=>ZmE s1 v2 k y h⟩
def Zfo:Cs→Option (Int)
 | [.fs s1,.int .i64 v2]=>ZLb s1 v2
 | _=>none
def Zwo:List (Nat × Cal):=[]
def ZAg:Ctr:=⟨[none,none],Int,Zfo,Zew,true,.d⟩
def ZQe:List (Nat × LC):=[(2,⟨[0,1,7,8],[],[],[],[]⟩),
 (2000002,⟨[4],[],[],[],[]⟩),
 (1002000,⟨[],[],[],[],[]⟩)]
def ZDn:SP:=⟨Zea .undef [(0,(.val .fs)),(1,(.val (.int .i64))),(7,(.val (.int .i64))),(8,(.val (.int .i64)))] 0 19,[],[]⟩
def Zvs:Nat→Option SP
 | 2=>some ZDn
 | _=>none
def ZJq:Nat→Option SP
 | _=>none
def ZZd (n:Nat)(ls:List Leaf)(R:Type)(k:Ex→St→Option R):Option R :=
 match ls with
 | [.rows s4,.int i5,.int i6,.int i7]=>ZEf n s4 i5 i6 i7 (fun a=>k .ret ⟨Zea .undef [(4,(TV.val (PV.int .i64 a)))] 0 19,[],[]⟩)
   (fun _=>k (.exit 0) ⟨Zea .undef [] 0 19,[],[]⟩)
 | _=>none
def Z0v (n key:Nat) (ls:List Leaf) (R:Type) (k:Ex→St→Option R):Option R :=
 match key with
 | 2=>ZZd n ls R k
 | _=>none
def Zdv (n key:Nat) (ls:List Leaf) (R:Type) (k:Ex→St→Option R):Option R :=
 match key with
 | _=>none
def Zyt:Code→Bool:=fun _=>false
def Zlv:Nat→Loops:=patL (Zsa ZQe) Zvs Z0v (ZCa ZQe) Zyt ZJq Zdv
theorem Zoz (n:Nat)(s4:Rs)(i5 i6 i7:Int)  (R:Type) (k:Ex→St→Option R) :
  Zza T G0 (Zja Zwo) (Zsa ZQe) (Zlv n) (Zia [1,0,1,0,0] (Zca Tryz.f167)) (Zoa ZDn [.rows s4,.int i5,.int i6,.int i7]) R k=ZZd (n + 1) [.rows s4,.int i5,.int i6,.int i7] R k:=by kernel_rfl
theorem ZID (n:Nat)(s1:Rs)(v2:Int) :
  funK T G0 (Zja Zwo) (Zlv n) .d true [none,none] (Zfa Tryz.f167) [.fs s1,.int .i64 v2]=ZGg n  s1 v2 (fun a0=>some (Zew a0)):=by kernel_rfl
theorem ZNC {ps:Cs} {y:Int} (h:Zfo ps=some y):∃ (s1:Rs) (v2:Int),ps=[.fs s1,.int .i64 v2]:=by
 unfold Zfo at h
 split at h
 ·exact ⟨_,_,rfl⟩
 ·cases h
theorem Zkp:Zpa (Zca Tryz.f167)=[Zia [1,0,1,0,0] (Zca Tryz.f167)]:=by kernel_rfl
theorem ZEz (hΓ:Zga Tryz.prog G0 Zwo) (hok:∀ (s1:Rs)(v2 y:Int),ZLb s1 v2=some y→∃ n,∀ (R:Type)(k:Int→Option R),ZGg n  s1 v2 k=k y):Zka Tryz.prog G0 167 ZAg:=by
 refine ZHa mixed tOk (Zna hΓ) Tryz.func167 rfl rfl rfl rfl (F:=Zfa Tryz.f167) (ZBa ZQe) (pat:=Zvs) (L:=Z0v) (ZFa ZQe) (on:=Zyt) (patj:=ZJq) (J:=Zdv) (fun c hc ls R k=>?_) (fun c hc p hp m ls R k r h=>?_) (fun c hc p hp m ls R k r h=>?_) (fun ps x h=>?_)
 ·rw [show (Zfa Tryz.f167).code=Zca Tryz.f167 from rfl,Zkp] at hc
  simp only [List.mem_cons,List.not_mem_nil,or_false] at hc
  rcases hc with rfl
  ·show ZZd 0 ls R k=none
   unfold ZZd
   split
   ·rfl
   ·rfl
 ·rw [show (Zfa Tryz.f167).code=Zca Tryz.f167 from rfl,Zkp] at hc
  simp only [List.mem_cons,List.not_mem_nil,or_false] at hc
  rcases hc with rfl
  ·obtain rfl:ZDn=p:=Option.some.inj hp
   change ZZd (m + 1) ls R k=some r at h
   have h':=h
   unfold ZZd at h'
   split at h'
   ·exact (Zoz m _ _ _ _ R k).trans h
   ·cases h'
 ·cases (List.mem_filter.1 hc).2
 ·obtain ⟨y,hy,hx⟩:=Zba h
  cases hx
  obtain ⟨s1,v2,rfl⟩:=ZNC hy
  obtain ⟨n,hn⟩:=hok s1 v2 y hy
  exact ⟨n,(ZID n s1 v2).trans (hn _ _)⟩
def ZKh {R:Type}:Nat→Int→Rs→Int→Int→(Int→Int→Option R)→(Unit→Option R)→Option R
 | 0,_,_,_,_,_,_=>none
 | n + 1,a,b,d,e,k0,k1 =>
  cond (decide (e < d)) (
   Option.bind (idx b e) fun f =>
   if f.length=1 then
    Option.bind (f[0]?) fun g =>
    Option.bind (PV.asFs g) fun i =>
    Option.bind (ZLb i a) fun j =>
    cond (decide (j ≥ (0:Int))) (
     k0 e j) (
     ZKh n a b d (IntKind.i64.wrap (e + (1:Int))) k0 k1)
   else none) (
   k1 ())
def Z2i {R:Type} (n:Nat)(p1 p2 p3 p4 p5 p6:Rs)(p7 a:Int)(k:Int→Int→Option R):Option R :=
 ZKh n a p1 (p1.length:Int) 0 k
  (fun (_:Unit) =>
   k (-1) (-1))
def ZWy (y:Int × Int):PV × Cs:=((PV.tuple [.int .i64 y.1,.int .i64 y.2]),[])
def Zxj:Nat→Int→Rs→Int→Int→Option ((Int × Int) ⊕ (Unit))
 | 0,_,_,_,_=>none
 | n + 1,a,b,d,e =>
  cond (decide (e < d)) (
   Option.bind (idx b e) fun f =>
   if f.length=1 then
    Option.bind (f[0]?) fun g =>
    Option.bind (PV.asFs g) fun i =>
    Option.bind (ZLb i a) fun j =>
    cond (decide (j ≥ (0:Int))) (
     some (Sum.inl (e,j))) (
     Zxj n a b d (IntKind.i64.wrap (e + (1:Int))))
   else none) (
   some (Sum.inr ()))
theorem ZoD {R:Type} (n:Nat)(a:Int)(b:Rs)(d e:Int)(k0:Int→Int→Option R)(k1:Unit→Option R):Tw (Zxj n a b d e) (ZKh n a b d e k0 k1) (fun s=>match s with | (Sum.inl (a0,a1))=>k0 a0 a1 | (Sum.inr _)=>k1 ()):=by
 induction n generalizing a b d e with
 | zero=>exact Zwa
 | succ n ih =>
  unfold Zxj ZKh
  refine Zha (fun _=>?_) (fun _=>?_)
  ·refine Zaa fun f _=>?_
   refine Zqa fun _=>?_
   refine Zaa fun g _=>?_
   refine Zaa fun i _=>?_
   refine Zaa fun j _=>?_
   refine Zha (fun _=>?_) (fun _=>?_)
   ·exact Zda rfl
   ·exact ih _ _ _ _
  ·exact Zda rfl
def Z3b (p1 p2 p3 p4 p5 p6:Rs)(p7 a:Int):Option (Int × Int) :=
 Option.bind (Zxj 9223372036854775808 a p1 (p1.length:Int) 0) fun s=>match s with
  | (Sum.inl (b,d)) =>
   some (b,d)
  | (Sum.inr _) =>
   some ((-1),(-1))
theorem ZBH {R:Type} (p1 p2 p3 p4 p5 p6:Rs)(p7 a:Int)(k:Int→Int→Option R):Tw (Z3b p1 p2 p3 p4 p5 p6 p7 a) (Z2i 9223372036854775808 p1 p2 p3 p4 p5 p6 p7 a k) (fun s=>match s with | (a0,a1)=>k a0 a1):=by
 unfold Z3b Z2i
 refine Zma (ZoD _ _ _ _ _ _ _) (fun s=>?_)
 rcases s with ⟨b,d⟩ | ⟨⟩
 ·exact Zda rfl
 ·exact Zda rfl
theorem ZxI:∀ (p1 p2 p3 p4 p5 p6:Rs)(p7 a:Int)(y:Int × Int),Z3b p1 p2 p3 p4 p5 p6 p7 a=some y→∃ n,∀ (R:Type)(k:Int→Int→Option R),Z2i n p1 p2 p3 p4 p5 p6 p7 a k=k y.1 y.2:=fun p1 p2 p3 p4 p5 p6 p7 a y h=>⟨9223372036854775808,fun R k=>ZBH p1 p2 p3 p4 p5 p6 p7 a k y h⟩
def ZPe:Cs→Option (Int × Int)
 | [.agg [.fs p1,.fs p2,.fs p3,.fs p4,.fs p5,.fs p6,.int .i64 p7],.int .i64 a]=>Z3b p1 p2 p3 p4 p5 p6 p7 a
 | _=>none
def ZWm:List (Nat × Cal):=[(167,.ctr ZAg),(1000000002,ro_I)]
def ZHe:Ctr:=⟨[none,none],Int × Int,ZPe,ZWy,true,.d⟩
def Zxg:List (Nat × LC):=[(2,⟨[1,10,11,12],[],[],[],[]⟩),
 (2000002,⟨[4,5],[],[],[],[]⟩),
 (1002000,⟨[],[],[],[],[]⟩)]
def ZKp:SP:=⟨Zea .undef [(1,(.val (.int .i64))),(10,(.val .fs)),(11,(.val (.int .i64))),(12,(.val (.int .i64)))] 0 25,[],[]⟩
def ZPv:Nat→Option SP
 | 2=>some ZKp
 | _=>none
def ZQt:Nat→Option SP
 | _=>none
def Zjf (n:Nat)(ls:List Leaf)(R:Type)(k:Ex→St→Option R):Option R :=
 match ls with
 | [.int a,.rows b,.int d,.int e]=>ZKh n a b d e (fun f g=>k .ret ⟨Zea .undef [(4,(TV.val (PV.int .i64 f))),(5,(TV.val (PV.int .i64 g)))] 0 25,[],[]⟩)
   (fun _=>k (.exit 0) ⟨Zea .undef [] 0 25,[],[]⟩)
 | _=>none
def Zvz (n key:Nat) (ls:List Leaf) (R:Type) (k:Ex→St→Option R):Option R :=
 match key with
 | 2=>Zjf n ls R k
 | _=>none
def ZNz (n key:Nat) (ls:List Leaf) (R:Type) (k:Ex→St→Option R):Option R :=
 match key with
 | _=>none
def ZOx:Code→Bool:=fun _=>false
def ZIz:Nat→Loops:=patL (Zsa Zxg) ZPv Zvz (ZCa Zxg) ZOx ZQt ZNz
theorem ZeC (n:Nat)(a:Int)(b:Rs)(d e:Int)  (R:Type) (k:Ex→St→Option R) :
  Zza T G0 (Zja ZWm) (Zsa Zxg) (ZIz n) (Zia [1,0,1,0,0] (Zca Tryz.f108)) (Zoa ZKp [.int a,.rows b,.int d,.int e]) R k=Zjf (n + 1) [.int a,.rows b,.int d,.int e] R k:=by kernel_rfl
theorem Z6G (n:Nat)(p1 p2 p3 p4 p5 p6:Rs)(p7 a:Int) :
  funK T G0 (Zja ZWm) (ZIz n) .d true [none,none] (Zfa Tryz.f108) [.agg [.fs p1,.fs p2,.fs p3,.fs p4,.fs p5,.fs p6,.int .i64 p7],.int .i64 a]=Z2i n  p1 p2 p3 p4 p5 p6 p7 a (fun a0 a1=>some (ZWy (a0,a1))):=by kernel_rfl
theorem ZkG {ps:Cs} {y:Int × Int} (h:ZPe ps=some y):∃ (p1:Rs) (p2:Rs) (p3:Rs) (p4:Rs) (p5:Rs) (p6:Rs) (p7:Int) (a:Int),ps=[.agg [.fs p1,.fs p2,.fs p3,.fs p4,.fs p5,.fs p6,.int .i64 p7],.int .i64 a]:=by
 unfold ZPe at h
 split at h
 ·exact ⟨_,_,_,_,_,_,_,_,rfl⟩
 ·cases h
theorem Zur:Zpa (Zca Tryz.f108)=[Zia [1,0,1,0,0] (Zca Tryz.f108)]:=by kernel_rfl
theorem ZHC (hΓ:Zga Tryz.prog G0 ZWm) (hok:∀ (p1 p2 p3 p4 p5 p6:Rs)(p7 a:Int)(y:Int × Int),Z3b p1 p2 p3 p4 p5 p6 p7 a=some y→∃ n,∀ (R:Type)(k:Int→Int→Option R),Z2i n  p1 p2 p3 p4 p5 p6 p7 a k=k y.1 y.2):Zka Tryz.prog G0 108 ZHe:=by
 refine ZHa mixed tOk (Zna hΓ) Tryz.func108 rfl rfl rfl rfl (F:=Zfa Tryz.f108) (ZBa Zxg) (pat:=ZPv) (L:=Zvz) (ZFa Zxg) (on:=ZOx) (patj:=ZQt) (J:=ZNz) (fun c hc ls R k=>?_) (fun c hc p hp m ls R k r h=>?_) (fun c hc p hp m ls R k r h=>?_) (fun ps x h=>?_)
 ·rw [show (Zfa Tryz.f108).code=Zca Tryz.f108 from rfl,Zur] at hc
  simp only [List.mem_cons,List.not_mem_nil,or_false] at hc
  rcases hc with rfl
  ·show Zjf 0 ls R k=none
   unfold Zjf
   split
   ·rfl
   ·rfl
 ·rw [show (Zfa Tryz.f108).code=Zca Tryz.f108 from rfl,Zur] at hc
  simp only [List.mem_cons,List.not_mem_nil,or_false] at hc
  rcases hc with rfl
  ·obtain rfl:ZKp=p:=Option.some.inj hp
   change Zjf (m + 1) ls R k=some r at h
   have h':=h
   unfold Zjf at h'
   split at h'
   ·exact (ZeC m _ _ _ _ R k).trans h
   ·cases h'
 ·cases (List.mem_filter.1 hc).2
 ·obtain ⟨y,hy,hx⟩:=Zba h
  cases hx
  obtain ⟨p1,p2,p3,p4,p5,p6,p7,a,rfl⟩:=ZkG hy
  obtain ⟨n,hn⟩:=hok p1 p2 p3 p4 p5 p6 p7 a y hy
  exact ⟨n,(Z6G n p1 p2 p3 p4 p5 p6 p7 a).trans (hn _ _)⟩
def ZJh {R:Type} (n:Nat)(a:Int)(b:Cs)(d:Rs)(e f:Int)(g:Bool)(i:Int)(j l o q t u:Rs)(v:PV)(k0:Int→Cs→Rs→Int→Int→Int→Rs→Rs→Rs→Rs→Rs→Rs→Option R):Option R :=
 cond g (
  Option.bind ((PV.cells v)[0]?) fun z =>
  Option.bind (PV.asI .i64 z) fun A =>
  Option.bind ((PV.cells v)[2]?) fun B =>
  Option.bind (PV.asFs B) fun C =>
  if 0≤A∧A < (j.length:Int) then
   Option.bind (j[(Int.toNat A)]?) fun D =>
   Option.bind (D[0]?) fun E =>
   k0 a b d e f i (List.set j (Int.toNat A) (List.set D 0 (PV.fs C))) l o q t u
  else none) (
  k0 a b d e f i j l o q t u)
def Z6d {R:Type}:Nat→Int→Cs→Rs→Int→Int→Int→Rs→Rs→Rs→Rs→Rs→Rs→(Bool→Option R)→(Unit→Option R)→Option R
 | 0,_,_,_,_,_,_,_,_,_,_,_,_,_,_=>none
 | n + 1,a,b,d,e,f,g,i,j,l,o,q,t,k0,k1 =>
  cond (decide (f < e)) (
   Option.bind (idx d f) fun u =>
   if u.length=1 then
    Option.bind (u[0]?) fun v =>
    Option.bind (PV.asI .i64 v) fun z =>
    Option.bind (Zra b 0 7) fun A =>
    Option.bind (ZPe [A,.int .i64 f]) fun B =>
    Option.bind (Z3b i j l o q t g f) fun C =>
    cond (decide (f > (0:Int))) (
     Option.bind (ZNg z a) fun D =>
     cond D (
      cond (B.1 != C.1) (
       k0 true) (
       cond (B.2 != C.2) (
        k0 true) (
        Z6d n a b d e (IntKind.i64.wrap (f + (1:Int))) g i j l o q t k0 k1))) (
      Z6d n a b d e (IntKind.i64.wrap (f + (1:Int))) g i j l o q t k0 k1)) (
     Z6d n a b d e (IntKind.i64.wrap (f + (1:Int))) g i j l o q t k0 k1)
   else none) (
   k1 ())
def Zqf {R:Type}:Nat→Int→Cs→Rs→Int→Int→Int→Rs→Rs→Rs→Rs→Rs→Rs→(Int→Cs→Int→Rs→Rs→Rs→Rs→Rs→Rs→Option R)→Option R
 | 0,_,_,_,_,_,_,_,_,_,_,_,_,_=>none
 | n + 1,a,b,d,e,f,g,i,j,l,o,q,t,k0 =>
  cond (decide (f < e)) (
   Option.bind (idx d f) fun u =>
   if u.length=3 then
    Option.bind (Zra u 0 3) fun v =>
    if (PV.isAgg v 3)=true then
     Option.bind ((PV.cells v)[0]?) fun z =>
     Option.bind (PV.asI .i64 z) fun A =>
     cond (decide (A ≥ (0:Int))) (
      Option.bind ((PV.cells v)[0]?) fun B =>
      Option.bind (PV.asI .i64 B) fun C =>
      ZJh n a b d e f (decide (C < (i.length:Int))) g i j l o q t v
       (fun (D:Int)(E:Cs)(F:Rs)(G H I:Int)(J K L M N O:Rs) =>
        Zqf n D E F G (IntKind.i64.wrap (H + (1:Int))) I J K L M N O k0)) (
      ZJh n a b d e f false g i j l o q t v
       (fun (Q:Int)(U:Cs)(V:Rs)(W X Y:Int)(Z a1 b1 c1 d1 e1:Rs) =>
        Zqf n Q U V W (IntKind.i64.wrap (X + (1:Int))) Y Z a1 b1 c1 d1 e1 k0))
    else none
   else none) (
   k0 a b g i j l o q t)
def ZRi {R:Type} (n:Nat)(p1 p2 p3 p4 p5 p6:Rs)(p7 a:Int)(d9 b d:Rs)(k:Bool→Option R):Option R :=
 Option.bind (Z3f p1 p2 p3 p4 p5 p6 p7) fun e =>
 Zqf n a [.fs p1,.fs p2,.fs p3,.fs p4,.fs p5,.fs p6,.int .i64 p7] d9 (d9.length:Int) 0 e.2.2.2.2.2.2 e.1 e.2.1 e.2.2.1 e.2.2.2.1 e.2.2.2.2.1 e.2.2.2.2.2.1
  (fun (f:Int)(g:Cs)(i:Int)(j l o q t u:Rs) =>
   Option.bind (g[1]?) fun v =>
   Option.bind (PV.asFs v) fun z =>
   Z6d n f g z (z.length:Int) 0 i j l o q t u k
    (fun (_:Unit) =>
     k false))
def ZDy (y:Bool):PV × Cs:=((PV.bool y),[])
def ZNj (n:Nat)(a:Int)(b:Cs)(d:Rs)(e f:Int)(g:Bool)(i:Int)(j l o q t u:Rs)(v:PV):Option ((Int × (Cs) × Rs × Int × Int × Int × Rs × Rs × Rs × Rs × Rs × Rs)) :=
 cond g (
  Option.bind ((PV.cells v)[0]?) fun z =>
  Option.bind (PV.asI .i64 z) fun A =>
  Option.bind ((PV.cells v)[2]?) fun B =>
  Option.bind (PV.asFs B) fun C =>
  if 0≤A∧A < (j.length:Int) then
   Option.bind (j[(Int.toNat A)]?) fun D =>
   Option.bind (D[0]?) fun E =>
   some (a,b,d,e,f,i,(List.set j (Int.toNat A) (List.set D 0 (PV.fs C))),l,o,q,t,u)
  else none) (
  some (a,b,d,e,f,i,j,l,o,q,t,u))
theorem Zxt {R:Type} (n:Nat)(a:Int)(b:Cs)(d:Rs)(e f:Int)(g:Bool)(i:Int)(j l o q t u:Rs)(v:PV)(k0:Int→Cs→Rs→Int→Int→Int→Rs→Rs→Rs→Rs→Rs→Rs→Option R):Tw (ZNj n a b d e f g i j l o q t u v) (ZJh n a b d e f g i j l o q t u v k0) (fun s=>match s with | (a0,a1,a2,a3,a4,a5,a6,a7,a8,a9,z,A)=>k0 a0 a1 a2 a3 a4 a5 a6 a7 a8 a9 z A):=by
 unfold ZNj ZJh
 refine Zha (fun _=>?_) (fun _=>?_)
 ·refine Zaa fun B _=>?_
  refine Zaa fun C _=>?_
  refine Zaa fun D _=>?_
  refine Zaa fun E _=>?_
  refine Zqa fun _=>?_
  refine Zaa fun F _=>?_
  refine Zaa fun G _=>?_
  exact Zda rfl
 ·exact Zda rfl
def ZAe:Nat→Int→Cs→Rs→Int→Int→Int→Rs→Rs→Rs→Rs→Rs→Rs→Option ((Bool) ⊕ (Unit))
 | 0,_,_,_,_,_,_,_,_,_,_,_,_=>none
 | n + 1,a,b,d,e,f,g,i,j,l,o,q,t =>
  cond (decide (f < e)) (
   Option.bind (idx d f) fun u =>
   if u.length=1 then
    Option.bind (u[0]?) fun v =>
    Option.bind (PV.asI .i64 v) fun z =>
    Option.bind (Zra b 0 7) fun A =>
    Option.bind (ZPe [A,.int .i64 f]) fun B =>
    Option.bind (Z3b i j l o q t g f) fun C =>
    cond (decide (f > (0:Int))) (
     Option.bind (ZNg z a) fun D =>
     cond D (
      cond (B.1 != C.1) (
       some (Sum.inl true)) (
       cond (B.2 != C.2) (
        some (Sum.inl true)) (
        ZAe n a b d e (IntKind.i64.wrap (f + (1:Int))) g i j l o q t))) (
      ZAe n a b d e (IntKind.i64.wrap (f + (1:Int))) g i j l o q t)) (
     ZAe n a b d e (IntKind.i64.wrap (f + (1:Int))) g i j l o q t)
   else none) (
   some (Sum.inr ()))
theorem ZbE {R:Type} (n:Nat)(a:Int)(b:Cs)(d:Rs)(e f g:Int)(i j l o q t:Rs)(k0:Bool→Option R)(k1:Unit→Option R):Tw (ZAe n a b d e f g i j l o q t) (Z6d n a b d e f g i j l o q t k0 k1) (fun s=>match s with | (Sum.inl a0)=>k0 a0 | (Sum.inr _)=>k1 ()):=by
 induction n generalizing a b d e f g i j l o q t with
 | zero=>exact Zwa
 | succ n ih =>
  unfold ZAe Z6d
  refine Zha (fun _=>?_) (fun _=>?_)
  ·refine Zaa fun u _=>?_
   refine Zqa fun _=>?_
   refine Zaa fun v _=>?_
   refine Zaa fun z _=>?_
   refine Zaa fun A _=>?_
   refine Zaa fun B _=>?_
   refine Zaa fun C _=>?_
   refine Zha (fun _=>?_) (fun _=>?_)
   ·refine Zaa fun D _=>?_
    refine Zha (fun _=>?_) (fun _=>?_)
    ·refine Zha (fun _=>?_) (fun _=>?_)
     ·exact Zda rfl
     ·refine Zha (fun _=>?_) (fun _=>?_)
      ·exact Zda rfl
      ·exact ih _ _ _ _ _ _ _ _ _ _ _ _
    ·exact ih _ _ _ _ _ _ _ _ _ _ _ _
   ·exact ih _ _ _ _ _ _ _ _ _ _ _ _
  ·exact Zda rfl
def Ztg:Nat→Int→Cs→Rs→Int→Int→Int→Rs→Rs→Rs→Rs→Rs→Rs→Option ((Int × (Cs) × Int × Rs × Rs × Rs × Rs × Rs × Rs))
 | 0,_,_,_,_,_,_,_,_,_,_,_,_=>none
 | n + 1,a,b,d,e,f,g,i,j,l,o,q,t =>
  cond (decide (f < e)) (
   Option.bind (idx d f) fun u =>
   if u.length=3 then
    Option.bind (Zra u 0 3) fun v =>
    if (PV.isAgg v 3)=true then
     Option.bind ((PV.cells v)[0]?) fun z =>
     Option.bind (PV.asI .i64 z) fun A =>
     cond (decide (A ≥ (0:Int))) (
      Option.bind ((PV.cells v)[0]?) fun B =>
      Option.bind (PV.asI .i64 B) fun C =>
      Option.bind (ZNj n a b d e f (decide (C < (i.length:Int))) g i j l o q t v) fun s=>match s with
       | (D,E,F,G,H,I,J,K,L,M,N,O) =>
        Ztg n D E F G (IntKind.i64.wrap (H + (1:Int))) I J K L M N O) (
      Option.bind (ZNj n a b d e f false g i j l o q t v) fun s=>match s with
       | (Q,U,V,W,X,Y,Z,a1,b1,c1,d1,e1) =>
        Ztg n Q U V W (IntKind.i64.wrap (X + (1:Int))) Y Z a1 b1 c1 d1 e1)
    else none
   else none) (
   some (a,b,g,i,j,l,o,q,t))
theorem ZsD {R:Type} (n:Nat)(a:Int)(b:Cs)(d:Rs)(e f g:Int)(i j l o q t:Rs)(k0:Int→Cs→Int→Rs→Rs→Rs→Rs→Rs→Rs→Option R):Tw (Ztg n a b d e f g i j l o q t) (Zqf n a b d e f g i j l o q t k0) (fun s=>match s with | (a0,a1,a2,a3,a4,a5,a6,a7,a8)=>k0 a0 a1 a2 a3 a4 a5 a6 a7 a8):=by
 induction n generalizing a b d e f g i j l o q t with
 | zero=>exact Zwa
 | succ n ih =>
  unfold Ztg Zqf
  refine Zha (fun _=>?_) (fun _=>?_)
  ·refine Zaa fun u _=>?_
   refine Zqa fun _=>?_
   refine Zaa fun v _=>?_
   refine Zqa fun _=>?_
   refine Zaa fun z _=>?_
   refine Zaa fun A _=>?_
   refine Zha (fun _=>?_) (fun _=>?_)
   ·refine Zaa fun B _=>?_
    refine Zaa fun C _=>?_
    refine Zma (Zxt _ _ _ _ _ _ _ _ _ _ _ _ _ _ _ _) (fun s=>?_)
    rcases s with ⟨D,E,F,G,H,I,J,K,L,M,N,O⟩
    ·exact ih _ _ _ _ _ _ _ _ _ _ _ _
   ·refine Zma (Zxt _ _ _ _ _ _ _ _ _ _ _ _ _ _ _ _) (fun s=>?_)
    rcases s with ⟨Q,U,V,W,X,Y,Z,b1,c1,d1,e1,f1⟩
    ·exact ih _ _ _ _ _ _ _ _ _ _ _ _
  ·exact Zda rfl
def Z3g (p1 p2 p3 p4 p5 p6:Rs)(p7 a:Int)(d9 b d:Rs):Option (Bool) :=
 Option.bind (Z3f p1 p2 p3 p4 p5 p6 p7) fun e =>
 Option.bind (Ztg 9223372036854775808 a [.fs p1,.fs p2,.fs p3,.fs p4,.fs p5,.fs p6,.int .i64 p7] d9 (d9.length:Int) 0 e.2.2.2.2.2.2 e.1 e.2.1 e.2.2.1 e.2.2.2.1 e.2.2.2.2.1 e.2.2.2.2.2.1) fun s=>match s with
  | (f,g,i,j,l,o,q,t,u) =>
   Option.bind (g[1]?) fun v =>
   Option.bind (PV.asFs v) fun z =>
   Option.bind (ZAe 9223372036854775808 f g z (z.length:Int) 0 i j l o q t u) fun s=>match s with
    | (Sum.inl A) =>
     some A
    | (Sum.inr _) =>
     some false
theorem ZoI {R:Type} (p1 p2 p3 p4 p5 p6:Rs)(p7 a:Int)(d9 b d:Rs)(k:Bool→Option R):Tw (Z3g p1 p2 p3 p4 p5 p6 p7 a d9 b d) (ZRi 9223372036854775808 p1 p2 p3 p4 p5 p6 p7 a d9 b d k) (fun s=>match s with | a0=>k a0):=by
 unfold Z3g ZRi
 refine Zaa fun e _=>?_
 refine Zma (ZsD _ _ _ _ _ _ _ _ _ _ _ _ _ _) (fun s=>?_)
 rcases s with ⟨f,g,i,j,l,o,q,t,u⟩
 ·refine Zaa fun v _=>?_
  refine Zaa fun z _=>?_
  refine Zma (ZbE _ _ _ _ _ _ _ _ _ _ _ _ _ _ _) (fun s=>?_)
  rcases s with A | ⟨⟩
  ·exact Zda rfl
  ·exact Zda rfl
theorem ZHH:∀ (p1 p2 p3 p4 p5 p6:Rs)(p7 a:Int)(d9 b d:Rs)(y:Bool),Z3g p1 p2 p3 p4 p5 p6 p7 a d9 b d=some y→∃ n,∀ (R:Type)(k:Bool→Option R),ZRi n p1 p2 p3 p4 p5 p6 p7 a d9 b d k=k y:=fun p1 p2 p3 p4 p5 p6 p7 a d9 b d y h=>⟨9223372036854775808,fun R k=>ZoI p1 p2 p3 p4 p5 p6 p7 a d9 b d k y h⟩
def Z2r:Cs→Option (Bool)
 | [.agg [.fs p1,.fs p2,.fs p3,.fs p4,.fs p5,.fs p6,.int .i64 p7],.int .i64 a,.agg [.fs d9,.fs b,.fs d]]=>Z3g p1 p2 p3 p4 p5 p6 p7 a d9 b d
 | _=>none
def ZOg:List (Nat × Cal):=[(155,.ctr ZAu),(108,.ctr ZHe),(189,.ctr ZEm),(1000000003,ro_I),(1000000005,ro_I)]
def ZNr:Ctr:=⟨[none,none,none],Bool,Z2r,ZDy,true,.d⟩
def Zud:List (Nat × LC):=[(3,⟨[1,3,7,19,20,21],[],[],[],[3]⟩),
 (4000007,⟨[1,3,7,9,19,20,21,35],[],[],[],[]⟩),
 (1003000,⟨[1,3,7],[],[],[],[]⟩),
 (5000007,⟨[1,3,7,19,20,21],[],[],[],[]⟩),
 (9,⟨[1,3,7,45,46,47],[],[],[],[]⟩),
 (2000009,⟨[6],[],[],[],[]⟩),
 (1009002,⟨[],[],[],[],[]⟩)]
def Zpo:SP:=⟨Zea .undef [(1,(.val (.int .i64))),(3,(.val (.rp 0))),(7,(.ref 0 0)),(9,(.ref 7 0)),(19,(.val .fs)),(20,(.val (.int .i64))),(21,(.val (.int .i64))),(35,(.val .bool))] 0 82,[(.box [(.ow 1),(.ow 2),(.ow 3),(.ow 4),(.ow 5),(.ow 6),(.val (.int .i64))]),(.row 1),(.row 1),(.row 1),(.row 1),(.row 1),(.row 1),(.pbox .any 3)],[]⟩
def Z5p:SP:=⟨Zea .undef [(1,(.val (.int .i64))),(3,(.val (.rp 0))),(7,(.ref 0 0)),(45,(.val .fs)),(46,(.val (.int .i64))),(47,(.val (.int .i64)))] 0 82,[(.box [(.ow 1),(.ow 2),(.ow 3),(.ow 4),(.ow 5),(.ow 6),(.val (.int .i64))]),(.row 1),(.row 1),(.row 1),(.row 1),(.row 1),(.row 1)],[]⟩
def ZVp:SP:=⟨Zea .undef [(1,(.val (.int .i64))),(3,(.val (.rp 0))),(7,(.ref 0 0)),(19,(.val .fs)),(20,(.val (.int .i64))),(21,(.val (.int .i64)))] 0 82,[(.box [(.ow 1),(.ow 2),(.ow 3),(.ow 4),(.ow 5),(.ow 6),(.val (.int .i64))]),(.row 1),(.row 1),(.row 1),(.row 1),(.row 1),(.row 1)],[]⟩
def ZTv:Nat→Option SP
 | 9=>some Z5p
 | 3=>some ZVp
 | _=>none
def Zvt:Nat→Option SP
 | 7=>some Zpo
 | _=>none
def Zrl (n:Nat)(ls:List Leaf)(R:Type)(k:Ex→St→Option R):Option R :=
 match ls with
 | [.int a,.cells b,.rows d,.int e,.int f,.bool g,.int i,.rows j,.rows l,.rows o,.rows q,.rows t,.rows u,.pv v]=>ZJh n a b d e f g i j l o q t u v (fun z A B C D E F G H I J K=>k .normal ⟨Zea .undef [(1,(TV.val (PV.int .i64 z))),(3,(TV.val (PV.rp A 0))),(7,(TV.ref 0 0)),(19,(TV.val (PV.fs B))),(20,(TV.val (PV.int .i64 C))),(21,(TV.val (PV.int .i64 D)))] 0 82,[(Ob.box [(TV.ow 1),(TV.ow 2),(TV.ow 3),(TV.ow 4),(TV.ow 5),(TV.ow 6),(TV.val (PV.int .i64 E))]),(Ob.row F 1),(Ob.row G 1),(Ob.row H 1),(Ob.row I 1),(Ob.row J 1),(Ob.row K 1)],[]⟩)
 | _=>none
def Zuf (n:Nat)(ls:List Leaf)(R:Type)(k:Ex→St→Option R):Option R :=
 match ls with
 | [.int a,.cells b,.rows d,.int e,.int f,.int g,.rows i,.rows j,.rows l,.rows o,.rows q,.rows t]=>Z6d n a b d e f g i j l o q t (fun u=>k .ret ⟨Zea .undef [(6,(TV.val (PV.bool u)))] 0 82,[],[]⟩)
   (fun _=>k (.exit 2) ⟨Zea .undef [] 0 82,[],[]⟩)
 | _=>none
def Zsf (n:Nat)(ls:List Leaf)(R:Type)(k:Ex→St→Option R):Option R :=
 match ls with
 | [.int a,.cells b,.rows d,.int e,.int f,.int g,.rows i,.rows j,.rows l,.rows o,.rows q,.rows t]=>Zqf n a b d e f g i j l o q t (fun u v z A B C D E F=>k (.exit 0) ⟨Zea .undef [(1,(TV.val (PV.int .i64 u))),(3,(TV.val (PV.rp v 0))),(7,(TV.ref 0 0))] 0 82,[(Ob.box [(TV.ow 1),(TV.ow 2),(TV.ow 3),(TV.ow 4),(TV.ow 5),(TV.ow 6),(TV.val (PV.int .i64 z))]),(Ob.row A 1),(Ob.row B 1),(Ob.row C 1),(Ob.row D 1),(Ob.row E 1),(Ob.row F 1)],[]⟩)
 | _=>none
def ZGy (n key:Nat) (ls:List Leaf) (R:Type) (k:Ex→St→Option R):Option R :=
 match key with
 | 9=>Zuf n ls R k
 | 3=>Zsf n ls R k
 | _=>none
def Z6z (n key:Nat) (ls:List Leaf) (R:Type) (k:Ex→St→Option R):Option R :=
 match key with
 | 7=>Zrl n ls R k
 | _=>none
def Zoq:Code→Bool:=onKeys [7]
def ZAm:Nat→Loops:=patL (Zsa Zud) ZTv ZGy (ZCa Zud) Zoq Zvt Z6z
theorem Z6C (n:Nat)(a:Int)(b:Cs)(d:Rs)(e f g:Int)(i j l o q t:Rs)  (R:Type) (k:Ex→St→Option R) :
  Zza T G0 (Zja ZOg) (Zsa Zud) (ZAm n) (Zia [1,1,0,1,0,0] (Zca Tryz.f126)) (Zoa ZVp [.int a,.cells b,.rows d,.int e,.int f,.int g,.rows i,.rows j,.rows l,.rows o,.rows q,.rows t]) R k=Zsf (n + 1) [.int a,.cells b,.rows d,.int e,.int f,.int g,.rows i,.rows j,.rows l,.rows o,.rows q,.rows t] R k:=by kernel_rfl
theorem ZdC (n:Nat)(a:Int)(b:Cs)(d:Rs)(e f g:Int)(i j l o q t:Rs)  (R:Type) (k:Ex→St→Option R) :
  Zza T G0 (Zja ZOg) (Zsa Zud) (ZAm n) (Zia [1,1,1,0,1,0,0] (Zca Tryz.f126)) (Zoa Z5p [.int a,.cells b,.rows d,.int e,.int f,.int g,.rows i,.rows j,.rows l,.rows o,.rows q,.rows t]) R k=Zuf (n + 1) [.int a,.cells b,.rows d,.int e,.int f,.int g,.rows i,.rows j,.rows l,.rows o,.rows q,.rows t] R k:=by kernel_rfl
theorem ZCA (n:Nat)(a:Int)(b:Cs)(d:Rs)(e f:Int)(g:Bool)(i:Int)(j l o q t u:Rs)(v:PV)  (R:Type) (k:Ex→St→Option R) :
  Z0a T G0 (Zja ZOg) (ZCa Zud) (ZAm n) (Zia [1,1,0,1,0,0,1,1,0,0,1,1] (Zca Tryz.f126)) (Zoa Zpo [.int a,.cells b,.rows d,.int e,.int f,.bool g,.int i,.rows j,.rows l,.rows o,.rows q,.rows t,.rows u,.pv v]) R k=Zrl n [.int a,.cells b,.rows d,.int e,.int f,.bool g,.int i,.rows j,.rows l,.rows o,.rows q,.rows t,.rows u,.pv v] R k:=by kernel_rfl
theorem Z3H (n:Nat)(p1 p2 p3 p4 p5 p6:Rs)(p7 a:Int)(d9 b d:Rs) :
  funK T G0 (Zja ZOg) (ZAm n) .d true [none,none,none] (Zfa Tryz.f126) [.agg [.fs p1,.fs p2,.fs p3,.fs p4,.fs p5,.fs p6,.int .i64 p7],.int .i64 a,.agg [.fs d9,.fs b,.fs d]]=ZRi n  p1 p2 p3 p4 p5 p6 p7 a d9 b d (fun a0=>some (ZDy a0)):=by kernel_rfl
theorem ZYF {ps:Cs} {y:Bool} (h:Z2r ps=some y):∃ (p1:Rs) (p2:Rs) (p3:Rs) (p4:Rs) (p5:Rs) (p6:Rs) (p7:Int) (a:Int) (d9:Rs) (b:Rs) (d:Rs),ps=[.agg [.fs p1,.fs p2,.fs p3,.fs p4,.fs p5,.fs p6,.int .i64 p7],.int .i64 a,.agg [.fs d9,.fs b,.fs d]]:=by
 unfold Z2r at h
 split at h
 ·exact ⟨_,_,_,_,_,_,_,_,_,_,_,rfl⟩
 ·cases h
theorem Z5r:Zpa (Zca Tryz.f126)=[Zia [1,1,0,1,0,0] (Zca Tryz.f126),Zia [1,1,1,0,1,0,0] (Zca Tryz.f126)]:=by kernel_rfl
theorem ZEC:(ZAa (Zca Tryz.f126)).filter Zoq=[Zia [1,1,0,1,0,0,1,1,0,0,1,1] (Zca Tryz.f126)]:=by kernel_rfl
theorem Z8B (hΓ:Zga Tryz.prog G0 ZOg) (hok:∀ (p1 p2 p3 p4 p5 p6:Rs)(p7 a:Int)(d9 b d:Rs)(y:Bool),Z3g p1 p2 p3 p4 p5 p6 p7 a d9 b d=some y→∃ n,∀ (R:Type)(k:Bool→Option R),ZRi n  p1 p2 p3 p4 p5 p6 p7 a d9 b d k=k y):Zka Tryz.prog G0 126 ZNr:=by
 refine ZHa mixed tOk (Zna hΓ) Tryz.func126 rfl rfl rfl rfl (F:=Zfa Tryz.f126) (ZBa Zud) (pat:=ZTv) (L:=ZGy) (ZFa Zud) (on:=Zoq) (patj:=Zvt) (J:=Z6z) (fun c hc ls R k=>?_) (fun c hc p hp m ls R k r h=>?_) (fun c hc p hp m ls R k r h=>?_) (fun ps x h=>?_)
 ·rw [show (Zfa Tryz.f126).code=Zca Tryz.f126 from rfl,Z5r] at hc
  simp only [List.mem_cons,List.not_mem_nil,or_false] at hc
  rcases hc with rfl | rfl
  ·show Zsf 0 ls R k=none
   unfold Zsf
   split
   ·rfl
   ·rfl
  ·show Zuf 0 ls R k=none
   unfold Zuf
   split
   ·rfl
   ·rfl
 ·rw [show (Zfa Tryz.f126).code=Zca Tryz.f126 from rfl,Z5r] at hc
  simp only [List.mem_cons,List.not_mem_nil,or_false] at hc
  rcases hc with rfl | rfl
  ·obtain rfl:ZVp=p:=Option.some.inj hp
   change Zsf (m + 1) ls R k=some r at h
   have h':=h
   unfold Zsf at h'
   split at h'
   ·exact (Z6C m _ _ _ _ _ _ _ _ _ _ _ _ R k).trans h
   ·cases h'
  ·obtain rfl:Z5p=p:=Option.some.inj hp
   change Zuf (m + 1) ls R k=some r at h
   have h':=h
   unfold Zuf at h'
   split at h'
   ·exact (ZdC m _ _ _ _ _ _ _ _ _ _ _ _ R k).trans h
   ·cases h'
 ·rw [show (Zfa Tryz.f126).code=Zca Tryz.f126 from rfl,ZEC] at hc
  simp only [List.mem_cons,List.not_mem_nil,or_false] at hc
  rcases hc with rfl
  ·obtain rfl:Zpo=p:=Option.some.inj hp
   change Zrl m ls R k=some r at h
   have h':=h
   unfold Zrl at h'
   split at h'
   ·exact (ZCA m _ _ _ _ _ _ _ _ _ _ _ _ _ _ R k).trans h
   ·cases h'
 ·obtain ⟨y,hy,hx⟩:=Zba h
  cases hx
  obtain ⟨p1,p2,p3,p4,p5,p6,p7,a,d9,b,d,rfl⟩:=ZYF hy
  obtain ⟨n,hn⟩:=hok p1 p2 p3 p4 p5 p6 p7 a d9 b d y hy
  exact ⟨n,(Z3H n p1 p2 p3 p4 p5 p6 p7 a d9 b d).trans (hn _ _)⟩
end
end Go.Proofs.YtgpjfmihogaooaaGreatDoorV
namespace Go.Proofs.YtgpjfmihogaooaaGreatDoorV
open Go
set_option maxRecDepth 100000
set_option linter.unusedVariables false
set_option linter.unusedSimpArgs false
noncomputable section
def Zkm {R:Type} (p1 p2 p3 p4 p5 p6:Rs)(p7 a:Int)(d9 b d:Rs)(k:Int→Option R):Option R :=
 Option.bind (Zmb d9 b d) fun e =>
 Option.bind (ZUo p1 p2 p3 p4 p5 p6 p7 e.1 e.2.1 e.2.2) fun f =>
 cond f (
  k 11) (
  Option.bind (Zij e.2.2 a) fun g =>
  cond g (
   k 11) (
   Option.bind (Zij e.2.1 a) fun i =>
   cond i (
    k 12) (
    Option.bind (Z3g p1 p2 p3 p4 p5 p6 p7 a e.1 e.2.1 e.2.2) fun j =>
    cond j (
     k 12) (
     k 0))))
def ZkE (y:Int):PV × Cs:=((PV.int .i64 y),[])
def Zjh (p1 p2 p3 p4 p5 p6:Rs)(p7 a:Int)(d9 b d:Rs):Option (Int):=Zkm p1 p2 p3 p4 p5 p6 p7 a d9 b d fun a0=>some a0
def ZVw:Cs→Option (Int)
 | [.agg [.fs p1,.fs p2,.fs p3,.fs p4,.fs p5,.fs p6,.int .i64 p7],.int .i64 a,.agg [.fs d9,.fs b,.fs d]]=>Zjh p1 p2 p3 p4 p5 p6 p7 a d9 b d
 | _=>none
def ZNw:List (Nat × Cal):=[(46,.ctr Z0c),(124,.ctr Zqu),(125,.ctr ZJr),(126,.ctr ZNr),(1000000003,ro_I)]
def ZXq:Ctr:=⟨[none,none,none],Int,ZVw,ZkE,true,.d⟩
theorem Z6J (p1 p2 p3 p4 p5 p6:Rs)(p7 a:Int)(d9 b d:Rs) :
  funK T G0 (Zja ZNw) noL .d true [none,none,none] (Zfa Tryz.f48) [.agg [.fs p1,.fs p2,.fs p3,.fs p4,.fs p5,.fs p6,.int .i64 p7],.int .i64 a,.agg [.fs d9,.fs b,.fs d]]=Zkm  p1 p2 p3 p4 p5 p6 p7 a d9 b d (fun a0=>some (ZkE a0)):=by kernel_rfl
theorem ZpJ {ps:Cs} {y:Int} (h:ZVw ps=some y):∃ (p1:Rs) (p2:Rs) (p3:Rs) (p4:Rs) (p5:Rs) (p6:Rs) (p7:Int) (a:Int) (d9:Rs) (b:Rs) (d:Rs),ps=[.agg [.fs p1,.fs p2,.fs p3,.fs p4,.fs p5,.fs p6,.int .i64 p7],.int .i64 a,.agg [.fs d9,.fs b,.fs d]]:=by
 unfold ZVw at h
 split at h
 ·exact ⟨_,_,_,_,_,_,_,_,_,_,_,rfl⟩
 ·cases h
theorem ZmJ {R:Type} (p1 p2 p3 p4 p5 p6:Rs)(p7 a:Int)(d9 b d:Rs)(k:Int→Option R):Zkm p1 p2 p3 p4 p5 p6 p7 a d9 b d k=Option.bind (Zkm p1 p2 p3 p4 p5 p6 p7 a d9 b d fun a0=>some a0) fun y=>k y:=by
 unfold Zkm
 first | rfl | simp only [Option.bind_assoc,Zya,Zxa,Option.bind_some,Option.bind_none]
theorem ZsF (hΓ:Zga Tryz.prog G0 ZNw):Zka Tryz.prog G0 48 ZXq:=by
 refine ZIa mixed tOk (Zna hΓ) Tryz.func48 rfl rfl rfl rfl (F:=Zfa Tryz.f48) (fun ps x h=>?_)
 obtain ⟨y,hy,hx⟩:=Zba h
 cases hx
 obtain ⟨p1,p2,p3,p4,p5,p6,p7,a,d9,b,d,rfl⟩:=ZpJ hy
 have hy':Zjh p1 p2 p3 p4 p5 p6 p7 a d9 b d=some y:=hy
 refine ⟨noL,ZKa _,(Z6J p1 p2 p3 p4 p5 p6 p7 a d9 b d).trans ?_⟩
 unfold Zjh at hy'
 rw [ZmJ,hy']
 rfl
def itoaQ_E (y:ByteArray):PV × Cs:=((PV.str y),[])
def itoaQ_D:Cs→Option (ByteArray)
 | [(PV.int .i64 i1)]=>sItoaQ i1
 | _=>none
def itoaQ_C:Ctr:=⟨[none],ByteArray,itoaQ_D,itoaQ_E,true,.d⟩
def ZQh {R:Type} (n1:Int)(k:ByteArray→Option R):Option R :=
 Option.bind (sItoaQ n1) fun y2 =>
 k y2
def Zqx (y:ByteArray):PV × Cs:=((PV.str y),[])
def ZHh (n1:Int):Option (ByteArray):=ZQh n1 fun a0=>some a0
def Zuq:Cs→Option (ByteArray)
 | [.int .i64 n1]=>ZHh n1
 | _=>none
def Z1p:List (Nat × Cal):=[(166,.ctr itoaQ_C)]
def ZWp:Ctr:=⟨[none],ByteArray,Zuq,Zqx,true,.d⟩
theorem ZrG (n1:Int) :
  funK T G0 (Zja Z1p) noL .d true [none] (Zfa Tryz.f107) [.int .i64 n1]=ZQh  n1 (fun a0=>some (Zqx a0)):=by kernel_rfl
theorem ZmD {ps:Cs} {y:ByteArray} (h:Zuq ps=some y):∃ (n1:Int),ps=[.int .i64 n1]:=by
 unfold Zuq at h
 split at h
 ·exact ⟨_,rfl⟩
 ·cases h
theorem ZdE {R:Type} (n1:Int)(k:ByteArray→Option R):ZQh n1 k=Option.bind (ZQh n1 fun a0=>some a0) fun y=>k y:=by
 unfold ZQh
 first | rfl | simp only [Option.bind_assoc,Zya,Zxa,Option.bind_some,Option.bind_none]
theorem ZFA (hΓ:Zga Tryz.prog G0 Z1p):Zka Tryz.prog G0 107 ZWp:=by
 refine ZIa mixed tOk (Zna hΓ) Tryz.func107 rfl rfl rfl rfl (F:=Zfa Tryz.f107) (fun ps x h=>?_)
 obtain ⟨y,hy,hx⟩:=Zba h
 cases hx
 obtain ⟨n1,rfl⟩:=ZmD hy
 have hy':ZHh n1=some y:=hy
 refine ⟨noL,ZKa _,(ZrG n1).trans ?_⟩
 unfold ZHh at hy'
 rw [ZdE,hy']
 rfl
def ZRk {R:Type}:Nat→ByteArray→Rs→Int→Int→(ByteArray→Option R)→Option R
 | 0,_,_,_,_,_=>none
 | n + 1,a,b,i6,i7,k0 =>
  cond (decide (i7 < i6)) (
   Option.bind (idx b i7) fun e8 =>
   if e8.length=1 then
    Option.bind (e8[0]?) fun c9 =>
    Option.bind (PV.asI .i64 c9) fun d =>
    if (a).size + ((ByteArray.mk #[32])).size≤140737488355328 then
     Option.bind (ZHh d) fun e =>
     if ((a ++ (ByteArray.mk #[32]))).size + (e).size≤140737488355328 then
      ZRk n ((a ++ (ByteArray.mk #[32])) ++ e) b i6 (IntKind.i64.wrap (i7 + (1:Int))) k0
     else none
    else none
   else none) (
   k0 a)
def ZFm {R:Type} (n:Nat)(a:ByteArray)(n2:Rs)(k:ByteArray→Option R):Option R :=
 ZRk n a n2 (n2.length:Int) 0 k
def Z8D (y:ByteArray):PV × Cs:=((PV.str y),[])
def ZVm:Nat→ByteArray→Rs→Int→Int→Option ((ByteArray))
 | 0,_,_,_,_=>none
 | n + 1,a,b,i6,i7 =>
  cond (decide (i7 < i6)) (
   Option.bind (idx b i7) fun e8 =>
   if e8.length=1 then
    Option.bind (e8[0]?) fun c9 =>
    Option.bind (PV.asI .i64 c9) fun d =>
    if (a).size + ((ByteArray.mk #[32])).size≤140737488355328 then
     Option.bind (ZHh d) fun e =>
     if ((a ++ (ByteArray.mk #[32]))).size + (e).size≤140737488355328 then
      ZVm n ((a ++ (ByteArray.mk #[32])) ++ e) b i6 (IntKind.i64.wrap (i7 + (1:Int)))
     else none
    else none
   else none) (
   some a)
theorem ZlI {R:Type} (n:Nat)(a:ByteArray)(b:Rs)(i6 i7:Int)(k0:ByteArray→Option R):Tw (ZVm n a b i6 i7) (ZRk n a b i6 i7 k0) (fun s=>match s with | a0=>k0 a0):=by
 induction n generalizing a b i6 i7 with
 | zero=>exact Zwa
 | succ n ih =>
  unfold ZVm ZRk
  refine Zha (fun _=>?_) (fun _=>?_)
  ·refine Zaa fun e8 _=>?_
   refine Zqa fun _=>?_
   refine Zaa fun c9 _=>?_
   refine Zaa fun d _=>?_
   refine Zqa fun _=>?_
   refine Zaa fun e _=>?_
   refine Zqa fun _=>?_
   exact ih _ _ _ _
  ·exact Zda rfl
def Z8b (a:ByteArray)(n2:Rs):Option (ByteArray) :=
 Option.bind (ZVm 9223372036854775808 a n2 (n2.length:Int) 0) fun s=>match s with
  | b =>
   some b
theorem ZgK {R:Type} (a:ByteArray)(n2:Rs)(k:ByteArray→Option R):Tw (Z8b a n2) (ZFm 9223372036854775808 a n2 k) (fun s=>match s with | a0=>k a0):=by
 unfold Z8b ZFm
 refine Zma (ZlI _ _ _ _ _ _) (fun s=>?_)
 rcases s with b
 ·exact Zda rfl
theorem ZqK:∀ (a:ByteArray)(n2:Rs)(y:ByteArray),Z8b a n2=some y→∃ n,∀ (R:Type)(k:ByteArray→Option R),ZFm n a n2 k=k y:=fun a n2 y h=>⟨9223372036854775808,fun R k=>ZgK a n2 k y h⟩
def Z8w:Cs→Option (ByteArray)
 | [.str a,.fs n2]=>Z8b a n2
 | _=>none
def ZPq:List (Nat × Cal):=[(107,.ctr ZWp)]
def Znr:Ctr:=⟨[none,none],ByteArray,Z8w,Z8D,true,.d⟩
def Z0i:List (Nat × LC):=[(2,⟨[0,7,8,9],[],[],[],[]⟩),
 (1002000,⟨[0],[],[],[],[]⟩)]
def Zcu:SP:=⟨Zea .undef [(0,(.val .str)),(7,(.val .fs)),(8,(.val (.int .i64))),(9,(.val (.int .i64)))] 0 20,[],[]⟩
def ZHy:Nat→Option SP
 | 2=>some Zcu
 | _=>none
def ZSx:Nat→Option SP
 | _=>none
def ZZh (n:Nat)(ls:List Leaf)(R:Type)(k:Ex→St→Option R):Option R :=
 match ls with
 | [.str a,.rows b,.int i6,.int i7]=>ZRk n a b i6 i7 (fun d=>k (.exit 0) ⟨Zea .undef [(0,(TV.val (PV.str d)))] 0 20,[],[]⟩)
 | _=>none
def ZjD (n key:Nat) (ls:List Leaf) (R:Type) (k:Ex→St→Option R):Option R :=
 match key with
 | 2=>ZZh n ls R k
 | _=>none
def ZnD (n key:Nat) (ls:List Leaf) (R:Type) (k:Ex→St→Option R):Option R :=
 match key with
 | _=>none
def ZkB:Code→Bool:=fun _=>false
def ZNE:Nat→Loops:=patL (Zsa Z0i) ZHy ZjD (ZCa Z0i) ZkB ZSx ZnD
theorem Z8E (n:Nat)(a:ByteArray)(b:Rs)(i6 i7:Int)  (R:Type) (k:Ex→St→Option R) :
  Zza T G0 (Zja ZPq) (Zsa Z0i) (ZNE n) (Zia [1,0,1,0,0] (Zca Tryz.f42)) (Zoa Zcu [.str a,.rows b,.int i6,.int i7]) R k=ZZh (n + 1) [.str a,.rows b,.int i6,.int i7] R k:=by kernel_rfl
theorem ZoK (n:Nat)(a:ByteArray)(n2:Rs) :
  funK T G0 (Zja ZPq) (ZNE n) .d true [none,none] (Zfa Tryz.f42) [.str a,.fs n2]=ZFm n  a n2 (fun a0=>some (Z8D a0)):=by kernel_rfl
theorem ZcJ {ps:Cs} {y:ByteArray} (h:Z8w ps=some y):∃ (a:ByteArray) (n2:Rs),ps=[.str a,.fs n2]:=by
 unfold Z8w at h
 split at h
 ·exact ⟨_,_,rfl⟩
 ·cases h
theorem Zfv:Zpa (Zca Tryz.f42)=[Zia [1,0,1,0,0] (Zca Tryz.f42)]:=by kernel_rfl
theorem ZMF (hΓ:Zga Tryz.prog G0 ZPq) (hok:∀ (a:ByteArray)(n2:Rs)(y:ByteArray),Z8b a n2=some y→∃ n,∀ (R:Type)(k:ByteArray→Option R),ZFm n  a n2 k=k y):Zka Tryz.prog G0 42 Znr:=by
 refine ZHa mixed tOk (Zna hΓ) Tryz.func42 rfl rfl rfl rfl (F:=Zfa Tryz.f42) (ZBa Z0i) (pat:=ZHy) (L:=ZjD) (ZFa Z0i) (on:=ZkB) (patj:=ZSx) (J:=ZnD) (fun c hc ls R k=>?_) (fun c hc p hp m ls R k r h=>?_) (fun c hc p hp m ls R k r h=>?_) (fun ps x h=>?_)
 ·rw [show (Zfa Tryz.f42).code=Zca Tryz.f42 from rfl,Zfv] at hc
  simp only [List.mem_cons,List.not_mem_nil,or_false] at hc
  rcases hc with rfl
  ·show ZZh 0 ls R k=none
   unfold ZZh
   split
   ·rfl
   ·rfl
 ·rw [show (Zfa Tryz.f42).code=Zca Tryz.f42 from rfl,Zfv] at hc
  simp only [List.mem_cons,List.not_mem_nil,or_false] at hc
  rcases hc with rfl
  ·obtain rfl:Zcu=p:=Option.some.inj hp
   change ZZh (m + 1) ls R k=some r at h
   have h':=h
   unfold ZZh at h'
   split at h'
   ·exact (Z8E m _ _ _ _ R k).trans h
   ·cases h'
 ·cases (List.mem_filter.1 hc).2
 ·obtain ⟨y,hy,hx⟩:=Zba h
  cases hx
  obtain ⟨a,n2,rfl⟩:=ZcJ hy
  obtain ⟨n,hn⟩:=hok a n2 y hy
  exact ⟨n,(ZoK n a n2).trans (hn _ _)⟩
def ZPs {R:Type} (n1:Rs)(k:ByteArray→Option R):Option R :=
 Option.bind (Z8b (ByteArray.mk #[111,107]) n1) fun y2 =>
 k y2
def ZPJ (y:ByteArray):PV × Cs:=((PV.str y),[])
def Zph (n1:Rs):Option (ByteArray):=ZPs n1 fun a0=>some a0
def ZrC:Cs→Option (ByteArray)
 | [.fs n1]=>Zph n1
 | _=>none
def ZuC:List (Nat × Cal):=[(42,.ctr Znr)]
def ZTw:Ctr:=⟨[none],ByteArray,ZrC,ZPJ,true,.d⟩
theorem ZAL (n1:Rs) :
  funK T G0 (Zja ZuC) noL .d true [none] (Zfa Tryz.f47) [.fs n1]=ZPs  n1 (fun a0=>some (ZPJ a0)):=by kernel_rfl
theorem ZiL {ps:Cs} {y:ByteArray} (h:ZrC ps=some y):∃ (n1:Rs),ps=[.fs n1]:=by
 unfold ZrC at h
 split at h
 ·exact ⟨_,rfl⟩
 ·cases h
theorem Z0K {R:Type} (n1:Rs)(k:ByteArray→Option R):ZPs n1 k=Option.bind (ZPs n1 fun a0=>some a0) fun y=>k y:=by
 unfold ZPs
 first | rfl | simp only [Option.bind_assoc,Zya,Zxa,Option.bind_some,Option.bind_none]
theorem ZzJ (hΓ:Zga Tryz.prog G0 ZuC):Zka Tryz.prog G0 47 ZTw:=by
 refine ZIa mixed tOk (Zna hΓ) Tryz.func47 rfl rfl rfl rfl (F:=Zfa Tryz.f47) (fun ps x h=>?_)
 obtain ⟨y,hy,hx⟩:=Zba h
 cases hx
 obtain ⟨n1,rfl⟩:=ZiL hy
 have hy':Zph n1=some y:=hy
 refine ⟨noL,ZKa _,(ZAL n1).trans ?_⟩
 unfold Zph at hy'
 rw [Z0K,hy']
 rfl
def ZFh {R:Type} (a:Bool)(b d e:Rs)(k0:ByteArray→Option R)(k1:Rs→Rs→Rs→Option R):Option R :=
 cond a (
  Option.bind (Z5d 15) fun f =>
  k0 f) (
  k1 b d e)
def Zaj {R:Type} (p1 p2 p3 p4 p5 p6:Rs)(p7 a:Int)(s9:Rs)(k:Rs→Rs→Rs→ByteArray→Option R):Option R :=
 Option.bind (ZCc s9) fun b =>
 cond (!b.2.2.2) (
  Option.bind (Z5d 14) fun d =>
  k [] [] [] d) (
  Option.bind (sStill p1 p2 p3 p4 p5 p6 p7 PV.mnil) fun e =>
  cond (!e) (
   ZFh true b.1 b.2.1 b.2.2.1
    (fun (f:ByteArray) =>
     k [] [] [] f)
    (fun (g i j:Rs) =>
     Option.bind (Zmb g i j) fun l =>
     Option.bind (Zph []) fun o =>
     k l.1 l.2.1 l.2.2 o)) (
   Option.bind (Zjh p1 p2 p3 p4 p5 p6 p7 a b.1 b.2.1 b.2.2.1) fun q =>
   ZFh (q !=(0:Int)) b.1 b.2.1 b.2.2.1
    (fun (t:ByteArray) =>
     k [] [] [] t)
    (fun (u v z:Rs) =>
     Option.bind (Zmb u v z) fun A =>
     Option.bind (Zph []) fun B =>
     k A.1 A.2.1 A.2.2 B)))
def ZWz (y:Rs × Rs × Rs × ByteArray):PV × Cs:=((PV.tuple [.agg [.fs y.1,.fs y.2.1,.fs y.2.2.1],.str y.2.2.2]),[])
def ZJj (a:Bool)(b d e:Rs):Option ((ByteArray) ⊕ (Rs × Rs × Rs)) :=
 cond a (
  Option.bind (Z5d 15) fun f =>
  some (Sum.inl f)) (
  some (Sum.inr (b,d,e)))
theorem Zht {R:Type} (a:Bool)(b d e:Rs)(k0:ByteArray→Option R)(k1:Rs→Rs→Rs→Option R):Tw (ZJj a b d e) (ZFh a b d e k0 k1) (fun s=>match s with | (Sum.inl a0)=>k0 a0 | (Sum.inr (a0,a1,a2))=>k1 a0 a1 a2):=by
 unfold ZJj ZFh
 refine Zha (fun _=>?_) (fun _=>?_)
 ·refine Zaa fun f _=>?_
  exact Zda rfl
 ·exact Zda rfl
def Z1c (p1 p2 p3 p4 p5 p6:Rs)(p7 a:Int)(s9:Rs):Option (Rs × Rs × Rs × ByteArray) :=
 Option.bind (ZCc s9) fun b =>
 cond (!b.2.2.2) (
  Option.bind (Z5d 14) fun d =>
  some ([],[],[],d)) (
  Option.bind (sStill p1 p2 p3 p4 p5 p6 p7 PV.mnil) fun e =>
  cond (!e) (
   Option.bind (ZJj true b.1 b.2.1 b.2.2.1) fun s=>match s with
    | (Sum.inl f) =>
     some ([],[],[],f)
    | (Sum.inr (g,i,j)) =>
     Option.bind (Zmb g i j) fun l =>
     Option.bind (Zph []) fun o =>
     some (l.1,l.2.1,l.2.2,o)) (
   Option.bind (Zjh p1 p2 p3 p4 p5 p6 p7 a b.1 b.2.1 b.2.2.1) fun q =>
   Option.bind (ZJj (q !=(0:Int)) b.1 b.2.1 b.2.2.1) fun s=>match s with
    | (Sum.inl t) =>
     some ([],[],[],t)
    | (Sum.inr (u,v,z)) =>
     Option.bind (Zmb u v z) fun A =>
     Option.bind (Zph []) fun B =>
     some (A.1,A.2.1,A.2.2,B)))
theorem Z0G {R:Type} (p1 p2 p3 p4 p5 p6:Rs)(p7 a:Int)(s9:Rs)(k:Rs→Rs→Rs→ByteArray→Option R):Tw (Z1c p1 p2 p3 p4 p5 p6 p7 a s9) (Zaj  p1 p2 p3 p4 p5 p6 p7 a s9 k) (fun s=>match s with | (a0,a1,a2,a3)=>k a0 a1 a2 a3):=by
 unfold Z1c Zaj
 refine Zaa fun b _=>?_
 refine Zha (fun _=>?_) (fun _=>?_)
 ·refine Zaa fun d _=>?_
  exact Zda rfl
 ·refine Zaa fun e _=>?_
  refine Zha (fun _=>?_) (fun _=>?_)
  ·refine Zma (Zht _ _ _ _ _ _) (fun s=>?_)
   rcases s with f | ⟨g,i,j⟩
   ·exact Zda rfl
   ·refine Zaa fun l _=>?_
    refine Zaa fun o _=>?_
    exact Zda rfl
  ·refine Zaa fun q _=>?_
   refine Zma (Zht _ _ _ _ _ _) (fun s=>?_)
   rcases s with t | ⟨u,v,z⟩
   ·exact Zda rfl
   ·refine Zaa fun A _=>?_
    refine Zaa fun B _=>?_
    exact Zda rfl
theorem ZmI:∀ (p1 p2 p3 p4 p5 p6:Rs)(p7 a:Int)(s9:Rs)(y:Rs × Rs × Rs × ByteArray),Z1c p1 p2 p3 p4 p5 p6 p7 a s9=some y→∀ (R:Type)(k:Rs→Rs→Rs→ByteArray→Option R),Zaj  p1 p2 p3 p4 p5 p6 p7 a s9 k=k y.1 y.2.1 y.2.2.1 y.2.2.2:=fun p1 p2 p3 p4 p5 p6 p7 a s9 y h=>fun R k=>Z0G p1 p2 p3 p4 p5 p6 p7 a s9 k y h
def Zgs:Cs→Option (Rs × Rs × Rs × ByteArray)
 | [.agg [.fs p1,.fs p2,.fs p3,.fs p4,.fs p5,.fs p6,.int .i64 p7],.int .i64 a,.rp [.fs s9] 0]=>Z1c p1 p2 p3 p4 p5 p6 p7 a s9
 | _=>none
def Zan:List (Nat × Cal):=[(104,.ctr ZNl),(41,.ctr Z8r),(105,.ctr Zyr),(46,.ctr Z0c),(47,.ctr ZTw),(48,.ctr ZXq),(1000000003,ro_I)]
def Zxs:Ctr:=⟨[none,none,none],Rs × Rs × Rs × ByteArray,Zgs,ZWz,false,.d⟩
def ZVg:List (Nat × LC):=[(4000006,⟨[6,8,20],[],[],[],[]⟩),
 (6000006,⟨[6,7],[],[],[],[]⟩),
 (5000006,⟨[6,8],[],[],[],[]⟩)]
def ZIo:SP:=⟨Zea .undef [(6,(.ref 0 0)),(8,(.ref 1 0)),(20,(.val .bool))] 0 40,[(.box [(.nil 3),(.nil 3),(.nil 3)]),(.pbox (.agg [.fs,.fs,.fs,.mnil,.mnil]) 5)],[]⟩
def ZMv:Nat→Option SP
 | _=>none
def Zkt:Nat→Option SP
 | 6=>some ZIo
 | _=>none
def Zvl (n:Nat)(ls:List Leaf)(R:Type)(k:Ex→St→Option R):Option R :=
 match ls with
 | [.bool a,.rows b,.rows d,.rows e]=>ZFh a b d e (fun f=>k .ret ⟨Zea .undef [(6,(TV.ref 0 0)),(7,(TV.val (PV.str f)))] 0 40,[(Ob.box [(TV.nil 3),(TV.nil 3),(TV.nil 3)])],[]⟩)
   (fun g i j=>k .normal ⟨Zea .undef [(6,(TV.ref 0 0)),(8,(TV.ref 1 0))] 0 40,[(Ob.box [(TV.nil 3),(TV.nil 3),(TV.nil 3)]),(Ob.pbox (PV.agg [.fs g,.fs i,.fs j,PV.mnil,PV.mnil]) 5)],[]⟩)
 | _=>none
def Z4z (n key:Nat) (ls:List Leaf) (R:Type) (k:Ex→St→Option R):Option R :=
 match key with
 | _=>none
def ZPz (n key:Nat) (ls:List Leaf) (R:Type) (k:Ex→St→Option R):Option R :=
 match key with
 | 6=>Zvl n ls R k
 | _=>none
def Zrq:Code→Bool:=onKeys [6]
def ZJz:Nat→Loops:=patL (Zsa ZVg) ZMv Z4z (ZCa ZVg) Zrq Zkt ZPz
theorem ZZA (n:Nat)(a:Bool)(b d e:Rs)  (R:Type) (k:Ex→St→Option R) :
  Z0a T G0 (Zja Zan) (ZCa ZVg) (ZJz n) (Zia [1,1,0,0,1,1,1] (Zca Tryz.f39)) (Zoa ZIo [.bool a,.rows b,.rows d,.rows e]) R k=Zvl n [.bool a,.rows b,.rows d,.rows e] R k:=by kernel_rfl
theorem Z8G (p1 p2 p3 p4 p5 p6:Rs)(p7 a:Int)(s9:Rs) :
  funK T G0 (Zja Zan) (ZJz 0) .d false [none,none,none] (Zfa Tryz.f39) [.agg [.fs p1,.fs p2,.fs p3,.fs p4,.fs p5,.fs p6,.int .i64 p7],.int .i64 a,.rp [.fs s9] 0]=Zaj  p1 p2 p3 p4 p5 p6 p7 a s9 (fun a0 a1 a2 a3=>some (ZWz (a0,a1,a2,a3))):=by kernel_rfl
theorem ZOF {ps:Cs} {y:Rs × Rs × Rs × ByteArray} (h:Zgs ps=some y):∃ (p1:Rs) (p2:Rs) (p3:Rs) (p4:Rs) (p5:Rs) (p6:Rs) (p7:Int) (a:Int) (s9:Rs),ps=[.agg [.fs p1,.fs p2,.fs p3,.fs p4,.fs p5,.fs p6,.int .i64 p7],.int .i64 a,.rp [.fs s9] 0]:=by
 unfold Zgs at h
 split at h
 ·exact ⟨_,_,_,_,_,_,_,_,_,rfl⟩
 ·cases h
theorem ZGr:Zpa (Zca Tryz.f39)=[]:=by kernel_rfl
theorem ZfC:(ZAa (Zca Tryz.f39)).filter Zrq=[Zia [1,1,0,0,1,1,1] (Zca Tryz.f39)]:=by kernel_rfl
theorem ZTC (hΓ:Zga Tryz.prog G0 Zan) (hok:∀ (p1 p2 p3 p4 p5 p6:Rs)(p7 a:Int)(s9:Rs)(y:Rs × Rs × Rs × ByteArray),Z1c p1 p2 p3 p4 p5 p6 p7 a s9=some y→∀ (R:Type)(k:Rs→Rs→Rs→ByteArray→Option R),Zaj  p1 p2 p3 p4 p5 p6 p7 a s9 k=k y.1 y.2.1 y.2.2.1 y.2.2.2):Zka Tryz.prog G0 39 Zxs:=by
 refine ZHa mixed tOk (Zna hΓ) Tryz.func39 rfl rfl rfl rfl (F:=Zfa Tryz.f39) (ZBa ZVg) (pat:=ZMv) (L:=Z4z) (ZFa ZVg) (on:=Zrq) (patj:=Zkt) (J:=ZPz) (fun c hc ls R k=>?_) (fun c hc p hp m ls R k r h=>?_) (fun c hc p hp m ls R k r h=>?_) (fun ps x h=>?_)
 ·rw [show (Zfa Tryz.f39).code=Zca Tryz.f39 from rfl,ZGr] at hc
  cases hc
 ·rw [show (Zfa Tryz.f39).code=Zca Tryz.f39 from rfl,ZGr] at hc
  cases hc
 ·rw [show (Zfa Tryz.f39).code=Zca Tryz.f39 from rfl,ZfC] at hc
  simp only [List.mem_cons,List.not_mem_nil,or_false] at hc
  rcases hc with rfl
  ·obtain rfl:ZIo=p:=Option.some.inj hp
   change Zvl m ls R k=some r at h
   have h':=h
   unfold Zvl at h'
   split at h'
   ·exact (ZZA m _ _ _ _ R k).trans h
   ·cases h'
 ·obtain ⟨y,hy,hx⟩:=Zba h
  cases hx
  obtain ⟨p1,p2,p3,p4,p5,p6,p7,a,s9,rfl⟩:=ZOF hy
  exact ⟨0,(Z8G p1 p2 p3 p4 p5 p6 p7 a s9).trans (hok p1 p2 p3 p4 p5 p6 p7 a s9 y hy _ _)⟩
def ZQc {R:Type}:Nat→Cs→Int→Rs→(Rs→Option R)→Option R
 | 0,_,_,_,_=>none
 | n + 1,p9,a,b,k0 =>
  Option.bind (p9[1]?) fun d =>
  Option.bind (PV.asFs d) fun e =>
  cond (decide (a < (e.length:Int))) (
   Option.bind (Zra p9 0 7) fun f =>
   Option.bind (ZPe [f,.int .i64 a]) fun g =>
   cond (decide (g.1 < (0:Int))) (
    if (b.length + ([[.int .i64 a]]:Rs).length) * 8≤Zla then
     ZQc n p9 (IntKind.i64.wrap (a + (1:Int))) (b ++ [[.int .i64 a]]) k0
    else none) (
    ZQc n p9 (IntKind.i64.wrap (a + (1:Int))) b k0)) (
   k0 b)
def Zbe {R:Type} (n:Nat)(p1 p2 p3 p4 p5 p6:Rs)(p7:Int)(k:Rs→Option R):Option R :=
 ZQc n [.fs p1,.fs p2,.fs p3,.fs p4,.fs p5,.fs p6,.int .i64 p7] 1 [] k
def ZCq (y:Rs):PV × Cs:=((PV.fs y),[])
def Zsd:Nat→Cs→Int→Rs→Option ((Rs))
 | 0,_,_,_=>none
 | n + 1,p9,a,b =>
  Option.bind (p9[1]?) fun d =>
  Option.bind (PV.asFs d) fun e =>
  cond (decide (a < (e.length:Int))) (
   Option.bind (Zra p9 0 7) fun f =>
   Option.bind (ZPe [f,.int .i64 a]) fun g =>
   cond (decide (g.1 < (0:Int))) (
    if (b.length + ([[.int .i64 a]]:Rs).length) * 8≤Zla then
     Zsd n p9 (IntKind.i64.wrap (a + (1:Int))) (b ++ [[.int .i64 a]])
    else none) (
    Zsd n p9 (IntKind.i64.wrap (a + (1:Int))) b)) (
   some b)
theorem Zax {R:Type} (n:Nat)(p9:Cs)(a:Int)(b:Rs)(k0:Rs→Option R):Tw (Zsd n p9 a b) (ZQc n p9 a b k0) (fun s=>match s with | a0=>k0 a0):=by
 induction n generalizing p9 a b with
 | zero=>exact Zwa
 | succ n ih =>
  unfold Zsd ZQc
  refine Zaa fun d _=>?_
  refine Zaa fun e _=>?_
  refine Zha (fun _=>?_) (fun _=>?_)
  ·refine Zaa fun f _=>?_
   refine Zaa fun g _=>?_
   refine Zha (fun _=>?_) (fun _=>?_)
   ·refine Zqa fun _=>?_
    exact ih _ _ _
   ·exact ih _ _ _
  ·exact Zda rfl
def Zfb (p1 p2 p3 p4 p5 p6:Rs)(p7:Int):Option (Rs) :=
 Option.bind (Zsd 9223372036854775808 [.fs p1,.fs p2,.fs p3,.fs p4,.fs p5,.fs p6,.int .i64 p7] 1 []) fun s=>match s with
  | a =>
   some a
theorem ZQy {R:Type} (p1 p2 p3 p4 p5 p6:Rs)(p7:Int)(k:Rs→Option R):Tw (Zfb p1 p2 p3 p4 p5 p6 p7) (Zbe 9223372036854775808 p1 p2 p3 p4 p5 p6 p7 k) (fun s=>match s with | a0=>k a0):=by
 unfold Zfb Zbe
 refine Zma (Zax _ _ _ _ _) (fun s=>?_)
 rcases s with a
 ·exact Zda rfl
theorem Zlz:∀ (p1 p2 p3 p4 p5 p6:Rs)(p7:Int)(y:Rs),Zfb p1 p2 p3 p4 p5 p6 p7=some y→∃ n,∀ (R:Type)(k:Rs→Option R),Zbe n p1 p2 p3 p4 p5 p6 p7 k=k y:=fun p1 p2 p3 p4 p5 p6 p7 y h=>⟨9223372036854775808,fun R k=>ZQy p1 p2 p3 p4 p5 p6 p7 k y h⟩
def Zdk:Cs→Option (Rs)
 | [.agg [.fs p1,.fs p2,.fs p3,.fs p4,.fs p5,.fs p6,.int .i64 p7]]=>Zfb p1 p2 p3 p4 p5 p6 p7
 | _=>none
def Zgg:List (Nat × Cal):=[(108,.ctr ZHe),(1000000001,ro_I)]
def Zck:Ctr:=⟨[none],Rs,Zdk,ZCq,false,.d⟩
def Ztd:List (Nat × LC):=[(3,⟨[1,3,4],[3],[],[],[1]⟩),
 (1003000,⟨[3],[],[],[],[]⟩)]
def ZHi:SP:=⟨Zea .undef [(1,(.val (.rp 0))),(3,(.ow 0)),(4,(.val (.int .i64)))] 0 27,[(.row 1)],[]⟩
def Z6n:Nat→Option SP
 | 3=>some ZHi
 | _=>none
def ZQn:Nat→Option SP
 | _=>none
def ZRc (n:Nat)(ls:List Leaf)(R:Type)(k:Ex→St→Option R):Option R :=
 match ls with
 | [.cells p9,.int a,.rows b]=>ZQc n p9 a b (fun d=>k (.exit 0) ⟨Zea .undef [(3,(TV.ow 0))] 0 27,[(Ob.row d 1)],[]⟩)
 | _=>none
def ZBq (n key:Nat) (ls:List Leaf) (R:Type) (k:Ex→St→Option R):Option R :=
 match key with
 | 3=>ZRc n ls R k
 | _=>none
def ZEq (n key:Nat) (ls:List Leaf) (R:Type) (k:Ex→St→Option R):Option R :=
 match key with
 | _=>none
def Zxp:Code→Bool:=fun _=>false
def Zyq:Nat→Loops:=patL (Zsa Ztd) Z6n ZBq (ZCa Ztd) Zxp ZQn ZEq
theorem Zgw (n:Nat)(p9:Cs)(a:Int)(b:Rs)  (R:Type) (k:Ex→St→Option R) :
  Zza T G0 (Zja Zgg) (Zsa Ztd) (Zyq n) (Zia [1,1,0,1,0,0] (Zca Tryz.f43)) (Zoa ZHi [.cells p9,.int a,.rows b]) R k=ZRc (n + 1) [.cells p9,.int a,.rows b] R k:=by kernel_rfl
theorem ZCz (n:Nat)(p1 p2 p3 p4 p5 p6:Rs)(p7:Int) :
  funK T G0 (Zja Zgg) (Zyq n) .d false [none] (Zfa Tryz.f43) [.agg [.fs p1,.fs p2,.fs p3,.fs p4,.fs p5,.fs p6,.int .i64 p7]]=Zbe n  p1 p2 p3 p4 p5 p6 p7 (fun a0=>some (ZCq a0)):=by kernel_rfl
theorem Zjy {ps:Cs} {y:Rs} (h:Zdk ps=some y):∃ (p1:Rs) (p2:Rs) (p3:Rs) (p4:Rs) (p5:Rs) (p6:Rs) (p7:Int),ps=[.agg [.fs p1,.fs p2,.fs p3,.fs p4,.fs p5,.fs p6,.int .i64 p7]]:=by
 unfold Zdk at h
 split at h
 ·exact ⟨_,_,_,_,_,_,_,rfl⟩
 ·cases h
theorem Z7l:Zpa (Zca Tryz.f43)=[Zia [1,1,0,1,0,0] (Zca Tryz.f43)]:=by kernel_rfl
theorem Zcv (hΓ:Zga Tryz.prog G0 Zgg) (hok:∀ (p1 p2 p3 p4 p5 p6:Rs)(p7:Int)(y:Rs),Zfb p1 p2 p3 p4 p5 p6 p7=some y→∃ n,∀ (R:Type)(k:Rs→Option R),Zbe n  p1 p2 p3 p4 p5 p6 p7 k=k y):Zka Tryz.prog G0 43 Zck:=by
 refine ZHa mixed tOk (Zna hΓ) Tryz.func43 rfl rfl rfl rfl (F:=Zfa Tryz.f43) (ZBa Ztd) (pat:=Z6n) (L:=ZBq) (ZFa Ztd) (on:=Zxp) (patj:=ZQn) (J:=ZEq) (fun c hc ls R k=>?_) (fun c hc p hp m ls R k r h=>?_) (fun c hc p hp m ls R k r h=>?_) (fun ps x h=>?_)
 ·rw [show (Zfa Tryz.f43).code=Zca Tryz.f43 from rfl,Z7l] at hc
  simp only [List.mem_cons,List.not_mem_nil,or_false] at hc
  rcases hc with rfl
  ·show ZRc 0 ls R k=none
   unfold ZRc
   split
   ·rfl
   ·rfl
 ·rw [show (Zfa Tryz.f43).code=Zca Tryz.f43 from rfl,Z7l] at hc
  simp only [List.mem_cons,List.not_mem_nil,or_false] at hc
  rcases hc with rfl
  ·obtain rfl:ZHi=p:=Option.some.inj hp
   change ZRc (m + 1) ls R k=some r at h
   have h':=h
   unfold ZRc at h'
   split at h'
   ·exact (Zgw m _ _ _ R k).trans h
   ·cases h'
 ·cases (List.mem_filter.1 hc).2
 ·obtain ⟨y,hy,hx⟩:=Zba h
  cases hx
  obtain ⟨p1,p2,p3,p4,p5,p6,p7,rfl⟩:=Zjy hy
  obtain ⟨n,hn⟩:=hok p1 p2 p3 p4 p5 p6 p7 y hy
  exact ⟨n,(ZCz n p1 p2 p3 p4 p5 p6 p7).trans (hn _ _)⟩
def Zlp {R:Type} (i1 i2 i3 i4:Rs)(a:Int)(k:Bool→Option R):Option R :=
 cond (decide (a ≥ (1:Int))) (
  k (decide (a≤(i2.length:Int)))) (
  k false)
def ZJG (y:Bool):PV × Cs:=((PV.bool y),[])
def Zaz (i1 i2 i3 i4:Rs)(a:Int):Option (Bool):=Zlp i1 i2 i3 i4 a fun a0=>some a0
def ZTi:Cs→Option (Bool)
 | [.agg [.fs i1,.fs i2,.fs i3,.fs i4],.int .i64 a]=>Zaz i1 i2 i3 i4 a
 | _=>none
def Zoy:List (Nat × Cal):=[(1000000002,ro_I)]
def Zwt:Ctr:=⟨[none,none],Bool,ZTi,ZJG,true,.d⟩
theorem ZOK (i1 i2 i3 i4:Rs)(a:Int) :
  funK T G0 (Zja Zoy) noL .d true [none,none] (Zfa Tryz.f168) [.agg [.fs i1,.fs i2,.fs i3,.fs i4],.int .i64 a]=Zlp  i1 i2 i3 i4 a (fun a0=>some (ZJG a0)):=by kernel_rfl
theorem ZZJ {ps:Cs} {y:Bool} (h:ZTi ps=some y):∃ (i1:Rs) (i2:Rs) (i3:Rs) (i4:Rs) (a:Int),ps=[.agg [.fs i1,.fs i2,.fs i3,.fs i4],.int .i64 a]:=by
 unfold ZTi at h
 split at h
 ·exact ⟨_,_,_,_,_,rfl⟩
 ·cases h
theorem ZkK {R:Type} (i1 i2 i3 i4:Rs)(a:Int)(k:Bool→Option R):Zlp i1 i2 i3 i4 a k=Option.bind (Zlp i1 i2 i3 i4 a fun a0=>some a0) fun y=>k y:=by
 unfold Zlp
 first | rfl | simp only [Option.bind_assoc,Zya,Zxa,Option.bind_some,Option.bind_none]
theorem ZVG (hΓ:Zga Tryz.prog G0 Zoy):Zka Tryz.prog G0 168 Zwt:=by
 refine ZIa mixed tOk (Zna hΓ) Tryz.func168 rfl rfl rfl rfl (F:=Zfa Tryz.f168) (fun ps x h=>?_)
 obtain ⟨y,hy,hx⟩:=Zba h
 cases hx
 obtain ⟨i1,i2,i3,i4,a,rfl⟩:=ZZJ hy
 have hy':Zaz i1 i2 i3 i4 a=some y:=hy
 refine ⟨noL,ZKa _,(ZOK i1 i2 i3 i4 a).trans ?_⟩
 unfold Zaz at hy'
 rw [ZkK,hy']
 rfl
def Zom {R:Type} (i1 i2 i3 i4:Rs)(a b:Int)(k:Int→Option R):Option R :=
 cond (decide (a ≥ (i4.length:Int))) (
  k 0) (
  Option.bind (idx i4 a) fun e7 =>
  if e7.length=1 then
   Option.bind (e7[0]?) fun c8 =>
   Option.bind (PV.asFs c8) fun d =>
   cond (decide (b ≥ (d.length:Int))) (
    k 0) (
    Option.bind (idx i4 a) fun e =>
    if e.length=1 then
     Option.bind (e[0]?) fun f =>
     Option.bind (PV.asFs f) fun g =>
     Option.bind (idx g b) fun i =>
     if i.length=1 then
      Option.bind (i[0]?) fun j =>
      Option.bind (PV.asI .i64 j) fun l =>
      k l
     else none
    else none)
  else none)
def ZeD (y:Int):PV × Cs:=((PV.int .i64 y),[])
def Zhw (i1 i2 i3 i4:Rs)(a b:Int):Option (Int):=Zom i1 i2 i3 i4 a b fun a0=>some a0
def Z6c:Cs→Option (Int)
 | [.agg [.fs i1,.fs i2,.fs i3,.fs i4],.int .i64 a,.int .i64 b]=>Zhw i1 i2 i3 i4 a b
 | _=>none
def Zex:List (Nat × Cal):=[(1000000003,ro_I)]
def Z1q:Ctr:=⟨[none,none,none],Int,Z6c,ZeD,true,.d⟩
theorem ZwK (i1 i2 i3 i4:Rs)(a b:Int) :
  funK T G0 (Zja Zex) noL .d true [none,none,none] (Zfa Tryz.f128) [.agg [.fs i1,.fs i2,.fs i3,.fs i4],.int .i64 a,.int .i64 b]=Zom  i1 i2 i3 i4 a b (fun a0=>some (ZeD a0)):=by kernel_rfl
theorem ZUJ {ps:Cs} {y:Int} (h:Z6c ps=some y):∃ (i1:Rs) (i2:Rs) (i3:Rs) (i4:Rs) (a:Int) (b:Int),ps=[.agg [.fs i1,.fs i2,.fs i3,.fs i4],.int .i64 a,.int .i64 b]:=by
 unfold Z6c at h
 split at h
 ·exact ⟨_,_,_,_,_,_,rfl⟩
 ·cases h
theorem ZgJ {R:Type} (i1 i2 i3 i4:Rs)(a b:Int)(k:Int→Option R):Zom i1 i2 i3 i4 a b k=Option.bind (Zom i1 i2 i3 i4 a b fun a0=>some a0) fun y=>k y:=by
 unfold Zom
 first | rfl | simp only [Option.bind_assoc,Zya,Zxa,Option.bind_some,Option.bind_none]
theorem ZsG (hΓ:Zga Tryz.prog G0 Zex):Zka Tryz.prog G0 128 Z1q:=by
 refine ZIa mixed tOk (Zna hΓ) Tryz.func128 rfl rfl rfl rfl (F:=Zfa Tryz.f128) (fun ps x h=>?_)
 obtain ⟨y,hy,hx⟩:=Zba h
 cases hx
 obtain ⟨i1,i2,i3,i4,a,b,rfl⟩:=ZUJ hy
 have hy':Zhw i1 i2 i3 i4 a b=some y:=hy
 refine ⟨noL,ZKa _,(ZwK i1 i2 i3 i4 a b).trans ?_⟩
 unfold Zhw at hy'
 rw [ZgJ,hy']
 rfl
def ZKi {R:Type}:Nat→Cs→Int→Int→Rs→Int→Int→(Int→Option R)→(Cs→Int→Int→Option R)→Option R
 | 0,_,_,_,_,_,_,_,_=>none
 | n + 1,a,b,d,e,i16,f,k0,k1 =>
  cond (decide (f < i16)) (
   Option.bind (idx e f) fun g =>
   if g.length=1 then
    Option.bind (g[0]?) fun i =>
    Option.bind (PV.asI .i64 i) fun j =>
    Option.bind (Zra a 0 4) fun l =>
    Option.bind (ZTi [l,.int .i64 j]) fun o =>
    cond (!o) (
     k0 0) (
     Option.bind (Zra a 0 4) fun q =>
     Option.bind (Z6c [q,.int .i64 d,.int .i64 j]) fun t =>
     ZKi n a (IntKind.i64.wrap (b + t)) j e i16 (IntKind.i64.wrap (f + (1:Int))) k0 k1)
   else none) (
   k1 a b d)
def Zkl {R:Type} (n:Nat)(i1 i2 i3 i4 a:Rs)(k:Int→Option R):Option R :=
 ZKi n [.fs i1,.fs i2,.fs i3,.fs i4] 0 0 a (a.length:Int) 0 k
  (fun (i7:Cs)(b d:Int) =>
   Option.bind (Zra i7 0 4) fun e =>
   Option.bind (Z6c [e,.int .i64 d,.int .i64 0]) fun f =>
   k (IntKind.i64.wrap (b + f)))
def ZoB (y:Int):PV × Cs:=((PV.int .i64 y),[])
def Znl:Nat→Cs→Int→Int→Rs→Int→Int→Option ((Int) ⊕ ((Cs) × Int × Int))
 | 0,_,_,_,_,_,_=>none
 | n + 1,a,b,d,e,i16,f =>
  cond (decide (f < i16)) (
   Option.bind (idx e f) fun g =>
   if g.length=1 then
    Option.bind (g[0]?) fun i =>
    Option.bind (PV.asI .i64 i) fun j =>
    Option.bind (Zra a 0 4) fun l =>
    Option.bind (ZTi [l,.int .i64 j]) fun o =>
    cond (!o) (
     some (Sum.inl 0)) (
     Option.bind (Zra a 0 4) fun q =>
     Option.bind (Z6c [q,.int .i64 d,.int .i64 j]) fun t =>
     Znl n a (IntKind.i64.wrap (b + t)) j e i16 (IntKind.i64.wrap (f + (1:Int))))
   else none) (
   some (Sum.inr (a,b,d)))
theorem ZtG {R:Type} (n:Nat)(a:Cs)(b d:Int)(e:Rs)(i16 f:Int)(k0:Int→Option R)(k1:Cs→Int→Int→Option R):Tw (Znl n a b d e i16 f) (ZKi n a b d e i16 f k0 k1) (fun s=>match s with | (Sum.inl a0)=>k0 a0 | (Sum.inr (a0,a1,a2))=>k1 a0 a1 a2):=by
 induction n generalizing a b d e i16 f with
 | zero=>exact Zwa
 | succ n ih =>
  unfold Znl ZKi
  refine Zha (fun _=>?_) (fun _=>?_)
  ·refine Zaa fun g _=>?_
   refine Zqa fun _=>?_
   refine Zaa fun i _=>?_
   refine Zaa fun j _=>?_
   refine Zaa fun l _=>?_
   refine Zaa fun o _=>?_
   refine Zha (fun _=>?_) (fun _=>?_)
   ·exact Zda rfl
   ·refine Zaa fun q _=>?_
    refine Zaa fun t _=>?_
    exact ih _ _ _ _ _ _
  ·exact Zda rfl
def ZCk (i1 i2 i3 i4 a:Rs):Option (Int) :=
 Option.bind (Znl 9223372036854775808 [.fs i1,.fs i2,.fs i3,.fs i4] 0 0 a (a.length:Int) 0) fun s=>match s with
  | (Sum.inl i6) =>
   some i6
  | (Sum.inr (i7,b,d)) =>
   Option.bind (Zra i7 0 4) fun e =>
   Option.bind (Z6c [e,.int .i64 d,.int .i64 0]) fun f =>
   some (IntKind.i64.wrap (b + f))
theorem Z7I {R:Type} (i1 i2 i3 i4 a:Rs)(k:Int→Option R):Tw (ZCk i1 i2 i3 i4 a) (Zkl 9223372036854775808 i1 i2 i3 i4 a k) (fun s=>match s with | a0=>k a0):=by
 unfold ZCk Zkl
 refine Zma (ZtG _ _ _ _ _ _ _ _ _) (fun s=>?_)
 rcases s with i6 | ⟨i7,b,d⟩
 ·exact Zda rfl
 ·refine Zaa fun e _=>?_
  refine Zaa fun f _=>?_
  exact Zda rfl
theorem ZHJ:∀ (i1 i2 i3 i4 a:Rs)(y:Int),ZCk i1 i2 i3 i4 a=some y→∃ n,∀ (R:Type)(k:Int→Option R),Zkl n i1 i2 i3 i4 a k=k y:=fun i1 i2 i3 i4 a y h=>⟨9223372036854775808,fun R k=>Z7I i1 i2 i3 i4 a k y h⟩
def Z9f:Cs→Option (Int)
 | [.agg [.fs i1,.fs i2,.fs i3,.fs i4],.fs a]=>ZCk i1 i2 i3 i4 a
 | _=>none
def Z8o:List (Nat × Cal):=[(128,.ctr Z1q),(168,.ctr Zwt),(1000000002,ro_I)]
def ZKo:Ctr:=⟨[none,none],Int,Z9f,ZoB,true,.d⟩
def ZBh:List (Nat × LC):=[(3,⟨[2,5,6,9,10,11],[],[],[],[2]⟩),
 (2000003,⟨[4],[],[],[],[]⟩),
 (1003000,⟨[2,5,6],[],[],[],[]⟩)]
def ZQs:SP:=⟨Zea .undef [(2,(.val (.rp 0))),(5,(.val (.int .i64))),(6,(.val (.int .i64))),(9,(.val .fs)),(10,(.val (.int .i64))),(11,(.val (.int .i64)))] 0 32,[],[]⟩
def Zkx:Nat→Option SP
 | 3=>some ZQs
 | _=>none
def ZEv:Nat→Option SP
 | _=>none
def ZSg (n:Nat)(ls:List Leaf)(R:Type)(k:Ex→St→Option R):Option R :=
 match ls with
 | [.cells a,.int b,.int d,.rows e,.int i16,.int f]=>ZKi n a b d e i16 f (fun g=>k .ret ⟨Zea .undef [(4,(TV.val (PV.int .i64 g)))] 0 32,[],[]⟩)
   (fun i j l=>k (.exit 0) ⟨Zea .undef [(2,(TV.val (PV.rp i 0))),(5,(TV.val (PV.int .i64 j))),(6,(TV.val (PV.int .i64 l)))] 0 32,[],[]⟩)
 | _=>none
def ZCB (n key:Nat) (ls:List Leaf) (R:Type) (k:Ex→St→Option R):Option R :=
 match key with
 | 3=>ZSg n ls R k
 | _=>none
def ZUB (n key:Nat) (ls:List Leaf) (R:Type) (k:Ex→St→Option R):Option R :=
 match key with
 | _=>none
def Z1z:Code→Bool:=fun _=>false
def ZAB:Nat→Loops:=patL (Zsa ZBh) Zkx ZCB (ZCa ZBh) Z1z ZEv ZUB
theorem Z0E (n:Nat)(a:Cs)(b d:Int)(e:Rs)(i16 f:Int)  (R:Type) (k:Ex→St→Option R) :
  Zza T G0 (Zja Z8o) (Zsa ZBh) (ZAB n) (Zia [1,1,0,1,0,0] (Zca Tryz.f109)) (Zoa ZQs [.cells a,.int b,.int d,.rows e,.int i16,.int f]) R k=ZSg (n + 1) [.cells a,.int b,.int d,.rows e,.int i16,.int f] R k:=by kernel_rfl
theorem ZRI (n:Nat)(i1 i2 i3 i4 a:Rs) :
  funK T G0 (Zja Z8o) (ZAB n) .d true [none,none] (Zfa Tryz.f109) [.agg [.fs i1,.fs i2,.fs i3,.fs i4],.fs a]=Zkl n  i1 i2 i3 i4 a (fun a0=>some (ZoB a0)):=by kernel_rfl
theorem ZgI {ps:Cs} {y:Int} (h:Z9f ps=some y):∃ (i1:Rs) (i2:Rs) (i3:Rs) (i4:Rs) (a:Rs),ps=[.agg [.fs i1,.fs i2,.fs i3,.fs i4],.fs a]:=by
 unfold Z9f at h
 split at h
 ·exact ⟨_,_,_,_,_,rfl⟩
 ·cases h
theorem ZFt:Zpa (Zca Tryz.f109)=[Zia [1,1,0,1,0,0] (Zca Tryz.f109)]:=by kernel_rfl
theorem ZHE (hΓ:Zga Tryz.prog G0 Z8o) (hok:∀ (i1 i2 i3 i4 a:Rs)(y:Int),ZCk i1 i2 i3 i4 a=some y→∃ n,∀ (R:Type)(k:Int→Option R),Zkl n  i1 i2 i3 i4 a k=k y):Zka Tryz.prog G0 109 ZKo:=by
 refine ZHa mixed tOk (Zna hΓ) Tryz.func109 rfl rfl rfl rfl (F:=Zfa Tryz.f109) (ZBa ZBh) (pat:=Zkx) (L:=ZCB) (ZFa ZBh) (on:=Z1z) (patj:=ZEv) (J:=ZUB) (fun c hc ls R k=>?_) (fun c hc p hp m ls R k r h=>?_) (fun c hc p hp m ls R k r h=>?_) (fun ps x h=>?_)
 ·rw [show (Zfa Tryz.f109).code=Zca Tryz.f109 from rfl,ZFt] at hc
  simp only [List.mem_cons,List.not_mem_nil,or_false] at hc
  rcases hc with rfl
  ·show ZSg 0 ls R k=none
   unfold ZSg
   split
   ·rfl
   ·rfl
 ·rw [show (Zfa Tryz.f109).code=Zca Tryz.f109 from rfl,ZFt] at hc
  simp only [List.mem_cons,List.not_mem_nil,or_false] at hc
  rcases hc with rfl
  ·obtain rfl:ZQs=p:=Option.some.inj hp
   change ZSg (m + 1) ls R k=some r at h
   have h':=h
   unfold ZSg at h'
   split at h'
   ·exact (Z0E m _ _ _ _ _ _ R k).trans h
   ·cases h'
 ·cases (List.mem_filter.1 hc).2
 ·obtain ⟨y,hy,hx⟩:=Zba h
  cases hx
  obtain ⟨i1,i2,i3,i4,a,rfl⟩:=ZgI hy
  obtain ⟨n,hn⟩:=hok i1 i2 i3 i4 a y hy
  exact ⟨n,(ZRI n i1 i2 i3 i4 a).trans (hn _ _)⟩
def Z9i {R:Type}:Nat→Cs→Int→Rs→Int→Int→(Int→Option R)→Option R
 | 0,_,_,_,_,_,_=>none
 | n + 1,a,b,d,i16,e,k0 =>
  cond (decide (e < i16)) (
   Option.bind (idx d e) fun f =>
   if f.length=1 then
    Option.bind (f[0]?) fun g =>
    Option.bind (PV.asFs g) fun i =>
    Option.bind (Zra a 0 4) fun j =>
    Option.bind (Z9f [j,.fs i]) fun l =>
    Z9i n a (IntKind.i64.wrap (b + l)) d i16 (IntKind.i64.wrap (e + (1:Int))) k0
   else none) (
   k0 b)
def ZAk {R:Type} (n:Nat)(i1 i2 i3 i4 p5 p6 p7 p8 p9 a:Rs)(b:Int)(k:Int→Option R):Option R :=
 Z9i n [.fs i1,.fs i2,.fs i3,.fs i4] 0 p5 (p5.length:Int) 0 k
def ZeB (y:Int):PV × Cs:=((PV.int .i64 y),[])
def Zol:Nat→Cs→Int→Rs→Int→Int→Option ((Int))
 | 0,_,_,_,_,_=>none
 | n + 1,a,b,d,i16,e =>
  cond (decide (e < i16)) (
   Option.bind (idx d e) fun f =>
   if f.length=1 then
    Option.bind (f[0]?) fun g =>
    Option.bind (PV.asFs g) fun i =>
    Option.bind (Zra a 0 4) fun j =>
    Option.bind (Z9f [j,.fs i]) fun l =>
    Zol n a (IntKind.i64.wrap (b + l)) d i16 (IntKind.i64.wrap (e + (1:Int)))
   else none) (
   some b)
theorem ZDF {R:Type} (n:Nat)(a:Cs)(b:Int)(d:Rs)(i16 e:Int)(k0:Int→Option R):Tw (Zol n a b d i16 e) (Z9i n a b d i16 e k0) (fun s=>match s with | a0=>k0 a0):=by
 induction n generalizing a b d i16 e with
 | zero=>exact Zwa
 | succ n ih =>
  unfold Zol Z9i
  refine Zha (fun _=>?_) (fun _=>?_)
  ·refine Zaa fun f _=>?_
   refine Zqa fun _=>?_
   refine Zaa fun g _=>?_
   refine Zaa fun i _=>?_
   refine Zaa fun j _=>?_
   refine Zaa fun l _=>?_
   exact ih _ _ _ _ _
  ·exact Zda rfl
def Z5f (i1 i2 i3 i4 p5 p6 p7 p8 p9 a:Rs)(b:Int):Option (Int) :=
 Option.bind (Zol 9223372036854775808 [.fs i1,.fs i2,.fs i3,.fs i4] 0 p5 (p5.length:Int) 0) fun s=>match s with
  | d =>
   some d
theorem ZKI {R:Type} (i1 i2 i3 i4 p5 p6 p7 p8 p9 a:Rs)(b:Int)(k:Int→Option R):Tw (Z5f i1 i2 i3 i4 p5 p6 p7 p8 p9 a b) (ZAk 9223372036854775808 i1 i2 i3 i4 p5 p6 p7 p8 p9 a b k) (fun s=>match s with | a0=>k a0):=by
 unfold Z5f ZAk
 refine Zma (ZDF _ _ _ _ _ _ _) (fun s=>?_)
 rcases s with d
 ·exact Zda rfl
theorem ZoJ:∀ (i1 i2 i3 i4 p5 p6 p7 p8 p9 a:Rs)(b y:Int),Z5f i1 i2 i3 i4 p5 p6 p7 p8 p9 a b=some y→∃ n,∀ (R:Type)(k:Int→Option R),ZAk n i1 i2 i3 i4 p5 p6 p7 p8 p9 a b k=k y:=fun i1 i2 i3 i4 p5 p6 p7 p8 p9 a b y h=>⟨9223372036854775808,fun R k=>ZKI i1 i2 i3 i4 p5 p6 p7 p8 p9 a b k y h⟩
def Zpu:Cs→Option (Int)
 | [.agg [.fs i1,.fs i2,.fs i3,.fs i4],.agg [.fs p5,.fs p6,.fs p7,.fs p8,.fs p9,.fs a,.int .i64 b]]=>Z5f i1 i2 i3 i4 p5 p6 p7 p8 p9 a b
 | _=>none
def Z9o:List (Nat × Cal):=[(109,.ctr ZKo),(1000000002,ro_I),(1000000003,ro_I)]
def ZWu:Ctr:=⟨[none,none],Int,Zpu,ZeB,true,.d⟩
def ZWh:List (Nat × LC):=[(3,⟨[2,5,9,10,11],[],[],[],[2]⟩),
 (1003000,⟨[5],[],[],[],[]⟩)]
def ZXr:SP:=⟨Zea .undef [(2,(.val (.rp 0))),(5,(.val (.int .i64))),(9,(.val .fs)),(10,(.val (.int .i64))),(11,(.val (.int .i64)))] 0 22,[],[]⟩
def Zvx:Nat→Option SP
 | 3=>some ZXr
 | _=>none
def ZFv:Nat→Option SP
 | _=>none
def Zyg (n:Nat)(ls:List Leaf)(R:Type)(k:Ex→St→Option R):Option R :=
 match ls with
 | [.cells a,.int b,.rows d,.int i16,.int e]=>Z9i n a b d i16 e (fun f=>k (.exit 0) ⟨Zea .undef [(5,(TV.val (PV.int .i64 f)))] 0 22,[],[]⟩)
 | _=>none
def ZHB (n key:Nat) (ls:List Leaf) (R:Type) (k:Ex→St→Option R):Option R :=
 match key with
 | 3=>Zyg n ls R k
 | _=>none
def ZpB (n key:Nat) (ls:List Leaf) (R:Type) (k:Ex→St→Option R):Option R :=
 match key with
 | _=>none
def ZVy:Code→Bool:=fun _=>false
def ZQB:Nat→Loops:=patL (Zsa ZWh) Zvx ZHB (ZCa ZWh) ZVy ZFv ZpB
theorem Z4E (n:Nat)(a:Cs)(b:Int)(d:Rs)(i16 e:Int)  (R:Type) (k:Ex→St→Option R) :
  Zza T G0 (Zja Z9o) (Zsa ZWh) (ZQB n) (Zia [1,1,0,1,0,0] (Zca Tryz.f44)) (Zoa ZXr [.cells a,.int b,.rows d,.int i16,.int e]) R k=Zyg (n + 1) [.cells a,.int b,.rows d,.int i16,.int e] R k:=by kernel_rfl
theorem ZyJ (n:Nat)(i1 i2 i3 i4 p5 p6 p7 p8 p9 a:Rs)(b:Int) :
  funK T G0 (Zja Z9o) (ZQB n) .d true [none,none] (Zfa Tryz.f44) [.agg [.fs i1,.fs i2,.fs i3,.fs i4],.agg [.fs p5,.fs p6,.fs p7,.fs p8,.fs p9,.fs a,.int .i64 b]]=ZAk n  i1 i2 i3 i4 p5 p6 p7 p8 p9 a b (fun a0=>some (ZeB a0)):=by kernel_rfl
theorem ZkH {ps:Cs} {y:Int} (h:Zpu ps=some y):∃ (i1:Rs) (i2:Rs) (i3:Rs) (i4:Rs) (p5:Rs) (p6:Rs) (p7:Rs) (p8:Rs) (p9:Rs) (a:Rs) (b:Int),ps=[.agg [.fs i1,.fs i2,.fs i3,.fs i4],.agg [.fs p5,.fs p6,.fs p7,.fs p8,.fs p9,.fs a,.int .i64 b]]:=by
 unfold Zpu at h
 split at h
 ·exact ⟨_,_,_,_,_,_,_,_,_,_,_,rfl⟩
 ·cases h
theorem ZEt:Zpa (Zca Tryz.f44)=[Zia [1,1,0,1,0,0] (Zca Tryz.f44)]:=by kernel_rfl
theorem ZqE (hΓ:Zga Tryz.prog G0 Z9o) (hok:∀ (i1 i2 i3 i4 p5 p6 p7 p8 p9 a:Rs)(b y:Int),Z5f i1 i2 i3 i4 p5 p6 p7 p8 p9 a b=some y→∃ n,∀ (R:Type)(k:Int→Option R),ZAk n  i1 i2 i3 i4 p5 p6 p7 p8 p9 a b k=k y):Zka Tryz.prog G0 44 ZWu:=by
 refine ZHa mixed tOk (Zna hΓ) Tryz.func44 rfl rfl rfl rfl (F:=Zfa Tryz.f44) (ZBa ZWh) (pat:=Zvx) (L:=ZHB) (ZFa ZWh) (on:=ZVy) (patj:=ZFv) (J:=ZpB) (fun c hc ls R k=>?_) (fun c hc p hp m ls R k r h=>?_) (fun c hc p hp m ls R k r h=>?_) (fun ps x h=>?_)
 ·rw [show (Zfa Tryz.f44).code=Zca Tryz.f44 from rfl,ZEt] at hc
  simp only [List.mem_cons,List.not_mem_nil,or_false] at hc
  rcases hc with rfl
  ·show Zyg 0 ls R k=none
   unfold Zyg
   split
   ·rfl
   ·rfl
 ·rw [show (Zfa Tryz.f44).code=Zca Tryz.f44 from rfl,ZEt] at hc
  simp only [List.mem_cons,List.not_mem_nil,or_false] at hc
  rcases hc with rfl
  ·obtain rfl:ZXr=p:=Option.some.inj hp
   change Zyg (m + 1) ls R k=some r at h
   have h':=h
   unfold Zyg at h'
   split at h'
   ·exact (Z4E m _ _ _ _ _ R k).trans h
   ·cases h'
 ·cases (List.mem_filter.1 hc).2
 ·obtain ⟨y,hy,hx⟩:=Zba h
  cases hx
  obtain ⟨i1,i2,i3,i4,p5,p6,p7,p8,p9,a,b,rfl⟩:=ZkH hy
  obtain ⟨n,hn⟩:=hok i1 i2 i3 i4 p5 p6 p7 p8 p9 a b y hy
  exact ⟨n,(ZyJ n i1 i2 i3 i4 p5 p6 p7 p8 p9 a b).trans (hn _ _)⟩
def ZCh {R:Type} (i1 i2 i3 i4:Rs)(a:Int)(k:Bool→Option R):Option R :=
 cond (decide (a ≥ (1:Int))) (
  k (decide (a≤(i2.length:Int)))) (
  k false)
def ZWx (y:Bool):PV × Cs:=((PV.bool y),[])
def Zid (i1 i2 i3 i4:Rs)(a:Int):Option (Bool):=ZCh i1 i2 i3 i4 a fun a0=>some a0
def Zaq:Cs→Option (Bool)
 | [.agg [.fs i1,.fs i2,.fs i3,.fs i4],.int .i64 a]=>Zid i1 i2 i3 i4 a
 | _=>none
def Zbq:List (Nat × Cal):=[(1000000002,ro_I)]
def Zxf:Ctr:=⟨[none,none],Bool,Zaq,ZWx,true,.d⟩
theorem ZCF (i1 i2 i3 i4:Rs)(a:Int) :
  funK T G0 (Zja Zbq) noL .d true [none,none] (Zfa Tryz.f169) [.agg [.fs i1,.fs i2,.fs i3,.fs i4],.int .i64 a]=ZCh  i1 i2 i3 i4 a (fun a0=>some (ZWx a0)):=by kernel_rfl
theorem ZcE {ps:Cs} {y:Bool} (h:Zaq ps=some y):∃ (i1:Rs) (i2:Rs) (i3:Rs) (i4:Rs) (a:Int),ps=[.agg [.fs i1,.fs i2,.fs i3,.fs i4],.int .i64 a]:=by
 unfold Zaq at h
 split at h
 ·exact ⟨_,_,_,_,_,rfl⟩
 ·cases h
theorem ZdD {R:Type} (i1 i2 i3 i4:Rs)(a:Int)(k:Bool→Option R):ZCh i1 i2 i3 i4 a k=Option.bind (ZCh i1 i2 i3 i4 a fun a0=>some a0) fun y=>k y:=by
 unfold ZCh
 first | rfl | simp only [Option.bind_assoc,Zya,Zxa,Option.bind_some,Option.bind_none]
theorem ZmA (hΓ:Zga Tryz.prog G0 Zbq):Zka Tryz.prog G0 169 Zxf:=by
 refine ZIa mixed tOk (Zna hΓ) Tryz.func169 rfl rfl rfl rfl (F:=Zfa Tryz.f169) (fun ps x h=>?_)
 obtain ⟨y,hy,hx⟩:=Zba h
 cases hx
 obtain ⟨i1,i2,i3,i4,a,rfl⟩:=ZcE hy
 have hy':Zid i1 i2 i3 i4 a=some y:=hy
 refine ⟨noL,ZKa _,(ZCF i1 i2 i3 i4 a).trans ?_⟩
 unfold Zid at hy'
 rw [ZdD,hy']
 rfl
def ZNf {R:Type} (p1 p2 p3 p4 p5 p6:Rs)(p7 a:Int)(k:Bool→Option R):Option R :=
 Option.bind (Z3b p1 p2 p3 p4 p5 p6 p7 a) fun y9 =>
 k (y9.1 !=(-1:Int))
def ZKt (y:Bool):PV × Cs:=((PV.bool y),[])
def ZUd (p1 p2 p3 p4 p5 p6:Rs)(p7 a:Int):Option (Bool):=ZNf p1 p2 p3 p4 p5 p6 p7 a fun a0=>some a0
def Znm:Cs→Option (Bool)
 | [.agg [.fs p1,.fs p2,.fs p3,.fs p4,.fs p5,.fs p6,.int .i64 p7],.int .i64 a]=>ZUd p1 p2 p3 p4 p5 p6 p7 a
 | _=>none
def Zqn:List (Nat × Cal):=[(108,.ctr ZHe),(1000000002,ro_I)]
def ZCi:Ctr:=⟨[none,none],Bool,Znm,ZKt,true,.d⟩
theorem ZiC (p1 p2 p3 p4 p5 p6:Rs)(p7 a:Int) :
  funK T G0 (Zja Zqn) noL .d true [none,none] (Zfa Tryz.f170) [.agg [.fs p1,.fs p2,.fs p3,.fs p4,.fs p5,.fs p6,.int .i64 p7],.int .i64 a]=ZNf  p1 p2 p3 p4 p5 p6 p7 a (fun a0=>some (ZKt a0)):=by kernel_rfl
theorem ZEA {ps:Cs} {y:Bool} (h:Znm ps=some y):∃ (p1:Rs) (p2:Rs) (p3:Rs) (p4:Rs) (p5:Rs) (p6:Rs) (p7:Int) (a:Int),ps=[.agg [.fs p1,.fs p2,.fs p3,.fs p4,.fs p5,.fs p6,.int .i64 p7],.int .i64 a]:=by
 unfold Znm at h
 split at h
 ·exact ⟨_,_,_,_,_,_,_,_,rfl⟩
 ·cases h
theorem ZQA {R:Type} (p1 p2 p3 p4 p5 p6:Rs)(p7 a:Int)(k:Bool→Option R):ZNf p1 p2 p3 p4 p5 p6 p7 a k=Option.bind (ZNf p1 p2 p3 p4 p5 p6 p7 a fun a0=>some a0) fun y=>k y:=by
 unfold ZNf
 first | rfl | simp only [Option.bind_assoc,Zya,Zxa,Option.bind_some,Option.bind_none]
theorem Z4x (hΓ:Zga Tryz.prog G0 Zqn):Zka Tryz.prog G0 170 ZCi:=by
 refine ZIa mixed tOk (Zna hΓ) Tryz.func170 rfl rfl rfl rfl (F:=Zfa Tryz.f170) (fun ps x h=>?_)
 obtain ⟨y,hy,hx⟩:=Zba h
 cases hx
 obtain ⟨p1,p2,p3,p4,p5,p6,p7,a,rfl⟩:=ZEA hy
 have hy':ZUd p1 p2 p3 p4 p5 p6 p7 a=some y:=hy
 refine ⟨noL,ZKa _,(ZiC p1 p2 p3 p4 p5 p6 p7 a).trans ?_⟩
 unfold ZUd at hy'
 rw [ZQA,hy']
 rfl
def Zlj {R:Type}:Nat→Int→Rs→Int→Int→(Int→Option R)→(Unit→Option R)→Option R
 | 0,_,_,_,_,_,_=>none
 | n + 1,a,b,i9,d,k0,k1 =>
  cond (decide (d < i9)) (
   Option.bind (idx b d) fun e =>
   if e.length=2 then
    Option.bind (Zra e 0 2) fun f =>
    if (PV.isAgg f 2)=true then
     Option.bind ((PV.cells f)[0]?) fun g =>
     Option.bind (PV.asI .i64 g) fun i =>
     cond (a == i) (
      Option.bind ((PV.cells f)[1]?) fun j =>
      Option.bind (PV.asI .i64 j) fun l =>
      k0 l) (
      Option.bind ((PV.cells f)[1]?) fun o =>
      Option.bind (PV.asI .i64 o) fun q =>
      cond (a == q) (
       Option.bind ((PV.cells f)[0]?) fun t =>
       Option.bind (PV.asI .i64 t) fun u =>
       k0 u) (
       Zlj n a b i9 (IntKind.i64.wrap (d + (1:Int))) k0 k1))
    else none
   else none) (
   k1 ())
def Zcl {R:Type} (n:Nat)(i1 i2 i3 i4:Rs)(a:Int)(k:Int→Option R):Option R :=
 Zlj n a i3 (i3.length:Int) 0 k
  (fun (_:Unit) =>
   k 0)
def ZjB (y:Int):PV × Cs:=((PV.int .i64 y),[])
def Ztl:Nat→Int→Rs→Int→Int→Option ((Int) ⊕ (Unit))
 | 0,_,_,_,_=>none
 | n + 1,a,b,i9,d =>
  cond (decide (d < i9)) (
   Option.bind (idx b d) fun e =>
   if e.length=2 then
    Option.bind (Zra e 0 2) fun f =>
    if (PV.isAgg f 2)=true then
     Option.bind ((PV.cells f)[0]?) fun g =>
     Option.bind (PV.asI .i64 g) fun i =>
     cond (a == i) (
      Option.bind ((PV.cells f)[1]?) fun j =>
      Option.bind (PV.asI .i64 j) fun l =>
      some (Sum.inl l)) (
      Option.bind ((PV.cells f)[1]?) fun o =>
      Option.bind (PV.asI .i64 o) fun q =>
      cond (a == q) (
       Option.bind ((PV.cells f)[0]?) fun t =>
       Option.bind (PV.asI .i64 t) fun u =>
       some (Sum.inl u)) (
       Ztl n a b i9 (IntKind.i64.wrap (d + (1:Int)))))
    else none
   else none) (
   some (Sum.inr ()))
theorem ZwF {R:Type} (n:Nat)(a:Int)(b:Rs)(i9 d:Int)(k0:Int→Option R)(k1:Unit→Option R):Tw (Ztl n a b i9 d) (Zlj n a b i9 d k0 k1) (fun s=>match s with | (Sum.inl a0)=>k0 a0 | (Sum.inr _)=>k1 ()):=by
 induction n generalizing a b i9 d with
 | zero=>exact Zwa
 | succ n ih =>
  unfold Ztl Zlj
  refine Zha (fun _=>?_) (fun _=>?_)
  ·refine Zaa fun e _=>?_
   refine Zqa fun _=>?_
   refine Zaa fun f _=>?_
   refine Zqa fun _=>?_
   refine Zaa fun g _=>?_
   refine Zaa fun i _=>?_
   refine Zha (fun _=>?_) (fun _=>?_)
   ·refine Zaa fun j _=>?_
    refine Zaa fun l _=>?_
    exact Zda rfl
   ·refine Zaa fun o _=>?_
    refine Zaa fun q _=>?_
    refine Zha (fun _=>?_) (fun _=>?_)
    ·refine Zaa fun t _=>?_
     refine Zaa fun u _=>?_
     exact Zda rfl
    ·exact ih _ _ _ _
  ·exact Zda rfl
def Z8f (i1 i2 i3 i4:Rs)(a:Int):Option (Int) :=
 Option.bind (Ztl 9223372036854775808 a i3 (i3.length:Int) 0) fun s=>match s with
  | (Sum.inl i6) =>
   some i6
  | (Sum.inr _) =>
   some 0
theorem ZII {R:Type} (i1 i2 i3 i4:Rs)(a:Int)(k:Int→Option R):Tw (Z8f i1 i2 i3 i4 a) (Zcl 9223372036854775808 i1 i2 i3 i4 a k) (fun s=>match s with | a0=>k a0):=by
 unfold Z8f Zcl
 refine Zma (ZwF _ _ _ _ _ _ _) (fun s=>?_)
 rcases s with i6 | ⟨⟩
 ·exact Zda rfl
 ·exact Zda rfl
theorem Z4I:∀ (i1 i2 i3 i4:Rs)(a y:Int),Z8f i1 i2 i3 i4 a=some y→∃ n,∀ (R:Type)(k:Int→Option R),Zcl n i1 i2 i3 i4 a k=k y:=fun i1 i2 i3 i4 a y h=>⟨9223372036854775808,fun R k=>ZII i1 i2 i3 i4 a k y h⟩
def Z7f:Cs→Option (Int)
 | [.agg [.fs i1,.fs i2,.fs i3,.fs i4],.int .i64 a]=>Z8f i1 i2 i3 i4 a
 | _=>none
def Z0o:List (Nat × Cal):=[(1000000002,ro_I)]
def Z2h:Ctr:=⟨[none,none],Int,Z7f,ZjB,true,.d⟩
def ZVh:List (Nat × LC):=[(2,⟨[1,8,9,10],[],[],[],[]⟩),
 (2000002,⟨[4],[],[],[],[]⟩),
 (1002000,⟨[],[],[],[],[]⟩)]
def ZZr:SP:=⟨Zea .undef [(1,(.val (.int .i64))),(8,(.val .fs)),(9,(.val (.int .i64))),(10,(.val (.int .i64)))] 0 28,[],[]⟩
def Zwx:Nat→Option SP
 | 2=>some ZZr
 | _=>none
def ZDv:Nat→Option SP
 | _=>none
def Zpg (n:Nat)(ls:List Leaf)(R:Type)(k:Ex→St→Option R):Option R :=
 match ls with
 | [.int a,.rows b,.int i9,.int d]=>Zlj n a b i9 d (fun e=>k .ret ⟨Zea .undef [(4,(TV.val (PV.int .i64 e)))] 0 28,[],[]⟩)
   (fun _=>k (.exit 0) ⟨Zea .undef [] 0 28,[],[]⟩)
 | _=>none
def ZKB (n key:Nat) (ls:List Leaf) (R:Type) (k:Ex→St→Option R):Option R :=
 match key with
 | 2=>Zpg n ls R k
 | _=>none
def ZGB (n key:Nat) (ls:List Leaf) (R:Type) (k:Ex→St→Option R):Option R :=
 match key with
 | _=>none
def Zty:Code→Bool:=fun _=>false
def ZMB:Nat→Loops:=patL (Zsa ZVh) Zwx ZKB (ZCa ZVh) Zty ZDv ZGB
theorem ZlE (n:Nat)(a:Int)(b:Rs)(i9 d:Int)  (R:Type) (k:Ex→St→Option R) :
  Zza T G0 (Zja Z0o) (Zsa ZVh) (ZMB n) (Zia [1,0,1,0,0] (Zca Tryz.f191)) (Zoa ZZr [.int a,.rows b,.int i9,.int d]) R k=Zpg (n + 1) [.int a,.rows b,.int i9,.int d] R k:=by kernel_rfl
theorem ZjJ (n:Nat)(i1 i2 i3 i4:Rs)(a:Int) :
  funK T G0 (Zja Z0o) (ZMB n) .d true [none,none] (Zfa Tryz.f191) [.agg [.fs i1,.fs i2,.fs i3,.fs i4],.int .i64 a]=Zcl n  i1 i2 i3 i4 a (fun a0=>some (ZjB a0)):=by kernel_rfl
theorem ZvH {ps:Cs} {y:Int} (h:Z7f ps=some y):∃ (i1:Rs) (i2:Rs) (i3:Rs) (i4:Rs) (a:Int),ps=[.agg [.fs i1,.fs i2,.fs i3,.fs i4],.int .i64 a]:=by
 unfold Z7f at h
 split at h
 ·exact ⟨_,_,_,_,_,rfl⟩
 ·cases h
theorem Zgt:Zpa (Zca Tryz.f191)=[Zia [1,0,1,0,0] (Zca Tryz.f191)]:=by kernel_rfl
theorem Z1E (hΓ:Zga Tryz.prog G0 Z0o) (hok:∀ (i1 i2 i3 i4:Rs)(a y:Int),Z8f i1 i2 i3 i4 a=some y→∃ n,∀ (R:Type)(k:Int→Option R),Zcl n  i1 i2 i3 i4 a k=k y):Zka Tryz.prog G0 191 Z2h:=by
 refine ZHa mixed tOk (Zna hΓ) Tryz.func191 rfl rfl rfl rfl (F:=Zfa Tryz.f191) (ZBa ZVh) (pat:=Zwx) (L:=ZKB) (ZFa ZVh) (on:=Zty) (patj:=ZDv) (J:=ZGB) (fun c hc ls R k=>?_) (fun c hc p hp m ls R k r h=>?_) (fun c hc p hp m ls R k r h=>?_) (fun ps x h=>?_)
 ·rw [show (Zfa Tryz.f191).code=Zca Tryz.f191 from rfl,Zgt] at hc
  simp only [List.mem_cons,List.not_mem_nil,or_false] at hc
  rcases hc with rfl
  ·show Zpg 0 ls R k=none
   unfold Zpg
   split
   ·rfl
   ·rfl
 ·rw [show (Zfa Tryz.f191).code=Zca Tryz.f191 from rfl,Zgt] at hc
  simp only [List.mem_cons,List.not_mem_nil,or_false] at hc
  rcases hc with rfl
  ·obtain rfl:ZZr=p:=Option.some.inj hp
   change Zpg (m + 1) ls R k=some r at h
   have h':=h
   unfold Zpg at h'
   split at h'
   ·exact (ZlE m _ _ _ _ R k).trans h
   ·cases h'
 ·cases (List.mem_filter.1 hc).2
 ·obtain ⟨y,hy,hx⟩:=Zba h
  cases hx
  obtain ⟨i1,i2,i3,i4,a,rfl⟩:=ZvH hy
  obtain ⟨n,hn⟩:=hok i1 i2 i3 i4 a y hy
  exact ⟨n,(ZjJ n i1 i2 i3 i4 a).trans (hn _ _)⟩
def ZDh {R:Type}:Nat→Int→Rs→Int→Int→(Bool→Option R)→(Unit→Option R)→Option R
 | 0,_,_,_,_,_,_=>none
 | n + 1,a,b,i9,d,k0,k1 =>
  cond (decide (d < i9)) (
   Option.bind (idx b d) fun e =>
   if e.length=2 then
    Option.bind (Zra e 0 2) fun f =>
    if (PV.isAgg f 2)=true then
     Option.bind ((PV.cells f)[0]?) fun g =>
     Option.bind (PV.asI .i64 g) fun i =>
     cond (i == a) (
      k0 true) (
      ZDh n a b i9 (IntKind.i64.wrap (d + (1:Int))) k0 k1)
    else none
   else none) (
   k1 ())
def Zqj {R:Type} (n:Nat)(i1 i2 i3 i4:Rs)(a:Int)(k:Bool→Option R):Option R :=
 ZDh n a i3 (i3.length:Int) 0 k
  (fun (_:Unit) =>
   k false)
def Zpy (y:Bool):PV × Cs:=((PV.bool y),[])
def ZGj:Nat→Int→Rs→Int→Int→Option ((Bool) ⊕ (Unit))
 | 0,_,_,_,_=>none
 | n + 1,a,b,i9,d =>
  cond (decide (d < i9)) (
   Option.bind (idx b d) fun e =>
   if e.length=2 then
    Option.bind (Zra e 0 2) fun f =>
    if (PV.isAgg f 2)=true then
     Option.bind ((PV.cells f)[0]?) fun g =>
     Option.bind (PV.asI .i64 g) fun i =>
     cond (i == a) (
      some (Sum.inl true)) (
      ZGj n a b i9 (IntKind.i64.wrap (d + (1:Int))))
    else none
   else none) (
   some (Sum.inr ()))
theorem Z4D {R:Type} (n:Nat)(a:Int)(b:Rs)(i9 d:Int)(k0:Bool→Option R)(k1:Unit→Option R):Tw (ZGj n a b i9 d) (ZDh n a b i9 d k0 k1) (fun s=>match s with | (Sum.inl a0)=>k0 a0 | (Sum.inr _)=>k1 ()):=by
 induction n generalizing a b i9 d with
 | zero=>exact Zwa
 | succ n ih =>
  unfold ZGj ZDh
  refine Zha (fun _=>?_) (fun _=>?_)
  ·refine Zaa fun e _=>?_
   refine Zqa fun _=>?_
   refine Zaa fun f _=>?_
   refine Zqa fun _=>?_
   refine Zaa fun g _=>?_
   refine Zaa fun i _=>?_
   refine Zha (fun _=>?_) (fun _=>?_)
   ·exact Zda rfl
   ·exact ih _ _ _ _
  ·exact Zda rfl
def ZJg (i1 i2 i3 i4:Rs)(a:Int):Option (Bool) :=
 Option.bind (ZGj 9223372036854775808 a i3 (i3.length:Int) 0) fun s=>match s with
  | (Sum.inl b6) =>
   some b6
  | (Sum.inr _) =>
   some false
theorem ZZG {R:Type} (i1 i2 i3 i4:Rs)(a:Int)(k:Bool→Option R):Tw (ZJg i1 i2 i3 i4 a) (Zqj 9223372036854775808 i1 i2 i3 i4 a k) (fun s=>match s with | a0=>k a0):=by
 unfold ZJg Zqj
 refine Zma (Z4D _ _ _ _ _ _ _) (fun s=>?_)
 rcases s with b6 | ⟨⟩
 ·exact Zda rfl
 ·exact Zda rfl
theorem ZRH:∀ (i1 i2 i3 i4:Rs)(a:Int)(y:Bool),ZJg i1 i2 i3 i4 a=some y→∃ n,∀ (R:Type)(k:Bool→Option R),Zqj n i1 i2 i3 i4 a k=k y:=fun i1 i2 i3 i4 a y h=>⟨9223372036854775808,fun R k=>ZZG i1 i2 i3 i4 a k y h⟩
def Z5i:Cs→Option (Bool)
 | [.agg [.fs i1,.fs i2,.fs i3,.fs i4],.int .i64 a]=>ZJg i1 i2 i3 i4 a
 | _=>none
def ZKm:List (Nat × Cal):=[(1000000002,ro_I)]
def Zwn:Ctr:=⟨[none,none],Bool,Z5i,Zpy,true,.d⟩
def ZPg:List (Nat × LC):=[(2,⟨[1,8,9,10],[],[],[],[]⟩),
 (2000002,⟨[4],[],[],[],[]⟩),
 (1002000,⟨[],[],[],[],[]⟩)]
def Ztq:SP:=⟨Zea .undef [(1,(.val (.int .i64))),(8,(.val .fs)),(9,(.val (.int .i64))),(10,(.val (.int .i64)))] 0 19,[],[]⟩
def ZOv:Nat→Option SP
 | 2=>some Ztq
 | _=>none
def ZOt:Nat→Option SP
 | _=>none
def Zkf (n:Nat)(ls:List Leaf)(R:Type)(k:Ex→St→Option R):Option R :=
 match ls with
 | [.int a,.rows b,.int i9,.int d]=>ZDh n a b i9 d (fun e=>k .ret ⟨Zea .undef [(4,(TV.val (PV.bool e)))] 0 19,[],[]⟩)
   (fun _=>k (.exit 0) ⟨Zea .undef [] 0 19,[],[]⟩)
 | _=>none
def ZDz (n key:Nat) (ls:List Leaf) (R:Type) (k:Ex→St→Option R):Option R :=
 match key with
 | 2=>Zkf n ls R k
 | _=>none
def ZTy (n key:Nat) (ls:List Leaf) (R:Type) (k:Ex→St→Option R):Option R :=
 match key with
 | _=>none
def ZHx:Code→Bool:=fun _=>false
def ZNy:Nat→Loops:=patL (Zsa ZPg) ZOv ZDz (ZCa ZPg) ZHx ZOt ZTy
theorem ZtC (n:Nat)(a:Int)(b:Rs)(i9 d:Int)  (R:Type) (k:Ex→St→Option R) :
  Zza T G0 (Zja ZKm) (Zsa ZPg) (ZNy n) (Zia [1,0,1,0,0] (Zca Tryz.f192)) (Zoa Ztq [.int a,.rows b,.int i9,.int d]) R k=Zkf (n + 1) [.int a,.rows b,.int i9,.int d] R k:=by kernel_rfl
theorem Z9G (n:Nat)(i1 i2 i3 i4:Rs)(a:Int) :
  funK T G0 (Zja ZKm) (ZNy n) .d true [none,none] (Zfa Tryz.f192) [.agg [.fs i1,.fs i2,.fs i3,.fs i4],.int .i64 a]=Zqj n  i1 i2 i3 i4 a (fun a0=>some (Zpy a0)):=by kernel_rfl
theorem Z5F {ps:Cs} {y:Bool} (h:Z5i ps=some y):∃ (i1:Rs) (i2:Rs) (i3:Rs) (i4:Rs) (a:Int),ps=[.agg [.fs i1,.fs i2,.fs i3,.fs i4],.int .i64 a]:=by
 unfold Z5i at h
 split at h
 ·exact ⟨_,_,_,_,_,rfl⟩
 ·cases h
theorem ZNs:Zpa (Zca Tryz.f192)=[Zia [1,0,1,0,0] (Zca Tryz.f192)]:=by kernel_rfl
theorem ZwC (hΓ:Zga Tryz.prog G0 ZKm) (hok:∀ (i1 i2 i3 i4:Rs)(a:Int)(y:Bool),ZJg i1 i2 i3 i4 a=some y→∃ n,∀ (R:Type)(k:Bool→Option R),Zqj n  i1 i2 i3 i4 a k=k y):Zka Tryz.prog G0 192 Zwn:=by
 refine ZHa mixed tOk (Zna hΓ) Tryz.func192 rfl rfl rfl rfl (F:=Zfa Tryz.f192) (ZBa ZPg) (pat:=ZOv) (L:=ZDz) (ZFa ZPg) (on:=ZHx) (patj:=ZOt) (J:=ZTy) (fun c hc ls R k=>?_) (fun c hc p hp m ls R k r h=>?_) (fun c hc p hp m ls R k r h=>?_) (fun ps x h=>?_)
 ·rw [show (Zfa Tryz.f192).code=Zca Tryz.f192 from rfl,ZNs] at hc
  simp only [List.mem_cons,List.not_mem_nil,or_false] at hc
  rcases hc with rfl
  ·show Zkf 0 ls R k=none
   unfold Zkf
   split
   ·rfl
   ·rfl
 ·rw [show (Zfa Tryz.f192).code=Zca Tryz.f192 from rfl,ZNs] at hc
  simp only [List.mem_cons,List.not_mem_nil,or_false] at hc
  rcases hc with rfl
  ·obtain rfl:Ztq=p:=Option.some.inj hp
   change Zkf (m + 1) ls R k=some r at h
   have h':=h
   unfold Zkf at h'
   split at h'
   ·exact (ZtC m _ _ _ _ R k).trans h
   ·cases h'
 ·cases (List.mem_filter.1 hc).2
 ·obtain ⟨y,hy,hx⟩:=Zba h
  cases hx
  obtain ⟨i1,i2,i3,i4,a,rfl⟩:=Z5F hy
  obtain ⟨n,hn⟩:=hok i1 i2 i3 i4 a y hy
  exact ⟨n,(Z9G n i1 i2 i3 i4 a).trans (hn _ _)⟩
def ZTh {R:Type} (i1 i2 i3 i4:Rs)(c5 c6 c7 c8 c9 a b d:Int)(k:Bool→Option R):Option R :=
 Option.bind (Z8f i1 i2 i3 i4 c6) fun e =>
 cond (e ==(0:Int)) (
  k (c9 ==(-1:Int))) (
  Option.bind (ZJg i1 i2 i3 i4 c6) fun f =>
  cond f (
   k (c9 !=(-1:Int))) (
   k false))
def ZMx (y:Bool):PV × Cs:=((PV.bool y),[])
def Zzf (i1 i2 i3 i4:Rs)(c5 c6 c7 c8 c9 a b d:Int):Option (Bool):=ZTh i1 i2 i3 i4 c5 c6 c7 c8 c9 a b d fun a0=>some a0
def Zmq:Cs→Option (Bool)
 | [.agg [.fs i1,.fs i2,.fs i3,.fs i4],.agg [.int .i64 c5,.int .i64 c6,.int .i64 c7,.int .i64 c8,.int .i64 c9,.int .i64 a,.int .i64 b,.int .i64 d]]=>Zzf i1 i2 i3 i4 c5 c6 c7 c8 c9 a b d
 | _=>none
def ZTp:List (Nat × Cal):=[(191,.ctr Z2h),(192,.ctr Zwn),(1000000002,ro_I),(1000000003,ro_I)]
def Zxl:Ctr:=⟨[none,none],Bool,Zmq,ZMx,true,.d⟩
theorem ZaF (i1 i2 i3 i4:Rs)(c5 c6 c7 c8 c9 a b d:Int) :
  funK T G0 (Zja ZTp) noL .d true [none,none] (Zfa Tryz.f171) [.agg [.fs i1,.fs i2,.fs i3,.fs i4],.agg [.int .i64 c5,.int .i64 c6,.int .i64 c7,.int .i64 c8,.int .i64 c9,.int .i64 a,.int .i64 b,.int .i64 d]]=ZTh  i1 i2 i3 i4 c5 c6 c7 c8 c9 a b d (fun a0=>some (ZMx a0)):=by kernel_rfl
theorem ZbD {ps:Cs} {y:Bool} (h:Zmq ps=some y):∃ (i1:Rs) (i2:Rs) (i3:Rs) (i4:Rs) (c5:Int) (c6:Int) (c7:Int) (c8:Int) (c9:Int) (a:Int) (b:Int) (d:Int),ps=[.agg [.fs i1,.fs i2,.fs i3,.fs i4],.agg [.int .i64 c5,.int .i64 c6,.int .i64 c7,.int .i64 c8,.int .i64 c9,.int .i64 a,.int .i64 b,.int .i64 d]]:=by
 unfold Zmq at h
 split at h
 ·exact ⟨_,_,_,_,_,_,_,_,_,_,_,_,rfl⟩
 ·cases h
theorem ZUE {R:Type} (i1 i2 i3 i4:Rs)(c5 c6 c7 c8 c9 a b d:Int)(k:Bool→Option R):ZTh i1 i2 i3 i4 c5 c6 c7 c8 c9 a b d k=Option.bind (ZTh i1 i2 i3 i4 c5 c6 c7 c8 c9 a b d fun a0=>some a0) fun y=>k y:=by
 unfold ZTh
 first | rfl | simp only [Option.bind_assoc,Zya,Zxa,Option.bind_some,Option.bind_none]
theorem ZlA (hΓ:Zga Tryz.prog G0 ZTp):Zka Tryz.prog G0 171 Zxl:=by
 refine ZIa mixed tOk (Zna hΓ) Tryz.func171 rfl rfl rfl rfl (F:=Zfa Tryz.f171) (fun ps x h=>?_)
 obtain ⟨y,hy,hx⟩:=Zba h
 cases hx
 obtain ⟨i1,i2,i3,i4,c5,c6,c7,c8,c9,a,b,d,rfl⟩:=ZbD hy
 have hy':Zzf i1 i2 i3 i4 c5 c6 c7 c8 c9 a b d=some y:=hy
 refine ⟨noL,ZKa _,(ZaF i1 i2 i3 i4 c5 c6 c7 c8 c9 a b d).trans ?_⟩
 unfold Zzf at hy'
 rw [ZUE,hy']
 rfl
def ZCD (y:Rs):PV × Cs:=((PV.os y 1),[])
def ZWn:Cs→Option (Rs)
 | [.os s1 1,.int .i64 i2,.os v3 1]=>sInsert s1 i2 v3
 | _=>none
def ZRd:Ctr:=⟨[some (.s,false),none,some (.s,false)],Rs,ZWn,ZCD,false,.s⟩
def Zgl {R:Type} (a:Cs)(b:Int)(d:Bool)(e:Rs)(k0:Bool→Option R)(k1:Cs→Int→Rs→Option R):Option R :=
 cond d (
  k0 false) (
  k1 a b e)
def Z8i {R:Type} (a:Cs)(b:Int)(d:Rs)(k0:Bool→Rs→Option R):Option R :=
 Option.bind (a[4]?) fun e =>
 Option.bind (PV.asI .i64 e) fun f =>
 Option.bind (sInsert d f [[.int .i64 b]]) fun g =>
 k0 true g
def Z3k {R:Type} (a:Rs)(b d:Cs)(e:Bool)(k0:Bool→Option R)(k1:Rs→Cs→Cs→Option R):Option R :=
 cond e (
  k0 false) (
  k1 a b d)
def ZRo {R:Type} (a b:Cs)(d:Rs)(k0:Bool→Rs→Option R)(k1:Bool→Option R):Option R :=
 Option.bind (Zra a 0 4) fun e =>
 Option.bind (b[1]?) fun f =>
 Option.bind (PV.asI .i64 f) fun g =>
 Option.bind (Z7f [e,.int .i64 g]) fun i =>
 cond (i ==(0:Int)) (
  k0 true d) (
  Option.bind (b[4]?) fun j =>
  Option.bind (PV.asI .i64 j) fun l =>
  cond (decide (l < (0:Int))) (
   Zgl b i true d k1
    (fun (o:Cs)(q:Int)(t:Rs) =>
     Z8i o q t k0)) (
   Option.bind (b[4]?) fun u =>
   Option.bind (PV.asI .i64 u) fun v =>
   Zgl b i (decide (v > (d.length:Int))) d k1
    (fun (z:Cs)(A:Int)(B:Rs) =>
     Z8i z A B k0)))
def ZPk {R:Type} (a:Rs)(b d:Cs)(k0:Bool→Rs→Option R)(k1:Bool→Option R):Option R :=
 Option.bind (d[3]?) fun e =>
 Option.bind (PV.asI .i64 e) fun f =>
 Option.bind (d[1]?) fun g =>
 Option.bind (PV.asI .i64 g) fun i =>
 (fun (z1:Option R) =>
  meet (
   z1) (
   z1)) (
  Option.bind (ZOa 1 8 a) fun j =>
  Option.bind (sInsert j f [[.int .i64 i]]) fun l =>
  ZRo b d l k0 k1)
def Zon {R:Type} (i1 i2 i3 i4 r5:Rs)(c6 c7 c8 c9 a b d e:Int)(k:Rs→Bool→Option R):Option R :=
 cond (decide (c9 < (0:Int))) (
  Z3k r5 [.fs i1,.fs i2,.fs i3,.fs i4] [.int .i64 c6,.int .i64 c7,.int .i64 c8,.int .i64 c9,.int .i64 a,.int .i64 b,.int .i64 d,.int .i64 e] true
   (fun (f:Bool) =>
    k [] f)
   (fun (g:Rs)(i16 i:Cs) =>
    ZPk g i16 i
     (fun (j:Bool)(l:Rs) =>
      k l j)
     (fun (o:Bool) =>
      k [] o))) (
  Z3k r5 [.fs i1,.fs i2,.fs i3,.fs i4] [.int .i64 c6,.int .i64 c7,.int .i64 c8,.int .i64 c9,.int .i64 a,.int .i64 b,.int .i64 d,.int .i64 e] (decide (c9 > (r5.length:Int)))
   (fun (q:Bool) =>
    k [] q)
   (fun (t:Rs)(u v:Cs) =>
    ZPk t u v
     (fun (z:Bool)(A:Rs) =>
      k A z)
     (fun (B:Bool) =>
      k [] B)))
def Z1D (y:Rs × Bool):PV × Cs:=((PV.tuple [.fs y.1,.bool y.2]),[])
def ZTm (a:Cs)(b:Int)(d:Bool)(e:Rs):Option ((Bool) ⊕ ((Cs) × Int × Rs)) :=
 cond d (
  some (Sum.inl false)) (
  some (Sum.inr (a,b,e)))
theorem ZAx {R:Type} (a:Cs)(b:Int)(d:Bool)(e:Rs)(k0:Bool→Option R)(k1:Cs→Int→Rs→Option R):Tw (ZTm a b d e) (Zgl a b d e k0 k1) (fun s=>match s with | (Sum.inl a0)=>k0 a0 | (Sum.inr (a0,a1,a2))=>k1 a0 a1 a2):=by
 unfold ZTm Zgl
 refine Zha (fun _=>?_) (fun _=>?_)
 ·exact Zda rfl
 ·exact Zda rfl
def Zul (a:Cs)(b:Int)(d:Rs):Option ((Bool × Rs)) :=
 Option.bind (a[4]?) fun e =>
 Option.bind (PV.asI .i64 e) fun f =>
 Option.bind (sInsert d f [[.int .i64 b]]) fun g =>
 some (true,g)
theorem ZGv {R:Type} (a:Cs)(b:Int)(d:Rs)(k0:Bool→Rs→Option R):Tw (Zul a b d) (Z8i a b d k0) (fun s=>match s with | (a0,a1)=>k0 a0 a1):=by
 unfold Zul Z8i
 refine Zaa fun e _=>?_
 refine Zaa fun f _=>?_
 refine Zaa fun g _=>?_
 exact Zda rfl
def Z6m (a:Rs)(b d:Cs)(e:Bool):Option ((Bool) ⊕ (Rs × (Cs) × (Cs))) :=
 cond e (
  some (Sum.inl false)) (
  some (Sum.inr (a,b,d)))
theorem ZTx {R:Type} (a:Rs)(b d:Cs)(e:Bool)(k0:Bool→Option R)(k1:Rs→Cs→Cs→Option R):Tw (Z6m a b d e) (Z3k a b d e k0 k1) (fun s=>match s with | (Sum.inl a0)=>k0 a0 | (Sum.inr (a0,a1,a2))=>k1 a0 a1 a2):=by
 unfold Z6m Z3k
 refine Zha (fun _=>?_) (fun _=>?_)
 ·exact Zda rfl
 ·exact Zda rfl
def Zzs (a b:Cs)(d:Rs):Option ((Bool × Rs) ⊕ (Bool)) :=
 Option.bind (Zra a 0 4) fun e =>
 Option.bind (b[1]?) fun f =>
 Option.bind (PV.asI .i64 f) fun g =>
 Option.bind (Z7f [e,.int .i64 g]) fun i =>
 cond (i ==(0:Int)) (
  some (Sum.inl (true,d))) (
  Option.bind (b[4]?) fun j =>
  Option.bind (PV.asI .i64 j) fun l =>
  cond (decide (l < (0:Int))) (
   Option.bind (ZTm b i true d) fun s=>match s with
    | (Sum.inl o) =>
     some (Sum.inr o)
    | (Sum.inr (q,t,u)) =>
     Option.bind (Zul q t u) fun s=>match s with
      | (v,z) =>
       some (Sum.inl (v,z))) (
   Option.bind (b[4]?) fun A =>
   Option.bind (PV.asI .i64 A) fun B =>
   Option.bind (ZTm b i (decide (B > (d.length:Int))) d) fun s=>match s with
    | (Sum.inl C) =>
     some (Sum.inr C)
    | (Sum.inr (D,E,F)) =>
     Option.bind (Zul D E F) fun s=>match s with
      | (G,H) =>
       some (Sum.inl (G,H))))
theorem ZLH {R:Type} (a b:Cs)(d:Rs)(k0:Bool→Rs→Option R)(k1:Bool→Option R):Tw (Zzs a b d) (ZRo a b d k0 k1) (fun s=>match s with | (Sum.inl (a0,a1))=>k0 a0 a1 | (Sum.inr a0)=>k1 a0):=by
 unfold Zzs ZRo
 refine Zaa fun e _=>?_
 refine Zaa fun f _=>?_
 refine Zaa fun g _=>?_
 refine Zaa fun i _=>?_
 refine Zha (fun _=>?_) (fun _=>?_)
 ·exact Zda rfl
 ·refine Zaa fun j _=>?_
  refine Zaa fun l _=>?_
  refine Zha (fun _=>?_) (fun _=>?_)
  ·refine Zma (ZAx _ _ _ _ _ _) (fun s=>?_)
   rcases s with o | ⟨q,t,u⟩
   ·exact Zda rfl
   ·refine Zma (ZGv _ _ _ _) (fun s=>?_)
    rcases s with ⟨v,z⟩
    ·exact Zda rfl
  ·refine Zaa fun A _=>?_
   refine Zaa fun B _=>?_
   refine Zma (ZAx _ _ _ _ _ _) (fun s=>?_)
   rcases s with C | ⟨D,E,F⟩
   ·exact Zda rfl
   ·refine Zma (ZGv _ _ _ _) (fun s=>?_)
    rcases s with ⟨G,H⟩
    ·exact Zda rfl
def Zyn (a:Rs)(b d:Cs):Option ((Bool × Rs) ⊕ (Bool)) :=
 Option.bind (d[3]?) fun e =>
 Option.bind (PV.asI .i64 e) fun f =>
 Option.bind (d[1]?) fun g =>
 Option.bind (PV.asI .i64 g) fun i =>
 Option.bind (ZOa 1 8 a) fun j =>
 Option.bind (sInsert j f [[.int .i64 i]]) fun l =>
 Option.bind (Zzs b d l) fun s=>match s with
  | (Sum.inl (o,q)) =>
   some (Sum.inl (o,q))
  | (Sum.inr t) =>
   some (Sum.inr t)
theorem Ztx {R:Type} (a:Rs)(b d:Cs)(k0:Bool→Rs→Option R)(k1:Bool→Option R):Tw (Zyn a b d) (ZPk a b d k0 k1) (fun s=>match s with | (Sum.inl (a0,a1))=>k0 a0 a1 | (Sum.inr a0)=>k1 a0):=by
 unfold Zyn ZPk
 refine Zaa fun e _=>?_
 refine Zaa fun f _=>?_
 refine Zaa fun g _=>?_
 refine Zaa fun i _=>?_
 intro s hs
 obtain ⟨j,l,hs⟩:=Zba hs
 obtain ⟨o,q,hs⟩:=Zba hs
 obtain ⟨t,u,hs⟩:=Zba hs
 have v:=fun k0 k1=>ZLH (R:=R) _ _ _ k0 k1 _ u
 rcases t with ⟨z,A⟩ | B
 ·cases hs
  simp only [l,q,v,Option.bind_some,cond_true,cond_false,if_true,if_false,ite_true,ite_false,ZGa,and_self,true_and,and_true,eq_self,not_true_eq_false,not_false_eq_true,Bool.false_eq_true,reduceCtorEq]
 ·cases hs
  simp only [l,q,v,Option.bind_some,cond_true,cond_false,if_true,if_false,ite_true,ite_false,ZGa,and_self,true_and,and_true,eq_self,not_true_eq_false,not_false_eq_true,Bool.false_eq_true,reduceCtorEq]
def ZQf (i1 i2 i3 i4 r5:Rs)(c6 c7 c8 c9 a b d e:Int):Option (Rs × Bool) :=
 cond (decide (c9 < (0:Int))) (
  Option.bind (Z6m r5 [.fs i1,.fs i2,.fs i3,.fs i4] [.int .i64 c6,.int .i64 c7,.int .i64 c8,.int .i64 c9,.int .i64 a,.int .i64 b,.int .i64 d,.int .i64 e] true) fun s=>match s with
   | (Sum.inl f) =>
    some ([],f)
   | (Sum.inr (g,i16,i)) =>
    Option.bind (Zyn g i16 i) fun s=>match s with
     | (Sum.inl (j,l)) =>
      some (l,j)
     | (Sum.inr o) =>
      some ([],o)) (
  Option.bind (Z6m r5 [.fs i1,.fs i2,.fs i3,.fs i4] [.int .i64 c6,.int .i64 c7,.int .i64 c8,.int .i64 c9,.int .i64 a,.int .i64 b,.int .i64 d,.int .i64 e] (decide (c9 > (r5.length:Int)))) fun s=>match s with
   | (Sum.inl q) =>
    some ([],q)
   | (Sum.inr (t,u,v)) =>
    Option.bind (Zyn t u v) fun s=>match s with
     | (Sum.inl (z,A)) =>
      some (A,z)
     | (Sum.inr B) =>
      some ([],B))
theorem ZeK {R:Type} (i1 i2 i3 i4 r5:Rs)(c6 c7 c8 c9 a b d e:Int)(k:Rs→Bool→Option R):Tw (ZQf i1 i2 i3 i4 r5 c6 c7 c8 c9 a b d e) (Zon  i1 i2 i3 i4 r5 c6 c7 c8 c9 a b d e k) (fun s=>match s with | (a0,a1)=>k a0 a1):=by
 unfold ZQf Zon
 refine Zha (fun _=>?_) (fun _=>?_)
 ·refine Zma (ZTx _ _ _ _ _ _) (fun s=>?_)
  rcases s with f | ⟨g,i16,i⟩
  ·exact Zda rfl
  ·refine Zma (Ztx _ _ _ _ _) (fun s=>?_)
   rcases s with ⟨j,l⟩ | o
   ·exact Zda rfl
   ·exact Zda rfl
 ·refine Zma (ZTx _ _ _ _ _ _) (fun s=>?_)
  rcases s with q | ⟨t,u,v⟩
  ·exact Zda rfl
  ·refine Zma (Ztx _ _ _ _ _) (fun s=>?_)
   rcases s with ⟨z,A⟩ | B
   ·exact Zda rfl
   ·exact Zda rfl
theorem ZcK:∀ (i1 i2 i3 i4 r5:Rs)(c6 c7 c8 c9 a b d e:Int)(y:Rs × Bool),ZQf i1 i2 i3 i4 r5 c6 c7 c8 c9 a b d e=some y→∀ (R:Type)(k:Rs→Bool→Option R),Zon  i1 i2 i3 i4 r5 c6 c7 c8 c9 a b d e k=k y.1 y.2:=fun i1 i2 i3 i4 r5 c6 c7 c8 c9 a b d e y h=>fun R k=>ZeK i1 i2 i3 i4 r5 c6 c7 c8 c9 a b d e k y h
def Z2w:Cs→Option (Rs × Bool)
 | [.agg [.fs i1,.fs i2,.fs i3,.fs i4],.fs r5,.agg [.int .i64 c6,.int .i64 c7,.int .i64 c8,.int .i64 c9,.int .i64 a,.int .i64 b,.int .i64 d,.int .i64 e]]=>ZQf i1 i2 i3 i4 r5 c6 c7 c8 c9 a b d e
 | _=>none
def ZCf:List (Nat × Cal):=[(177,.ctr Zxd),(220,.ctr ZRd),(191,.ctr Z2h),(1000000003,ro_I),(1000000005,ro_I)]
def Z5q:Ctr:=⟨[none,none,none],Rs × Bool,Z2w,Z1D,false,.d⟩
def Zcd:List (Nat × LC):=[(4000003,⟨[1,3,5,18],[],[],[],[3,5]⟩),
 (6000003,⟨[6,7],[],[],[],[]⟩),
 (5000003,⟨[1,3,5],[],[],[],[]⟩),
 (4000009,⟨[1,5,8,43],[],[],[],[]⟩),
 (4000005,⟨[1,3,5],[],[],[],[]⟩),
 (4000004,⟨[1,3,5],[],[],[],[]⟩),
 (6000005,⟨[6,7],[],[],[],[]⟩),
 (6000009,⟨[6,7],[],[],[],[]⟩),
 (5000009,⟨[1,5,8],[],[],[],[]⟩),
 (6000004,⟨[6,7],[],[],[],[]⟩),
 (4000010,⟨[1,5,8],[],[],[],[]⟩),
 (6000010,⟨[6,7],[],[],[],[]⟩)]
def Zes:SP:=⟨Zea .undef [(1,(.ow 0)),(5,(.val (.rp 0))),(8,(.val (.int .i64))),(43,(.val .bool))] 0 50,[(.row 1)],[]⟩
def Z3p:SP:=⟨Zea .undef [(1,(.ow 0)),(5,(.val (.rp 0))),(8,(.val (.int .i64)))] 0 50,[(.row 1)],[]⟩
def ZLr:SP:=⟨Zea .undef [(1,(.val .fs)),(3,(.val (.rp 0))),(5,(.val (.rp 0))),(18,(.val .bool))] 0 50,[],[]⟩
def ZOr:SP:=⟨Zea .undef [(1,(.ow 0)),(3,(.val (.rp 0))),(5,(.val (.rp 0)))] 0 50,[(.row 1)],[]⟩
def Z7r:SP:=⟨Zea .undef [(1,(.val .fs)),(3,(.val (.rp 0))),(5,(.val (.rp 0)))] 0 50,[],[]⟩
def ZLy:Nat→Option SP
 | _=>none
def Zzx:Nat→Option SP
 | 9=>some Zes
 | 10=>some Z3p
 | 3=>some ZLr
 | 5=>some ZOr
 | 4=>some Z7r
 | _=>none
def ZJo (n:Nat)(ls:List Leaf)(R:Type)(k:Ex→St→Option R):Option R :=
 match ls with
 | [.cells a,.int b,.bool d,.rows e]=>Zgl a b d e (fun f=>k .ret ⟨Zea .undef [(6,(TV.nil 1)),(7,(TV.val (PV.bool f)))] 0 50,[],[]⟩)
   (fun g i j=>k .normal ⟨Zea .undef [(1,(TV.ow 0)),(5,(TV.val (PV.rp g 0))),(8,(TV.val (PV.int .i64 i)))] 0 50,[(Ob.row j 1)],[]⟩)
 | _=>none
def ZSn (n:Nat)(ls:List Leaf)(R:Type)(k:Ex→St→Option R):Option R :=
 match ls with
 | [.cells a,.int b,.rows d]=>Z8i a b d (fun e f=>k .ret ⟨Zea .undef [(6,(TV.ow 0)),(7,(TV.val (PV.bool e)))] 0 50,[(Ob.row f 1)],[]⟩)
 | _=>none
def Z1o (n:Nat)(ls:List Leaf)(R:Type)(k:Ex→St→Option R):Option R :=
 match ls with
 | [.rows a,.cells b,.cells d,.bool e]=>Z3k a b d e (fun f=>k .ret ⟨Zea .undef [(6,(TV.nil 1)),(7,(TV.val (PV.bool f)))] 0 50,[],[]⟩)
   (fun g i j=>k .normal ⟨Zea .undef [(1,(TV.val (PV.fs g))),(3,(TV.val (PV.rp i 0))),(5,(TV.val (PV.rp j 0)))] 0 50,[],[]⟩)
 | _=>none
def Z4o (n:Nat)(ls:List Leaf)(R:Type)(k:Ex→St→Option R):Option R :=
 match ls with
 | [.cells a,.cells b,.rows d]=>ZRo a b d (fun e f=>k .ret ⟨Zea .undef [(6,(TV.ow 0)),(7,(TV.val (PV.bool e)))] 0 50,[(Ob.row f 1)],[]⟩)
   (fun g=>k .ret ⟨Zea .undef [(6,(TV.nil 1)),(7,(TV.val (PV.bool g)))] 0 50,[],[]⟩)
 | _=>none
def ZYo (n:Nat)(ls:List Leaf)(R:Type)(k:Ex→St→Option R):Option R :=
 match ls with
 | [.rows a,.cells b,.cells d]=>ZPk a b d (fun e f=>k .ret ⟨Zea .undef [(6,(TV.ow 0)),(7,(TV.val (PV.bool e)))] 0 50,[(Ob.row f 1)],[]⟩)
   (fun g=>k .ret ⟨Zea .undef [(6,(TV.nil 1)),(7,(TV.val (PV.bool g)))] 0 50,[],[]⟩)
 | _=>none
def ZRD (n key:Nat) (ls:List Leaf) (R:Type) (k:Ex→St→Option R):Option R :=
 match key with
 | _=>none
def ZHD (n key:Nat) (ls:List Leaf) (R:Type) (k:Ex→St→Option R):Option R :=
 match key with
 | 9=>ZJo n ls R k
 | 10=>ZSn n ls R k
 | 3=>Z1o n ls R k
 | 5=>Z4o n ls R k
 | 4=>ZYo n ls R k
 | _=>none
def Zju:Code→Bool:=onKeys [4,3,5,10,9]
def ZRj:Nat→Loops:=patL (Zsa Zcd) ZLy ZRD (ZCa Zcd) Zju Zzx ZHD
theorem ZJE (n:Nat)(a:Rs)(b d:Cs)  (R:Type) (k:Ex→St→Option R) :
  Z0a T G0 (Zja ZCf) (ZCa Zcd) (ZRj n) (Zia [1,1] (Zca Tryz.f172)) (Zoa Z7r [.rows a,.cells b,.cells d]) R k=ZYo n [.rows a,.cells b,.cells d] R k:=by kernel_rfl
theorem ZND (n:Nat)(a:Rs)(b d:Cs)(e:Bool)  (R:Type) (k:Ex→St→Option R) :
  Z0a T G0 (Zja ZCf) (ZCa Zcd) (ZRj n) (Zia [1,0,1] (Zca Tryz.f172)) (Zoa ZLr [.rows a,.cells b,.cells d,.bool e]) R k=Z1o n [.rows a,.cells b,.cells d,.bool e] R k:=by kernel_rfl
theorem ZuE (n:Nat)(a b:Cs)(d:Rs)  (R:Type) (k:Ex→St→Option R) :
  Z0a T G0 (Zja ZCf) (ZCa Zcd) (ZRj n) (Zia [1,1,1] (Zca Tryz.f172)) (Zoa ZOr [.cells a,.cells b,.rows d]) R k=Z4o n [.cells a,.cells b,.rows d] R k:=by kernel_rfl
theorem ZmC (n:Nat)(a:Cs)(b:Int)(d:Rs)  (R:Type) (k:Ex→St→Option R) :
  Z0a T G0 (Zja ZCf) (ZCa Zcd) (ZRj n) (Zia [1,1,1,1,1,1] (Zca Tryz.f172)) (Zoa Z3p [.cells a,.int b,.rows d]) R k=ZSn n [.cells a,.int b,.rows d] R k:=by kernel_rfl
theorem ZWD (n:Nat)(a:Cs)(b:Int)(d:Bool)(e:Rs)  (R:Type) (k:Ex→St→Option R) :
  Z0a T G0 (Zja ZCf) (ZCa Zcd) (ZRj n) (Zia [1,1,1,1,1,0,1] (Zca Tryz.f172)) (Zoa Zes [.cells a,.int b,.bool d,.rows e]) R k=ZJo n [.cells a,.int b,.bool d,.rows e] R k:=by kernel_rfl
theorem Z3J (i1 i2 i3 i4 r5:Rs)(c6 c7 c8 c9 a b d e:Int) :
  funK T G0 (Zja ZCf) (ZRj 0) .d false [none,none,none] (Zfa Tryz.f172) [.agg [.fs i1,.fs i2,.fs i3,.fs i4],.fs r5,.agg [.int .i64 c6,.int .i64 c7,.int .i64 c8,.int .i64 c9,.int .i64 a,.int .i64 b,.int .i64 d,.int .i64 e]]=Zon  i1 i2 i3 i4 r5 c6 c7 c8 c9 a b d e (fun a0 a1=>some (Z1D (a0,a1))):=by kernel_rfl
theorem ZuJ {ps:Cs} {y:Rs × Bool} (h:Z2w ps=some y):∃ (i1:Rs) (i2:Rs) (i3:Rs) (i4:Rs) (r5:Rs) (c6:Int) (c7:Int) (c8:Int) (c9:Int) (a:Int) (b:Int) (d:Int) (e:Int),ps=[.agg [.fs i1,.fs i2,.fs i3,.fs i4],.fs r5,.agg [.int .i64 c6,.int .i64 c7,.int .i64 c8,.int .i64 c9,.int .i64 a,.int .i64 b,.int .i64 d,.int .i64 e]]:=by
 unfold Z2w at h
 split at h
 ·exact ⟨_,_,_,_,_,_,_,_,_,_,_,_,_,rfl⟩
 ·cases h
theorem ZYv:Zpa (Zca Tryz.f172)=[]:=by kernel_rfl
theorem ZAF:(ZAa (Zca Tryz.f172)).filter Zju=[Zia [1,1] (Zca Tryz.f172),Zia [1,0,1] (Zca Tryz.f172),Zia [1,1,1] (Zca Tryz.f172),Zia [1,1,1,1,1,1] (Zca Tryz.f172),Zia [1,1,1,1,1,0,1] (Zca Tryz.f172)]:=by kernel_rfl
theorem ZfF (hΓ:Zga Tryz.prog G0 ZCf) (hok:∀ (i1 i2 i3 i4 r5:Rs)(c6 c7 c8 c9 a b d e:Int)(y:Rs × Bool),ZQf i1 i2 i3 i4 r5 c6 c7 c8 c9 a b d e=some y→∀ (R:Type)(k:Rs→Bool→Option R),Zon  i1 i2 i3 i4 r5 c6 c7 c8 c9 a b d e k=k y.1 y.2):Zka Tryz.prog G0 172 Z5q:=by
 refine ZHa mixed tOk (Zna hΓ) Tryz.func172 rfl rfl rfl rfl (F:=Zfa Tryz.f172) (ZBa Zcd) (pat:=ZLy) (L:=ZRD) (ZFa Zcd) (on:=Zju) (patj:=Zzx) (J:=ZHD) (fun c hc ls R k=>?_) (fun c hc p hp m ls R k r h=>?_) (fun c hc p hp m ls R k r h=>?_) (fun ps x h=>?_)
 ·rw [show (Zfa Tryz.f172).code=Zca Tryz.f172 from rfl,ZYv] at hc
  cases hc
 ·rw [show (Zfa Tryz.f172).code=Zca Tryz.f172 from rfl,ZYv] at hc
  cases hc
 ·rw [show (Zfa Tryz.f172).code=Zca Tryz.f172 from rfl,ZAF] at hc
  simp only [List.mem_cons,List.not_mem_nil,or_false] at hc
  rcases hc with rfl | rfl | rfl | rfl | rfl
  ·obtain rfl:Z7r=p:=Option.some.inj hp
   change ZYo m ls R k=some r at h
   have h':=h
   unfold ZYo at h'
   split at h'
   ·exact (ZJE m _ _ _ R k).trans h
   ·cases h'
  ·obtain rfl:ZLr=p:=Option.some.inj hp
   change Z1o m ls R k=some r at h
   have h':=h
   unfold Z1o at h'
   split at h'
   ·exact (ZND m _ _ _ _ R k).trans h
   ·cases h'
  ·obtain rfl:ZOr=p:=Option.some.inj hp
   change Z4o m ls R k=some r at h
   have h':=h
   unfold Z4o at h'
   split at h'
   ·exact (ZuE m _ _ _ R k).trans h
   ·cases h'
  ·obtain rfl:Z3p=p:=Option.some.inj hp
   change ZSn m ls R k=some r at h
   have h':=h
   unfold ZSn at h'
   split at h'
   ·exact (ZmC m _ _ _ R k).trans h
   ·cases h'
  ·obtain rfl:Zes=p:=Option.some.inj hp
   change ZJo m ls R k=some r at h
   have h':=h
   unfold ZJo at h'
   split at h'
   ·exact (ZWD m _ _ _ _ R k).trans h
   ·cases h'
 ·obtain ⟨y,hy,hx⟩:=Zba h
  cases hx
  obtain ⟨i1,i2,i3,i4,r5,c6,c7,c8,c9,a,b,d,e,rfl⟩:=ZuJ hy
  exact ⟨0,(Z3J i1 i2 i3 i4 r5 c6 c7 c8 c9 a b d e).trans (hok i1 i2 i3 i4 r5 c6 c7 c8 c9 a b d e y hy _ _)⟩
def ZOk {R:Type} (p1 p2 p3 p4 p5 p6:Rs)(p7 a:Int)(b:Rs)(k:Int→Rs→Rs→Option R):Option R :=
 Option.bind (idx p1 a) fun d =>
 if d.length=1 then
  Option.bind (d[0]?) fun e =>
  Option.bind (PV.asFs e) fun f =>
  Option.bind (ZOa 1 8 f) fun g =>
  k a g b
 else none
def ZvB (y:Int × Rs × Rs):PV × Cs:=((PV.agg [.int .i64 y.1,.fs y.2.1,.fs y.2.2]),[])
def ZAd (p1 p2 p3 p4 p5 p6:Rs)(p7 a:Int)(b:Rs):Option (Int × Rs × Rs):=ZOk p1 p2 p3 p4 p5 p6 p7 a b fun a0 a1 a2=>some (a0,a1,a2)
def Z3u:Cs→Option (Int × Rs × Rs)
 | [.agg [.fs p1,.fs p2,.fs p3,.fs p4,.fs p5,.fs p6,.int .i64 p7],.int .i64 a,.fs b]=>ZAd p1 p2 p3 p4 p5 p6 p7 a b
 | _=>none
def ZIu:List (Nat × Cal):=[(177,.ctr Zxd),(1000000003,ro_I)]
def ZVk:Ctr:=⟨[none,none,none],Int × Rs × Rs,Z3u,ZvB,false,.d⟩
theorem ZZI (p1 p2 p3 p4 p5 p6:Rs)(p7 a:Int)(b:Rs) :
  funK T G0 (Zja ZIu) noL .d false [none,none,none] (Zfa Tryz.f174) [.agg [.fs p1,.fs p2,.fs p3,.fs p4,.fs p5,.fs p6,.int .i64 p7],.int .i64 a,.fs b]=ZOk  p1 p2 p3 p4 p5 p6 p7 a b (fun a0 a1 a2=>some (ZvB (a0,a1,a2))):=by kernel_rfl
theorem Z6H {ps:Cs} {y:Int × Rs × Rs} (h:Z3u ps=some y):∃ (p1:Rs) (p2:Rs) (p3:Rs) (p4:Rs) (p5:Rs) (p6:Rs) (p7:Int) (a:Int) (b:Rs),ps=[.agg [.fs p1,.fs p2,.fs p3,.fs p4,.fs p5,.fs p6,.int .i64 p7],.int .i64 a,.fs b]:=by
 unfold Z3u at h
 split at h
 ·exact ⟨_,_,_,_,_,_,_,_,_,rfl⟩
 ·cases h
theorem ZQH {R:Type} (p1 p2 p3 p4 p5 p6:Rs)(p7 a:Int)(b:Rs)(k:Int→Rs→Rs→Option R):ZOk p1 p2 p3 p4 p5 p6 p7 a b k=Option.bind (ZOk p1 p2 p3 p4 p5 p6 p7 a b fun a0 a1 a2=>some (a0,a1,a2)) fun y=>k y.1 y.2.1 y.2.2:=by
 unfold ZOk
 first | rfl | simp only [Option.bind_assoc,Zya,Zxa,Option.bind_some,Option.bind_none]
theorem ZGD (hΓ:Zga Tryz.prog G0 ZIu):Zka Tryz.prog G0 174 ZVk:=by
 refine ZIa mixed tOk (Zna hΓ) Tryz.func174 rfl rfl rfl rfl (F:=Zfa Tryz.f174) (fun ps x h=>?_)
 obtain ⟨y,hy,hx⟩:=Zba h
 cases hx
 obtain ⟨p1,p2,p3,p4,p5,p6,p7,a,b,rfl⟩:=Z6H hy
 have hy':ZAd p1 p2 p3 p4 p5 p6 p7 a b=some y:=hy
 refine ⟨noL,ZKa _,(ZZI p1 p2 p3 p4 p5 p6 p7 a b).trans ?_⟩
 unfold ZAd at hy'
 rw [ZQH,hy']
 rfl
def Zce {R:Type} (s1:Rs)(v2:Int)(k:Bool→Option R):Option R :=
 Option.bind (ZLb s1 v2) fun y3 =>
 k (decide (y3 ≥ (0:Int)))
def ZFq (y:Bool):PV × Cs:=((PV.bool y),[])
def Zge (s1:Rs)(v2:Int):Option (Bool):=Zce s1 v2 fun a0=>some a0
def Zfk:Cs→Option (Bool)
 | [.fs s1,.int .i64 v2]=>Zge s1 v2
 | _=>none
def Zbk:List (Nat × Cal):=[(167,.ctr ZAg)]
def Zhk:Ctr:=⟨[none,none],Bool,Zfk,ZFq,true,.d⟩
theorem ZKz (s1:Rs)(v2:Int) :
  funK T G0 (Zja Zbk) noL .d true [none,none] (Zfa Tryz.f190) [.fs s1,.int .i64 v2]=Zce  s1 v2 (fun a0=>some (ZFq a0)):=by kernel_rfl
theorem Zgy {ps:Cs} {y:Bool} (h:Zfk ps=some y):∃ (s1:Rs) (v2:Int),ps=[.fs s1,.int .i64 v2]:=by
 unfold Zfk at h
 split at h
 ·exact ⟨_,_,rfl⟩
 ·cases h
theorem Zky {R:Type} (s1:Rs)(v2:Int)(k:Bool→Option R):Zce s1 v2 k=Option.bind (Zce s1 v2 fun a0=>some a0) fun y=>k y:=by
 unfold Zce
 first | rfl | simp only [Option.bind_assoc,Zya,Zxa,Option.bind_some,Option.bind_none]
theorem Z3v (hΓ:Zga Tryz.prog G0 Zbk):Zka Tryz.prog G0 190 Zhk:=by
 refine ZIa mixed tOk (Zna hΓ) Tryz.func190 rfl rfl rfl rfl (F:=Zfa Tryz.f190) (fun ps x h=>?_)
 obtain ⟨y,hy,hx⟩:=Zba h
 cases hx
 obtain ⟨s1,v2,rfl⟩:=Zgy hy
 have hy':Zge s1 v2=some y:=hy
 refine ⟨noL,ZKa _,(ZKz s1 v2).trans ?_⟩
 unfold Zge at hy'
 rw [Zky,hy']
 rfl
def Zif {R:Type}:Nat→Rs→Cs→Rs→Int→Int→(Bool→Option R)→(Unit→Option R)→Option R
 | 0,_,_,_,_,_,_,_=>none
 | n + 1,a,i8,b,d,e,k0,k1 =>
  cond (decide (e < d)) (
   Option.bind (idx b e) fun f =>
   if f.length=1 then
    Option.bind (f[0]?) fun g =>
    Option.bind (PV.asI .i64 g) fun i =>
    Option.bind (Zra i8 0 4) fun j =>
    Option.bind (ZTi [j,.int .i64 i]) fun l =>
    cond (!l) (
     k0 false) (
     if (0:Int)≤(0:Int)∧(0:Int)≤e∧e=e∧e≤(a.length:Int)∧ZJa 1 a=true then
      Option.bind (Zge ((a.take (Int.toNat e)).drop 0) i) fun o =>
      cond o (
       k0 false) (
       Option.bind (Zra i8 0 4) fun q =>
       Option.bind (Z7f [q,.int .i64 i]) fun t =>
       cond (t ==(0:Int)) (
        Zif n a i8 b d (IntKind.i64.wrap (e + (1:Int))) k0 k1) (
        Option.bind (ZLb a t) fun u =>
        cond (decide (u < (0:Int))) (
         k0 false) (
         Option.bind (Zra i8 0 4) fun v =>
         Option.bind (Z5i [v,.int .i64 i]) fun z =>
         cond (z !=(decide (u > e))) (
          k0 false) (
          Zif n a i8 b d (IntKind.i64.wrap (e + (1:Int))) k0 k1))))
     else none)
   else none) (
   k1 ())
def Zbj {R:Type} (n:Nat)(i1 i2 i3 i4 a:Rs)(k:Bool→Option R):Option R :=
 Zif n a [.fs i1,.fs i2,.fs i3,.fs i4] a (a.length:Int) 0 k
  (fun (_:Unit) =>
   k true)
def Z3z (y:Bool):PV × Cs:=((PV.bool y),[])
def Zng:Nat→Rs→Cs→Rs→Int→Int→Option ((Bool) ⊕ (Unit))
 | 0,_,_,_,_,_=>none
 | n + 1,a,i8,b,d,e =>
  cond (decide (e < d)) (
   Option.bind (idx b e) fun f =>
   if f.length=1 then
    Option.bind (f[0]?) fun g =>
    Option.bind (PV.asI .i64 g) fun i =>
    Option.bind (Zra i8 0 4) fun j =>
    Option.bind (ZTi [j,.int .i64 i]) fun l =>
    cond (!l) (
     some (Sum.inl false)) (
     if (0:Int)≤(0:Int)∧(0:Int)≤e∧e=e∧e≤(a.length:Int)∧ZJa 1 a=true then
      Option.bind (Zge ((a.take (Int.toNat e)).drop 0) i) fun o =>
      cond o (
       some (Sum.inl false)) (
       Option.bind (Zra i8 0 4) fun q =>
       Option.bind (Z7f [q,.int .i64 i]) fun t =>
       cond (t ==(0:Int)) (
        Zng n a i8 b d (IntKind.i64.wrap (e + (1:Int)))) (
        Option.bind (ZLb a t) fun u =>
        cond (decide (u < (0:Int))) (
         some (Sum.inl false)) (
         Option.bind (Zra i8 0 4) fun v =>
         Option.bind (Z5i [v,.int .i64 i]) fun z =>
         cond (z !=(decide (u > e))) (
          some (Sum.inl false)) (
          Zng n a i8 b d (IntKind.i64.wrap (e + (1:Int)))))))
     else none)
   else none) (
   some (Sum.inr ()))
theorem ZLE {R:Type} (n:Nat)(a:Rs)(i8:Cs)(b:Rs)(d e:Int)(k0:Bool→Option R)(k1:Unit→Option R):Tw (Zng n a i8 b d e) (Zif n a i8 b d e k0 k1) (fun s=>match s with | (Sum.inl a0)=>k0 a0 | (Sum.inr _)=>k1 ()):=by
 induction n generalizing a i8 b d e with
 | zero=>exact Zwa
 | succ n ih =>
  unfold Zng Zif
  refine Zha (fun _=>?_) (fun _=>?_)
  ·refine Zaa fun f _=>?_
   refine Zqa fun _=>?_
   refine Zaa fun g _=>?_
   refine Zaa fun i _=>?_
   refine Zaa fun j _=>?_
   refine Zaa fun l _=>?_
   refine Zha (fun _=>?_) (fun _=>?_)
   ·exact Zda rfl
   ·refine Zqa fun _=>?_
    refine Zaa fun o _=>?_
    refine Zha (fun _=>?_) (fun _=>?_)
    ·exact Zda rfl
    ·refine Zaa fun q _=>?_
     refine Zaa fun t _=>?_
     refine Zha (fun _=>?_) (fun _=>?_)
     ·exact ih _ _ _ _ _
     ·refine Zaa fun u _=>?_
      refine Zha (fun _=>?_) (fun _=>?_)
      ·exact Zda rfl
      ·refine Zaa fun v _=>?_
       refine Zaa fun z _=>?_
       refine Zha (fun _=>?_) (fun _=>?_)
       ·exact Zda rfl
       ·exact ih _ _ _ _ _
  ·exact Zda rfl
def Z1e (i1 i2 i3 i4 a:Rs):Option (Bool) :=
 Option.bind (Zng 9223372036854775808 a [.fs i1,.fs i2,.fs i3,.fs i4] a (a.length:Int) 0) fun s=>match s with
  | (Sum.inl b6) =>
   some b6
  | (Sum.inr _) =>
   some true
theorem ZXG {R:Type} (i1 i2 i3 i4 a:Rs)(k:Bool→Option R):Tw (Z1e i1 i2 i3 i4 a) (Zbj 9223372036854775808 i1 i2 i3 i4 a k) (fun s=>match s with | a0=>k a0):=by
 unfold Z1e Zbj
 refine Zma (ZLE _ _ _ _ _ _ _ _) (fun s=>?_)
 rcases s with b6 | ⟨⟩
 ·exact Zda rfl
 ·exact Zda rfl
theorem ZeI:∀ (i1 i2 i3 i4 a:Rs)(y:Bool),Z1e i1 i2 i3 i4 a=some y→∃ n,∀ (R:Type)(k:Bool→Option R),Zbj n i1 i2 i3 i4 a k=k y:=fun i1 i2 i3 i4 a y h=>⟨9223372036854775808,fun R k=>ZXG i1 i2 i3 i4 a k y h⟩
def ZVr:Cs→Option (Bool)
 | [.agg [.fs i1,.fs i2,.fs i3,.fs i4],.fs a]=>Z1e i1 i2 i3 i4 a
 | _=>none
def Z1m:List (Nat × Cal):=[(168,.ctr Zwt),(190,.ctr Zhk),(191,.ctr Z2h),(167,.ctr ZAg),(192,.ctr Zwn),(1000000002,ro_I)]
def Ztr:Ctr:=⟨[none,none],Bool,ZVr,Z3z,true,.d⟩
def Z1g:List (Nat × LC):=[(2,⟨[1,2,9,10,11],[],[],[],[2]⟩),
 (2000002,⟨[4],[],[],[],[]⟩),
 (1002000,⟨[],[],[],[],[]⟩)]
def ZZp:SP:=⟨Zea .undef [(1,(.val .fs)),(2,(.val (.rp 0))),(9,(.val .fs)),(10,(.val (.int .i64))),(11,(.val (.int .i64)))] 0 47,[],[]⟩
def ZCv:Nat→Option SP
 | 2=>some ZZp
 | _=>none
def ZDt:Nat→Option SP
 | _=>none
def Zhf (n:Nat)(ls:List Leaf)(R:Type)(k:Ex→St→Option R):Option R :=
 match ls with
 | [.rows a,.cells i8,.rows b,.int d,.int e]=>Zif n a i8 b d e (fun f=>k .ret ⟨Zea .undef [(4,(TV.val (PV.bool f)))] 0 47,[],[]⟩)
   (fun _=>k (.exit 0) ⟨Zea .undef [] 0 47,[],[]⟩)
 | _=>none
def Z1y (n key:Nat) (ls:List Leaf) (R:Type) (k:Ex→St→Option R):Option R :=
 match key with
 | 2=>Zhf n ls R k
 | _=>none
def Zgz (n key:Nat) (ls:List Leaf) (R:Type) (k:Ex→St→Option R):Option R :=
 match key with
 | _=>none
def Z1x:Code→Bool:=fun _=>false
def Zwz:Nat→Loops:=patL (Zsa Z1g) ZCv Z1y (ZCa Z1g) Z1x ZDt Zgz
theorem ZoC (n:Nat)(a:Rs)(i8:Cs)(b:Rs)(d e:Int)  (R:Type) (k:Ex→St→Option R) :
  Zza T G0 (Zja Z1m) (Zsa Z1g) (Zwz n) (Zia [1,0,1,0,0] (Zca Tryz.f127)) (Zoa ZZp [.rows a,.cells i8,.rows b,.int d,.int e]) R k=Zhf (n + 1) [.rows a,.cells i8,.rows b,.int d,.int e] R k:=by kernel_rfl
theorem ZcH (n:Nat)(i1 i2 i3 i4 a:Rs) :
  funK T G0 (Zja Z1m) (Zwz n) .d true [none,none] (Zfa Tryz.f127) [.agg [.fs i1,.fs i2,.fs i3,.fs i4],.fs a]=Zbj n  i1 i2 i3 i4 a (fun a0=>some (Z3z a0)):=by kernel_rfl
theorem ZgG {ps:Cs} {y:Bool} (h:ZVr ps=some y):∃ (i1:Rs) (i2:Rs) (i3:Rs) (i4:Rs) (a:Rs),ps=[.agg [.fs i1,.fs i2,.fs i3,.fs i4],.fs a]:=by
 unfold ZVr at h
 split at h
 ·exact ⟨_,_,_,_,_,rfl⟩
 ·cases h
theorem Zzr:Zpa (Zca Tryz.f127)=[Zia [1,0,1,0,0] (Zca Tryz.f127)]:=by kernel_rfl
theorem ZWC (hΓ:Zga Tryz.prog G0 Z1m) (hok:∀ (i1 i2 i3 i4 a:Rs)(y:Bool),Z1e i1 i2 i3 i4 a=some y→∃ n,∀ (R:Type)(k:Bool→Option R),Zbj n  i1 i2 i3 i4 a k=k y):Zka Tryz.prog G0 127 Ztr:=by
 refine ZHa mixed tOk (Zna hΓ) Tryz.func127 rfl rfl rfl rfl (F:=Zfa Tryz.f127) (ZBa Z1g) (pat:=ZCv) (L:=Z1y) (ZFa Z1g) (on:=Z1x) (patj:=ZDt) (J:=Zgz) (fun c hc ls R k=>?_) (fun c hc p hp m ls R k r h=>?_) (fun c hc p hp m ls R k r h=>?_) (fun ps x h=>?_)
 ·rw [show (Zfa Tryz.f127).code=Zca Tryz.f127 from rfl,Zzr] at hc
  simp only [List.mem_cons,List.not_mem_nil,or_false] at hc
  rcases hc with rfl
  ·show Zhf 0 ls R k=none
   unfold Zhf
   split
   ·rfl
   ·rfl
 ·rw [show (Zfa Tryz.f127).code=Zca Tryz.f127 from rfl,Zzr] at hc
  simp only [List.mem_cons,List.not_mem_nil,or_false] at hc
  rcases hc with rfl
  ·obtain rfl:ZZp=p:=Option.some.inj hp
   change Zhf (m + 1) ls R k=some r at h
   have h':=h
   unfold Zhf at h'
   split at h'
   ·exact (ZoC m _ _ _ _ _ R k).trans h
   ·cases h'
 ·cases (List.mem_filter.1 hc).2
 ·obtain ⟨y,hy,hx⟩:=Zba h
  cases hx
  obtain ⟨i1,i2,i3,i4,a,rfl⟩:=ZgG hy
  obtain ⟨n,hn⟩:=hok i1 i2 i3 i4 a y hy
  exact ⟨n,(ZcH n i1 i2 i3 i4 a).trans (hn _ _)⟩
end
end Go.Proofs.YtgpjfmihogaooaaGreatDoorV
namespace Go.Proofs.YtgpjfmihogaooaaGreatDoorV
open Go
set_option maxRecDepth 100000
set_option linter.unusedVariables false
set_option linter.unusedSimpArgs false
noncomputable section
def Zyf {R:Type} (n:Nat)(a:Cs)(b d e:Int)(f:Rs)(g i:Int)(j:Bool)(l o:Int)(q:PV)(t u:Int)(v z:Rs)(A:PV)(k0:Bool→Int→Int→Option R)(k1:Cs→Int→Int→Int→Rs→Int→Int→Int→Int→PV→Int→Int→Rs→Rs→PV→Option R):Option R :=
 cond j (
  k0 false 0 0) (
  k1 a b d e f g i l o q t u v z A)
def Zpf {R:Type} (n:Nat)(a:Cs)(b d e:Int)(f:Rs)(g i j l:Int)(o:PV)(q t:Int)(u v:Rs)(z:PV)(k0:Cs→Int→Int→Int→Rs→Int→Int→Int→Int→PV→Int→Int→Rs→Rs→Option R):Option R :=
 (fun (z1 z2:Option R) =>
  meet (
   meet (
    meet (
     z1) (
     meet (
      meet (
       z2) (
       z2)) (
      meet (
       z2) (
       z2)))) (
    meet (
     meet (
      meet (
       z2) (
       z2)) (
      z2)) (
     meet (
      meet (
       z2) (
       z2)) (
      z2)))) (
   meet (
    meet (
     meet (
      z1) (
      meet (
       meet (
        z2) (
        z2)) (
       meet (
        z2) (
        z2)))) (
     meet (
      meet (
       meet (
        z2) (
        z2)) (
       z2)) (
      meet (
       meet (
        z2) (
        z2)) (
       z2)))) (
    meet (
     meet (
      meet (
       meet (
        z2) (
        z2)) (
       z2)) (
      meet (
       meet (
        meet (
         z2) (
         z2)) (
        z2)) (
       meet (
        z2) (
        z2)))) (
     meet (
      meet (
       meet (
        z2) (
        z2)) (
       z2)) (
      meet (
       meet (
        meet (
         z2) (
         z2)) (
        z2)) (
       meet (
        z2) (
        z2))))))) (
  if (u.length + ([[.int .i64 e]]:Rs).length) * 8≤Zla then
   (fun (z3:Option R) =>
    meet (
     z3) (
     z3)) (
    if (v.length + ([[.int .i64 b]]:Rs).length) * 8≤Zla then
     Option.bind ((PV.cells z)[3]?) fun A =>
     Option.bind (PV.asI .i64 A) fun B =>
     k0 a d (IntKind.i64.wrap (e + B)) b f g i j l o q t (u ++ [[.int .i64 e]]) (v ++ [[.int .i64 b]])
    else none)
  else none) (
  if (u.length + ([[.int .i64 e]]:Rs).length) * 8≤Zla then
   if (v.length + ([[.int .i64 b]]:Rs).length) * 8≤Zla then
    Option.bind ((PV.cells z)[3]?) fun C =>
    Option.bind (PV.asI .i64 C) fun D =>
    k0 a d (IntKind.i64.wrap (e + D)) b f g i j l o q t (u ++ [[.int .i64 e]]) (v ++ [[.int .i64 b]])
   else none
  else none)
def ZMe {R:Type}:Nat→Cs→Int→Int→Int→Rs→Int→Int→Int→Int→PV→Int→Int→Rs→Rs→(Cs→Int→Int→Int→Int→PV→Int→Int→Rs→Rs→Option R)→(Bool→Int→Int→Option R)→Option R
 | 0,_,_,_,_,_,_,_,_,_,_,_,_,_,_,_,_=>none
 | n + 1,a,b,d,e,f,g,i,j,i64,l,o,q,t,u,k0,k1 =>
  cond (decide (i < g)) (
   Option.bind (idx f i) fun v =>
   if v.length=1 then
    Option.bind (v[0]?) fun z =>
    Option.bind (PV.asI .i64 z) fun A =>
    Option.bind (a[1]?) fun B =>
    Option.bind (PV.asFs B) fun C =>
    Option.bind (idx C (IntKind.i64.wrap (A - (1:Int)))) fun D =>
    if D.length=4 then
     Option.bind (Zra D 0 4) fun E =>
     if (PV.isAgg E 4)=true then
      Option.bind (Zra a 0 4) fun F =>
      Option.bind (Z6c [F,.int .i64 b,.int .i64 A]) fun G =>
      Option.bind ((PV.cells E)[1]?) fun H =>
      Option.bind (PV.asI .i64 H) fun I =>
      Option.bind ((PV.cells E)[0]?) fun J =>
      Option.bind (PV.asI .i64 J) fun K =>
      Option.bind ((PV.cells E)[2]?) fun L =>
      Option.bind (PV.asI .i64 L) fun M =>
      cond (decide ((if I < (IntKind.i64.wrap (d + G)) then (IntKind.i64.wrap (d + G)) else I) > M)) (
       Zyf n a (IntKind.i64.wrap (e + K)) A (if I < (IntKind.i64.wrap (d + G)) then (IntKind.i64.wrap (d + G)) else I) f g i true j i64 l o q t u E k1
        (fun (N:Cs)(O Q U:Int)(V:Rs)(W X Y Z:Int)(a1:PV)(b1 c1:Int)(d1 e1:Rs)(f1:PV) =>
         Zpf n N O Q U V W X Y Z a1 b1 c1 d1 e1 f1
          (fun (g1:Cs)(h1 i1 j1:Int)(l1:Rs)(m1 n1 o1 p1:Int)(q1:PV)(r1 s1:Int)(t1 u1:Rs) =>
           ZMe n g1 h1 i1 j1 l1 m1 (IntKind.i64.wrap (n1 + (1:Int))) o1 p1 q1 r1 s1 t1 u1 k0 k1))) (
       cond (decide ((IntKind.i64.wrap (e + K)) < (0:Int))) (
        Zyf n a (IntKind.i64.wrap (e + K)) A (if I < (IntKind.i64.wrap (d + G)) then (IntKind.i64.wrap (d + G)) else I) f g i true j i64 l o q t u E k1
         (fun (v1:Cs)(w1 x1 y1:Int)(z1:Rs)(A1 B1 C1 D1:Int)(E1:PV)(F1 G1:Int)(H1 I1:Rs)(J1:PV) =>
          Zpf n v1 w1 x1 y1 z1 A1 B1 C1 D1 E1 F1 G1 H1 I1 J1
           (fun (K1:Cs)(L1 M1 N1:Int)(O1:Rs)(P1 Q1 R1 S1:Int)(T1:PV)(U1 V1:Int)(W1 X1:Rs) =>
            ZMe n K1 L1 M1 N1 O1 P1 (IntKind.i64.wrap (Q1 + (1:Int))) R1 S1 T1 U1 V1 W1 X1 k0 k1))) (
        Option.bind ((PV.cells l)[0]?) fun Y1 =>
        Option.bind (PV.asI .i64 Y1) fun Z1 =>
        Zyf n a (IntKind.i64.wrap (e + K)) A (if I < (IntKind.i64.wrap (d + G)) then (IntKind.i64.wrap (d + G)) else I) f g i (decide ((IntKind.i64.wrap (e + K)) > Z1)) j i64 l o q t u E k1
         (fun (a2:Cs)(b2 c2 d2:Int)(e2:Rs)(f2 g2 h2 i2:Int)(j2:PV)(k2 l2:Int)(m2 n2:Rs)(o2:PV) =>
          Zpf n a2 b2 c2 d2 e2 f2 g2 h2 i2 j2 k2 l2 m2 n2 o2
           (fun (p2:Cs)(q2 r2 s2:Int)(t2:Rs)(u2 v2 w2 x2:Int)(y2:PV)(z2 A2:Int)(B2 C2:Rs) =>
            ZMe n p2 q2 r2 s2 t2 u2 (IntKind.i64.wrap (v2 + (1:Int))) w2 x2 y2 z2 A2 B2 C2 k0 k1))))
     else none
    else none
   else none) (
   k0 a b d j i64 l o q t u)
def ZEg {R:Type} (n:Nat)(a:Int)(b:Rs)(d:Cs)(e:Bool)(f g:Int)(k0:Bool→Int→Int→Option R)(k1:Int→Rs→Cs→Int→Int→Option R):Option R :=
 cond e (
  k0 false 0 0) (
  k1 a b d f g)
def Zqg {R:Type} (n:Nat)(a:Int)(b:Rs)(d:Cs)(e f:Int)(k0:Bool→Int→Int→Option R)(k1:Bool→Int→Int→Rs→Rs→Option R):Option R :=
 Option.bind (d[0]?) fun g =>
 Option.bind (PV.asFs g) fun i =>
 Option.bind (idx i a) fun j =>
 if j.length=3 then
  Option.bind (Zra j 0 3) fun l =>
  if (PV.isAgg l 3)=true then
   Option.bind (Zra d 0 4) fun o =>
   Option.bind (Z9f [o,.fs b]) fun q =>
   Option.bind ((PV.cells l)[1]?) fun t =>
   Option.bind (PV.asI .i64 t) fun u =>
   ZMe n d 0 u 0 b (b.length:Int) 0 e f l q 0 [] []
    (fun (v:Cs)(z A B C:Int)(D:PV)(E F:Int)(G H:Rs) =>
     Option.bind (Zra v 0 4) fun I =>
     Option.bind (Z6c [I,.int .i64 z,.int .i64 0]) fun J =>
     Option.bind ((PV.cells D)[2]?) fun K =>
     Option.bind (PV.asI .i64 K) fun L =>
     cond (decide ((IntKind.i64.wrap (A + J)) > L)) (
      k0 false 0 0) (
      k1 true E (IntKind.i64.wrap (A + J)) G H)) k0
  else none
 else none
def Zal {R:Type} (n:Nat)(i1 i2 i3 i4:Rs)(a:Int)(b:Rs)(k:Rs→Rs→Int→Int→Bool→Option R):Option R :=
 cond (decide (a < (0:Int))) (
  ZEg n a b [.fs i1,.fs i2,.fs i3,.fs i4] true 0 0
   (fun (b7:Bool)(i8 i9:Int) =>
    k [] [] i8 i9 b7)
   (fun (d:Int)(e:Rs)(f:Cs)(g i:Int) =>
    Zqg n d e f g i
     (fun (j:Bool)(i16 l:Int) =>
      k [] [] i16 l j)
     (fun (o:Bool)(q t:Int)(u v:Rs) =>
      k u v q t o))) (
  cond (decide (a ≥ (i1.length:Int))) (
   ZEg n a b [.fs i1,.fs i2,.fs i3,.fs i4] true 0 0
    (fun (z:Bool)(A B:Int) =>
     k [] [] A B z)
    (fun (C:Int)(D:Rs)(E:Cs)(F G:Int) =>
     Zqg n C D E F G
      (fun (H:Bool)(i32 I:Int) =>
       k [] [] i32 I H)
      (fun (J:Bool)(K L:Int)(M N:Rs) =>
       k M N K L J))) (
   Option.bind (Z1e i1 i2 i3 i4 b) fun O =>
   ZEg n a b [.fs i1,.fs i2,.fs i3,.fs i4] (!O) 0 0
    (fun (Q:Bool)(U V:Int) =>
     k [] [] U V Q)
    (fun (W:Int)(X:Rs)(Y:Cs)(Z a1:Int) =>
     Zqg n W X Y Z a1
      (fun (b1:Bool)(c1 d1:Int) =>
       k [] [] c1 d1 b1)
      (fun (e1:Bool)(f1 g1:Int)(h1 j1:Rs) =>
       k h1 j1 f1 g1 e1))))
def ZtB (y:Rs × Rs × Int × Int × Bool):PV × Cs:=((PV.tuple [.agg [.fs y.1,.fs y.2.1,.int .i64 y.2.2.1,.int .i64 y.2.2.2.1],.bool y.2.2.2.2]),[])
def Zjg (n:Nat)(a:Cs)(b d e:Int)(f:Rs)(g i:Int)(j:Bool)(l o:Int)(q:PV)(t u:Int)(v z:Rs)(A:PV):Option ((Bool × Int × Int) ⊕ ((Cs) × Int × Int × Int × Rs × Int × Int × Int × Int × PV × Int × Int × Rs × Rs × PV)) :=
 cond j (
  some (Sum.inl (false,0,0))) (
  some (Sum.inr (a,b,d,e,f,g,i,l,o,q,t,u,v,z,A)))
theorem Zqm {R:Type} (n:Nat)(a:Cs)(b d e:Int)(f:Rs)(g i:Int)(j:Bool)(l o:Int)(q:PV)(t u:Int)(v z:Rs)(A:PV)(k0:Bool→Int→Int→Option R)(k1:Cs→Int→Int→Int→Rs→Int→Int→Int→Int→PV→Int→Int→Rs→Rs→PV→Option R):Tw (Zjg n a b d e f g i j l o q t u v z A) (Zyf n a b d e f g i j l o q t u v z A k0 k1) (fun s=>match s with | (Sum.inl (a0,a1,a2))=>k0 a0 a1 a2 | (Sum.inr (a0,a1,a2,a3,a4,a5,a6,a7,a8,a9,B,C,D,E,F))=>k1 a0 a1 a2 a3 a4 a5 a6 a7 a8 a9 B C D E F):=by
 unfold Zjg Zyf
 refine Zha (fun _=>?_) (fun _=>?_)
 ·exact Zda rfl
 ·exact Zda rfl
def Zhg (n:Nat)(a:Cs)(b d e:Int)(f:Rs)(g i j l:Int)(o:PV)(q t:Int)(u v:Rs)(z:PV):Option (((Cs) × Int × Int × Int × Rs × Int × Int × Int × Int × PV × Int × Int × Rs × Rs)) :=
 if (u.length + ([[.int .i64 e]]:Rs).length) * 8≤Zla then
  if (v.length + ([[.int .i64 b]]:Rs).length) * 8≤Zla then
   Option.bind ((PV.cells z)[3]?) fun A =>
   Option.bind (PV.asI .i64 A) fun B =>
   some (a,d,(IntKind.i64.wrap (e + B)),b,f,g,i,j,l,o,q,t,(u ++ [[.int .i64 e]]),(v ++ [[.int .i64 b]]))
  else none
 else none
theorem ZLm {R:Type} (n:Nat)(a:Cs)(b d e:Int)(f:Rs)(g i j l:Int)(o:PV)(q t:Int)(u v:Rs)(z:PV)(k0:Cs→Int→Int→Int→Rs→Int→Int→Int→Int→PV→Int→Int→Rs→Rs→Option R):Tw (Zhg n a b d e f g i j l o q t u v z) (Zpf n a b d e f g i j l o q t u v z k0) (fun s=>match s with | (a0,a1,a2,a3,a4,a5,a6,a7,a8,a9,A,B,C,D)=>k0 a0 a1 a2 a3 a4 a5 a6 a7 a8 a9 A B C D):=by
 unfold Zhg Zpf
 intro s hs
 obtain ⟨E,hs⟩:=ZSa hs
 obtain ⟨F,hs⟩:=ZSa hs
 obtain ⟨G,H,hs⟩:=Zba hs
 obtain ⟨I,J,hs⟩:=Zba hs
 cases hs
 simp only [E,F,H,J,Option.bind_some,cond_true,cond_false,if_true,if_false,ite_true,ite_false,ZGa,and_self,true_and,and_true,eq_self,not_true_eq_false,not_false_eq_true,Bool.false_eq_true,reduceCtorEq]
def Zmf:Nat→Cs→Int→Int→Int→Rs→Int→Int→Int→Int→PV→Int→Int→Rs→Rs→Option (((Cs) × Int × Int × Int × Int × PV × Int × Int × Rs × Rs) ⊕ (Bool × Int × Int))
 | 0,_,_,_,_,_,_,_,_,_,_,_,_,_,_=>none
 | n + 1,a,b,d,e,f,g,i,j,i64,l,o,q,t,u =>
  cond (decide (i < g)) (
   Option.bind (idx f i) fun v =>
   if v.length=1 then
    Option.bind (v[0]?) fun z =>
    Option.bind (PV.asI .i64 z) fun A =>
    Option.bind (a[1]?) fun B =>
    Option.bind (PV.asFs B) fun C =>
    Option.bind (idx C (IntKind.i64.wrap (A - (1:Int)))) fun D =>
    if D.length=4 then
     Option.bind (Zra D 0 4) fun E =>
     if (PV.isAgg E 4)=true then
      Option.bind (Zra a 0 4) fun F =>
      Option.bind (Z6c [F,.int .i64 b,.int .i64 A]) fun G =>
      Option.bind ((PV.cells E)[1]?) fun H =>
      Option.bind (PV.asI .i64 H) fun I =>
      Option.bind ((PV.cells E)[0]?) fun J =>
      Option.bind (PV.asI .i64 J) fun K =>
      Option.bind ((PV.cells E)[2]?) fun L =>
      Option.bind (PV.asI .i64 L) fun M =>
      cond (decide ((if I < (IntKind.i64.wrap (d + G)) then (IntKind.i64.wrap (d + G)) else I) > M)) (
       Option.bind (Zjg n a (IntKind.i64.wrap (e + K)) A (if I < (IntKind.i64.wrap (d + G)) then (IntKind.i64.wrap (d + G)) else I) f g i true j i64 l o q t u E) fun s=>match s with
        | (Sum.inl (N,O,Q)) =>
         some (Sum.inr (N,O,Q))
        | (Sum.inr (U,V,W,X,Y,Z,a1,b1,c1,d1,e1,f1,g1,h1,i1)) =>
         Option.bind (Zhg n U V W X Y Z a1 b1 c1 d1 e1 f1 g1 h1 i1) fun s=>match s with
          | (j1,k1,l1,m1,n1,o1,p1,q1,r1,s1,t1,u1,v1,w1) =>
           Zmf n j1 k1 l1 m1 n1 o1 (IntKind.i64.wrap (p1 + (1:Int))) q1 r1 s1 t1 u1 v1 w1) (
       cond (decide ((IntKind.i64.wrap (e + K)) < (0:Int))) (
        Option.bind (Zjg n a (IntKind.i64.wrap (e + K)) A (if I < (IntKind.i64.wrap (d + G)) then (IntKind.i64.wrap (d + G)) else I) f g i true j i64 l o q t u E) fun s=>match s with
         | (Sum.inl (x1,y1,z1)) =>
          some (Sum.inr (x1,y1,z1))
         | (Sum.inr (A1,B1,C1,D1,E1,F1,G1,H1,I1,J1,K1,L1,M1,N1,O1)) =>
          Option.bind (Zhg n A1 B1 C1 D1 E1 F1 G1 H1 I1 J1 K1 L1 M1 N1 O1) fun s=>match s with
           | (P1,Q1,R1,S1,T1,U1,V1,W1,X1,Y1,Z1,a2,b2,c2) =>
            Zmf n P1 Q1 R1 S1 T1 U1 (IntKind.i64.wrap (V1 + (1:Int))) W1 X1 Y1 Z1 a2 b2 c2) (
        Option.bind ((PV.cells l)[0]?) fun d2 =>
        Option.bind (PV.asI .i64 d2) fun e2 =>
        Option.bind (Zjg n a (IntKind.i64.wrap (e + K)) A (if I < (IntKind.i64.wrap (d + G)) then (IntKind.i64.wrap (d + G)) else I) f g i (decide ((IntKind.i64.wrap (e + K)) > e2)) j i64 l o q t u E) fun s=>match s with
         | (Sum.inl (f2,g2,h2)) =>
          some (Sum.inr (f2,g2,h2))
         | (Sum.inr (i2,j2,k2,l2,m2,n2,o2,p2,q2,r2,s2,t2,u2,v2,w2)) =>
          Option.bind (Zhg n i2 j2 k2 l2 m2 n2 o2 p2 q2 r2 s2 t2 u2 v2 w2) fun s=>match s with
           | (x2,y2,z2,A2,B2,C2,D2,E2,F2,G2,H2,I2,J2,K2) =>
            Zmf n x2 y2 z2 A2 B2 C2 (IntKind.i64.wrap (D2 + (1:Int))) E2 F2 G2 H2 I2 J2 K2))
     else none
    else none
   else none) (
   some (Sum.inl (a,b,d,j,i64,l,o,q,t,u)))
theorem ZoG {R:Type} (n:Nat)(a:Cs)(b d e:Int)(f:Rs)(g i j i64:Int)(l:PV)(o q:Int)(t u:Rs)(k0:Cs→Int→Int→Int→Int→PV→Int→Int→Rs→Rs→Option R)(k1:Bool→Int→Int→Option R):Tw (Zmf n a b d e f g i j i64 l o q t u) (ZMe n a b d e f g i j i64 l o q t u k0 k1) (fun s=>match s with | (Sum.inl (a0,a1,a2,a3,a4,a5,a6,a7,a8,a9))=>k0 a0 a1 a2 a3 a4 a5 a6 a7 a8 a9 | (Sum.inr (a0,a1,a2))=>k1 a0 a1 a2):=by
 induction n generalizing a b d e f g i j i64 l o q t u with
 | zero=>exact Zwa
 | succ n ih =>
  unfold Zmf ZMe
  refine Zha (fun _=>?_) (fun _=>?_)
  ·refine Zaa fun v _=>?_
   refine Zqa fun _=>?_
   refine Zaa fun z _=>?_
   refine Zaa fun A _=>?_
   refine Zaa fun B _=>?_
   refine Zaa fun C _=>?_
   refine Zaa fun D _=>?_
   refine Zqa fun _=>?_
   refine Zaa fun E _=>?_
   refine Zqa fun _=>?_
   refine Zaa fun F _=>?_
   refine Zaa fun G _=>?_
   refine Zaa fun H _=>?_
   refine Zaa fun I _=>?_
   refine Zaa fun J _=>?_
   refine Zaa fun K _=>?_
   refine Zaa fun L _=>?_
   refine Zaa fun M _=>?_
   refine Zha (fun _=>?_) (fun _=>?_)
   ·refine Zma (Zqm _ _ _ _ _ _ _ _ _ _ _ _ _ _ _ _ _ _ _) (fun s=>?_)
    rcases s with ⟨N,O,Q⟩ | ⟨U,V,W,X,Y,Z,b1,c1,d1,e1,f1,g1,h1,i1,j1⟩
    ·exact Zda rfl
    ·refine Zma (ZLm _ _ _ _ _ _ _ _ _ _ _ _ _ _ _ _ _) (fun s=>?_)
     rcases s with ⟨l1,m1,n1,o1,p1,q1,r1,s1,t1,u1,v1,w1,x1,y1⟩
     ·exact ih _ _ _ _ _ _ _ _ _ _ _ _ _ _
   ·refine Zha (fun _=>?_) (fun _=>?_)
    ·refine Zma (Zqm _ _ _ _ _ _ _ _ _ _ _ _ _ _ _ _ _ _ _) (fun s=>?_)
     rcases s with ⟨z1,A1,B1⟩ | ⟨C1,D1,E1,F1,G1,H1,I1,J1,K1,L1,M1,N1,O1,P1,Q1⟩
     ·exact Zda rfl
     ·refine Zma (ZLm _ _ _ _ _ _ _ _ _ _ _ _ _ _ _ _ _) (fun s=>?_)
      rcases s with ⟨R1,S1,T1,U1,V1,W1,X1,Y1,Z1,b2,c2,d2,e2,f2⟩
      ·exact ih _ _ _ _ _ _ _ _ _ _ _ _ _ _
    ·refine Zaa fun g2 _=>?_
     refine Zaa fun h2 _=>?_
     refine Zma (Zqm _ _ _ _ _ _ _ _ _ _ _ _ _ _ _ _ _ _ _) (fun s=>?_)
     rcases s with ⟨i2,j2,k2⟩ | ⟨l2,m2,n2,o2,p2,q2,r2,s2,t2,u2,v2,w2,x2,y2,z2⟩
     ·exact Zda rfl
     ·refine Zma (ZLm _ _ _ _ _ _ _ _ _ _ _ _ _ _ _ _ _) (fun s=>?_)
      rcases s with ⟨A2,B2,C2,D2,E2,F2,G2,H2,I2,J2,K2,L2,M2,N2⟩
      ·exact ih _ _ _ _ _ _ _ _ _ _ _ _ _ _
  ·exact Zda rfl
def ZNh (n:Nat)(a:Int)(b:Rs)(d:Cs)(e:Bool)(f g:Int):Option ((Bool × Int × Int) ⊕ (Int × Rs × (Cs) × Int × Int)) :=
 cond e (
  some (Sum.inl (false,0,0))) (
  some (Sum.inr (a,b,d,f,g)))
theorem Zdo {R:Type} (n:Nat)(a:Int)(b:Rs)(d:Cs)(e:Bool)(f g:Int)(k0:Bool→Int→Int→Option R)(k1:Int→Rs→Cs→Int→Int→Option R):Tw (ZNh n a b d e f g) (ZEg n a b d e f g k0 k1) (fun s=>match s with | (Sum.inl (a0,a1,a2))=>k0 a0 a1 a2 | (Sum.inr (a0,a1,a2,a3,a4))=>k1 a0 a1 a2 a3 a4):=by
 unfold ZNh ZEg
 refine Zha (fun _=>?_) (fun _=>?_)
 ·exact Zda rfl
 ·exact Zda rfl
def ZLh (n:Nat)(a:Int)(b:Rs)(d:Cs)(e f:Int):Option ((Bool × Int × Int) ⊕ (Bool × Int × Int × Rs × Rs)) :=
 Option.bind (d[0]?) fun g =>
 Option.bind (PV.asFs g) fun i =>
 Option.bind (idx i a) fun j =>
 if j.length=3 then
  Option.bind (Zra j 0 3) fun l =>
  if (PV.isAgg l 3)=true then
   Option.bind (Zra d 0 4) fun o =>
   Option.bind (Z9f [o,.fs b]) fun q =>
   Option.bind ((PV.cells l)[1]?) fun t =>
   Option.bind (PV.asI .i64 t) fun u =>
   Option.bind (Zmf n d 0 u 0 b (b.length:Int) 0 e f l q 0 [] []) fun s=>match s with
    | (Sum.inl (v,z,A,B,C,D,E,F,G,H)) =>
     Option.bind (Zra v 0 4) fun I =>
     Option.bind (Z6c [I,.int .i64 z,.int .i64 0]) fun J =>
     Option.bind ((PV.cells D)[2]?) fun K =>
     Option.bind (PV.asI .i64 K) fun L =>
     cond (decide ((IntKind.i64.wrap (A + J)) > L)) (
      some (Sum.inl (false,0,0))) (
      some (Sum.inr (true,E,(IntKind.i64.wrap (A + J)),G,H)))
    | (Sum.inr (M,N,O)) =>
     some (Sum.inl (M,N,O))
  else none
 else none
theorem ZEo {R:Type} (n:Nat)(a:Int)(b:Rs)(d:Cs)(e f:Int)(k0:Bool→Int→Int→Option R)(k1:Bool→Int→Int→Rs→Rs→Option R):Tw (ZLh n a b d e f) (Zqg n a b d e f k0 k1) (fun s=>match s with | (Sum.inl (a0,a1,a2))=>k0 a0 a1 a2 | (Sum.inr (a0,a1,a2,a3,a4))=>k1 a0 a1 a2 a3 a4):=by
 unfold ZLh Zqg
 refine Zaa fun g _=>?_
 refine Zaa fun i _=>?_
 refine Zaa fun j _=>?_
 refine Zqa fun _=>?_
 refine Zaa fun l _=>?_
 refine Zqa fun _=>?_
 refine Zaa fun o _=>?_
 refine Zaa fun q _=>?_
 refine Zaa fun t _=>?_
 refine Zaa fun u _=>?_
 refine Zma (ZoG _ _ _ _ _ _ _ _ _ _ _ _ _ _ _ _ _) (fun s=>?_)
 rcases s with ⟨v,z,A,B,C,D,E,F,G,H⟩ | ⟨I,J,K⟩
 ·refine Zaa fun L _=>?_
  refine Zaa fun M _=>?_
  refine Zaa fun N _=>?_
  refine Zaa fun O _=>?_
  refine Zha (fun _=>?_) (fun _=>?_)
  ·exact Zda rfl
  ·exact Zda rfl
 ·exact Zda rfl
def ZHk (i1 i2 i3 i4:Rs)(a:Int)(b:Rs):Option (Rs × Rs × Int × Int × Bool) :=
 cond (decide (a < (0:Int))) (
  Option.bind (ZNh 9223372036854775808 a b [.fs i1,.fs i2,.fs i3,.fs i4] true 0 0) fun s=>match s with
   | (Sum.inl (b7,i8,i9)) =>
    some ([],[],i8,i9,b7)
   | (Sum.inr (d,e,f,g,i)) =>
    Option.bind (ZLh 9223372036854775808 d e f g i) fun s=>match s with
     | (Sum.inl (j,i16,l)) =>
      some ([],[],i16,l,j)
     | (Sum.inr (o,q,t,u,v)) =>
      some (u,v,q,t,o)) (
  cond (decide (a ≥ (i1.length:Int))) (
   Option.bind (ZNh 9223372036854775808 a b [.fs i1,.fs i2,.fs i3,.fs i4] true 0 0) fun s=>match s with
    | (Sum.inl (z,A,B)) =>
     some ([],[],A,B,z)
    | (Sum.inr (C,D,E,F,G)) =>
     Option.bind (ZLh 9223372036854775808 C D E F G) fun s=>match s with
      | (Sum.inl (H,i32,I)) =>
       some ([],[],i32,I,H)
      | (Sum.inr (J,K,L,M,N)) =>
       some (M,N,K,L,J)) (
   Option.bind (Z1e i1 i2 i3 i4 b) fun O =>
   Option.bind (ZNh 9223372036854775808 a b [.fs i1,.fs i2,.fs i3,.fs i4] (!O) 0 0) fun s=>match s with
    | (Sum.inl (Q,U,V)) =>
     some ([],[],U,V,Q)
    | (Sum.inr (W,X,Y,Z,a1)) =>
     Option.bind (ZLh 9223372036854775808 W X Y Z a1) fun s=>match s with
      | (Sum.inl (b1,c1,d1)) =>
       some ([],[],c1,d1,b1)
      | (Sum.inr (e1,f1,g1,h1,j1)) =>
       some (h1,j1,f1,g1,e1)))
theorem ZNJ {R:Type} (i1 i2 i3 i4:Rs)(a:Int)(b:Rs)(k:Rs→Rs→Int→Int→Bool→Option R):Tw (ZHk i1 i2 i3 i4 a b) (Zal 9223372036854775808 i1 i2 i3 i4 a b k) (fun s=>match s with | (a0,a1,a2,a3,a4)=>k a0 a1 a2 a3 a4):=by
 unfold ZHk Zal
 refine Zha (fun _=>?_) (fun _=>?_)
 ·refine Zma (Zdo _ _ _ _ _ _ _ _ _) (fun s=>?_)
  rcases s with ⟨b7,i8,i9⟩ | ⟨d,e,f,g,i⟩
  ·exact Zda rfl
  ·refine Zma (ZEo _ _ _ _ _ _ _ _) (fun s=>?_)
   rcases s with ⟨j,i16,l⟩ | ⟨o,q,t,u,v⟩
   ·exact Zda rfl
   ·exact Zda rfl
 ·refine Zha (fun _=>?_) (fun _=>?_)
  ·refine Zma (Zdo _ _ _ _ _ _ _ _ _) (fun s=>?_)
   rcases s with ⟨z,A,B⟩ | ⟨C,D,E,F,G⟩
   ·exact Zda rfl
   ·refine Zma (ZEo _ _ _ _ _ _ _ _) (fun s=>?_)
    rcases s with ⟨H,i32,I⟩ | ⟨J,K,L,M,N⟩
    ·exact Zda rfl
    ·exact Zda rfl
  ·refine Zaa fun O _=>?_
   refine Zma (Zdo _ _ _ _ _ _ _ _ _) (fun s=>?_)
   rcases s with ⟨Q,U,V⟩ | ⟨W,X,Y,Z,b1⟩
   ·exact Zda rfl
   ·refine Zma (ZEo _ _ _ _ _ _ _ _) (fun s=>?_)
    rcases s with ⟨c1,d1,e1⟩ | ⟨f1,g1,h1,j1,k1⟩
    ·exact Zda rfl
    ·exact Zda rfl
theorem ZDJ:∀ (i1 i2 i3 i4:Rs)(a:Int)(b:Rs)(y:Rs × Rs × Int × Int × Bool),ZHk i1 i2 i3 i4 a b=some y→∃ n,∀ (R:Type)(k:Rs→Rs→Int→Int→Bool→Option R),Zal n i1 i2 i3 i4 a b k=k y.1 y.2.1 y.2.2.1 y.2.2.2.1 y.2.2.2.2:=fun i1 i2 i3 i4 a b y h=>⟨9223372036854775808,fun R k=>ZNJ i1 i2 i3 i4 a b k y h⟩
def Zil:Cs→Option (Rs × Rs × Int × Int × Bool)
 | [.agg [.fs i1,.fs i2,.fs i3,.fs i4],.int .i64 a,.fs b]=>ZHk i1 i2 i3 i4 a b
 | _=>none
def Zwe:List (Nat × Cal):=[(127,.ctr Ztr),(128,.ctr Z1q),(109,.ctr ZKo),(1000000003,ro_I)]
def Zbu:Ctr:=⟨[none,none,none],Rs × Rs × Int × Int × Bool,Zil,ZtB,false,.d⟩
def Zzc:List (Nat × LC):=[(4000003,⟨[1,2,3,6,31],[],[],[],[3]⟩),
 (6000003,⟨[6,7],[],[],[],[]⟩),
 (5000003,⟨[1,2,3,6],[],[],[],[]⟩),
 (7,⟨[3,6,8,9,10,11,12,44,45,46],[],[],[(9,0),(9,1)],[]⟩),
 (4000004,⟨[1,2,3,6],[],[],[],[]⟩),
 (2000007,⟨[6,7],[],[],[],[]⟩),
 (4000014,⟨[3,6,8,9,12,14,15,16,44,45,46,82],[],[],[],[]⟩),
 (1007000,⟨[3,6,8,9,10,11],[],[],[],[]⟩),
 (6000004,⟨[6,7],[],[],[],[]⟩),
 (6000014,⟨[6,7],[],[],[],[]⟩),
 (5000014,⟨[3,6,8,9,12,14,15,16,44,45,46],[],[],[],[]⟩),
 (4000015,⟨[3,6,8,9,12,14,15,16,44,45,46],[],[],[],[]⟩),
 (5000015,⟨[3,6,8,9,10,11,12,44,45,46],[],[],[],[]⟩)]
def ZAo:SP:=⟨Zea .undef [(3,(.val (.rp 0))),(6,(.ref 0 0)),(8,(.ref 1 0)),(9,(.ref 2 0)),(12,(.val (.int .i64))),(14,(.val (.int .i64))),(15,(.ref 5 0)),(16,(.val (.int .i64))),(44,(.val .fs)),(45,(.val (.int .i64))),(46,(.val (.int .i64))),(82,(.val .bool))] 0 115,[(.box [(.nil 1),(.nil 1),(.val (.int .i64)),(.val (.int .i64))]),(.pbox .any 3),(.box [(.ow 3),(.ow 4),(.val (.int .i64)),(.val (.int .i64))]),(.row 1),(.row 1),(.pbox .any 4)],[]⟩
def Zto:SP:=⟨Zea .undef [(3,(.val (.rp 0))),(6,(.ref 0 0)),(8,(.ref 1 0)),(9,(.ref 2 0)),(12,(.val (.int .i64))),(14,(.val (.int .i64))),(15,(.ref 5 0)),(16,(.val (.int .i64))),(44,(.val .fs)),(45,(.val (.int .i64))),(46,(.val (.int .i64)))] 0 115,[(.box [(.nil 1),(.nil 1),(.val (.int .i64)),(.val (.int .i64))]),(.pbox .any 3),(.box [(.ow 3),(.ow 4),(.val (.int .i64)),(.val (.int .i64))]),(.row 1),(.row 1),(.pbox .any 4)],[]⟩
def ZDr:SP:=⟨Zea .undef [(3,(.val (.rp 0))),(6,(.ref 0 0)),(8,(.ref 1 0)),(9,(.ref 2 0)),(10,(.val (.int .i64))),(11,(.val (.int .i64))),(12,(.val (.int .i64))),(44,(.val .fs)),(45,(.val (.int .i64))),(46,(.val (.int .i64)))] 0 115,[(.box [(.nil 1),(.nil 1),(.val (.int .i64)),(.val (.int .i64))]),(.pbox .any 3),(.box [(.ow 3),(.ow 4),(.val (.int .i64)),(.val (.int .i64))]),(.row 1),(.row 1)],[]⟩
def Znq:SP:=⟨Zea .undef [(1,(.val (.int .i64))),(2,(.val .fs)),(3,(.val (.rp 0))),(6,(.ref 0 0)),(31,(.val .bool))] 0 115,[(.box [(.nil 1),(.nil 1),(.val (.int .i64)),(.val (.int .i64))])],[]⟩
def ZPp:SP:=⟨Zea .undef [(1,(.val (.int .i64))),(2,(.val .fs)),(3,(.val (.rp 0))),(6,(.ref 0 0))] 0 115,[(.box [(.nil 1),(.nil 1),(.val (.int .i64)),(.val (.int .i64))])],[]⟩
def ZYx:Nat→Option SP
 | 7=>some ZDr
 | _=>none
def ZXv:Nat→Option SP
 | 14=>some ZAo
 | 15=>some Zto
 | 3=>some Znq
 | 4=>some ZPp
 | _=>none
def Zml (n:Nat)(ls:List Leaf)(R:Type)(k:Ex→St→Option R):Option R :=
 match ls with
 | [.cells a,.int b,.int d,.int e,.rows f,.int g,.int i,.bool j,.int l,.int o,.pv q,.int t,.int u,.rows v,.rows z,.pv A]=>Zyf n a b d e f g i j l o q t u v z A (fun B C D=>k .ret ⟨Zea .undef [(6,(TV.ref 0 0)),(7,(TV.val (PV.bool B)))] 0 115,[(Ob.box [(TV.nil 1),(TV.nil 1),(TV.val (PV.int .i64 C)),(TV.val (PV.int .i64 D))])],[]⟩)
   (fun E F G H I J K L M N O Q U V W=>k .normal ⟨Zea .undef [(3,(TV.val (PV.rp E 0))),(6,(TV.ref 0 0)),(8,(TV.ref 1 0)),(9,(TV.ref 2 0)),(12,(TV.val (PV.int .i64 F))),(14,(TV.val (PV.int .i64 G))),(15,(TV.ref 5 0)),(16,(TV.val (PV.int .i64 H))),(44,(TV.val (PV.fs I))),(45,(TV.val (PV.int .i64 J))),(46,(TV.val (PV.int .i64 K)))] 0 115,[(Ob.box [(TV.nil 1),(TV.nil 1),(TV.val (PV.int .i64 L)),(TV.val (PV.int .i64 M))]),(Ob.pbox N 3),(Ob.box [(TV.ow 3),(TV.ow 4),(TV.val (PV.int .i64 O)),(TV.val (PV.int .i64 Q))]),(Ob.row U 1),(Ob.row V 1),(Ob.pbox W 4)],[]⟩)
 | _=>none
def Zyl (n:Nat)(ls:List Leaf)(R:Type)(k:Ex→St→Option R):Option R :=
 match ls with
 | [.cells a,.int b,.int d,.int e,.rows f,.int g,.int i,.int j,.int l,.pv o,.int q,.int t,.rows u,.rows v,.pv z]=>Zpf n a b d e f g i j l o q t u v z (fun A B C D E F G H I J K L M N=>k .normal ⟨Zea .undef [(3,(TV.val (PV.rp A 0))),(6,(TV.ref 0 0)),(8,(TV.ref 1 0)),(9,(TV.ref 2 0)),(10,(TV.val (PV.int .i64 B))),(11,(TV.val (PV.int .i64 C))),(12,(TV.val (PV.int .i64 D))),(44,(TV.val (PV.fs E))),(45,(TV.val (PV.int .i64 F))),(46,(TV.val (PV.int .i64 G)))] 0 115,[(Ob.box [(TV.nil 1),(TV.nil 1),(TV.val (PV.int .i64 H)),(TV.val (PV.int .i64 I))]),(Ob.pbox J 3),(Ob.box [(TV.ow 3),(TV.ow 4),(TV.val (PV.int .i64 K)),(TV.val (PV.int .i64 L))]),(Ob.row M 1),(Ob.row N 1)],[]⟩)
 | _=>none
def Zzg (n:Nat)(ls:List Leaf)(R:Type)(k:Ex→St→Option R):Option R :=
 match ls with
 | [.cells a,.int b,.int d,.int e,.rows f,.int g,.int i,.int j,.int i64,.pv l,.int o,.int q,.rows t,.rows u]=>ZMe n a b d e f g i j i64 l o q t u (fun v z A B C D E F G H=>k (.exit 0) ⟨Zea .undef [(3,(TV.val (PV.rp v 0))),(6,(TV.ref 0 0)),(8,(TV.ref 1 0)),(9,(TV.ref 2 0)),(10,(TV.val (PV.int .i64 z))),(11,(TV.val (PV.int .i64 A)))] 0 115,[(Ob.box [(TV.nil 1),(TV.nil 1),(TV.val (PV.int .i64 B)),(TV.val (PV.int .i64 C))]),(Ob.pbox D 3),(Ob.box [(TV.ow 3),(TV.ow 4),(TV.val (PV.int .i64 E)),(TV.val (PV.int .i64 F))]),(Ob.row G 1),(Ob.row H 1)],[]⟩)
   (fun I J K=>k .ret ⟨Zea .undef [(6,(TV.ref 0 0)),(7,(TV.val (PV.bool I)))] 0 115,[(Ob.box [(TV.nil 1),(TV.nil 1),(TV.val (PV.int .i64 J)),(TV.val (PV.int .i64 K))])],[]⟩)
 | _=>none
def ZHm (n:Nat)(ls:List Leaf)(R:Type)(k:Ex→St→Option R):Option R :=
 match ls with
 | [.int a,.rows b,.cells d,.bool e,.int f,.int g]=>ZEg n a b d e f g (fun i j l=>k .ret ⟨Zea .undef [(6,(TV.ref 0 0)),(7,(TV.val (PV.bool i)))] 0 115,[(Ob.box [(TV.nil 1),(TV.nil 1),(TV.val (PV.int .i64 j)),(TV.val (PV.int .i64 l))])],[]⟩)
   (fun o q t u v=>k .normal ⟨Zea .undef [(1,(TV.val (PV.int .i64 o))),(2,(TV.val (PV.fs q))),(3,(TV.val (PV.rp t 0))),(6,(TV.ref 0 0))] 0 115,[(Ob.box [(TV.nil 1),(TV.nil 1),(TV.val (PV.int .i64 u)),(TV.val (PV.int .i64 v))])],[]⟩)
 | _=>none
def Ztn (n:Nat)(ls:List Leaf)(R:Type)(k:Ex→St→Option R):Option R :=
 match ls with
 | [.int a,.rows b,.cells d,.int e,.int f]=>Zqg n a b d e f (fun g i j=>k .ret ⟨Zea .undef [(6,(TV.ref 0 0)),(7,(TV.val (PV.bool g)))] 0 115,[(Ob.box [(TV.nil 1),(TV.nil 1),(TV.val (PV.int .i64 i)),(TV.val (PV.int .i64 j))])],[]⟩)
   (fun l o q t u=>k .ret ⟨Zea .undef [(6,(TV.ref 0 0)),(7,(TV.val (PV.bool l)))] 0 115,[(Ob.box [(TV.ow 1),(TV.ow 2),(TV.val (PV.int .i64 o)),(TV.val (PV.int .i64 q))]),(Ob.row t 1),(Ob.row u 1)],[]⟩)
 | _=>none
def ZNB (n key:Nat) (ls:List Leaf) (R:Type) (k:Ex→St→Option R):Option R :=
 match key with
 | 7=>Zzg n ls R k
 | _=>none
def ZbB (n key:Nat) (ls:List Leaf) (R:Type) (k:Ex→St→Option R):Option R :=
 match key with
 | 14=>Zml n ls R k
 | 15=>Zyl n ls R k
 | 3=>ZHm n ls R k
 | 4=>Ztn n ls R k
 | _=>none
def ZKs:Code→Bool:=onKeys [4,3,15,14]
def Zki:Nat→Loops:=patL (Zsa Zzc) ZYx ZNB (ZCa Zzc) ZKs ZXv ZbB
theorem ZJD (n:Nat)(a:Cs)(b d e:Int)(f:Rs)(g i j i64:Int)(l:PV)(o q:Int)(t u:Rs)  (R:Type) (k:Ex→St→Option R) :
  Zza T G0 (Zja Zwe) (Zsa Zzc) (Zki n) (Zia [1,1,1,1,1,0,1,0,0] (Zca Tryz.f49)) (Zoa ZDr [.cells a,.int b,.int d,.int e,.rows f,.int g,.int i,.int j,.int i64,.pv l,.int o,.int q,.rows t,.rows u]) R k=Zzg (n + 1) [.cells a,.int b,.int d,.int e,.rows f,.int g,.int i,.int j,.int i64,.pv l,.int o,.int q,.rows t,.rows u] R k:=by kernel_rfl
theorem ZJC (n:Nat)(a:Int)(b:Rs)(d:Cs)(e f:Int)  (R:Type) (k:Ex→St→Option R) :
  Z0a T G0 (Zja Zwe) (ZCa Zzc) (Zki n) (Zia [1,1] (Zca Tryz.f49)) (Zoa ZPp [.int a,.rows b,.cells d,.int e,.int f]) R k=Ztn n [.int a,.rows b,.cells d,.int e,.int f] R k:=by kernel_rfl
theorem ZnC (n:Nat)(a:Int)(b:Rs)(d:Cs)(e:Bool)(f g:Int)  (R:Type) (k:Ex→St→Option R) :
  Z0a T G0 (Zja Zwe) (ZCa Zzc) (Zki n) (Zia [1,0,1] (Zca Tryz.f49)) (Zoa Znq [.int a,.rows b,.cells d,.bool e,.int f,.int g]) R k=ZHm n [.int a,.rows b,.cells d,.bool e,.int f,.int g] R k:=by kernel_rfl
theorem ZsA (n:Nat)(a:Cs)(b d e:Int)(f:Rs)(g i j l:Int)(o:PV)(q t:Int)(u v:Rs)(z:PV)  (R:Type) (k:Ex→St→Option R) :
  Z0a T G0 (Zja Zwe) (ZCa Zzc) (Zki n) (Zia [1,1,1,1,1,0,1,0,0,1,1,0,0,1,1,1,1,1] (Zca Tryz.f49)) (Zoa Zto [.cells a,.int b,.int d,.int e,.rows f,.int g,.int i,.int j,.int l,.pv o,.int q,.int t,.rows u,.rows v,.pv z]) R k=Zyl n [.cells a,.int b,.int d,.int e,.rows f,.int g,.int i,.int j,.int l,.pv o,.int q,.int t,.rows u,.rows v,.pv z] R k:=by kernel_rfl
theorem Z1A (n:Nat)(a:Cs)(b d e:Int)(f:Rs)(g i:Int)(j:Bool)(l o:Int)(q:PV)(t u:Int)(v z:Rs)(A:PV)  (R:Type) (k:Ex→St→Option R) :
  Z0a T G0 (Zja Zwe) (ZCa Zzc) (Zki n) (Zia [1,1,1,1,1,0,1,0,0,1,1,0,0,1,1,1,1,0,1] (Zca Tryz.f49)) (Zoa ZAo [.cells a,.int b,.int d,.int e,.rows f,.int g,.int i,.bool j,.int l,.int o,.pv q,.int t,.int u,.rows v,.rows z,.pv A]) R k=Zml n [.cells a,.int b,.int d,.int e,.rows f,.int g,.int i,.bool j,.int l,.int o,.pv q,.int t,.int u,.rows v,.rows z,.pv A] R k:=by kernel_rfl
theorem Z5I (n:Nat)(i1 i2 i3 i4:Rs)(a:Int)(b:Rs) :
  funK T G0 (Zja Zwe) (Zki n) .d false [none,none,none] (Zfa Tryz.f49) [.agg [.fs i1,.fs i2,.fs i3,.fs i4],.int .i64 a,.fs b]=Zal n  i1 i2 i3 i4 a b (fun a0 a1 a2 a3 a4=>some (ZtB (a0,a1,a2,a3,a4))):=by kernel_rfl
theorem ZDH {ps:Cs} {y:Rs × Rs × Int × Int × Bool} (h:Zil ps=some y):∃ (i1:Rs) (i2:Rs) (i3:Rs) (i4:Rs) (a:Int) (b:Rs),ps=[.agg [.fs i1,.fs i2,.fs i3,.fs i4],.int .i64 a,.fs b]:=by
 unfold Zil at h
 split at h
 ·exact ⟨_,_,_,_,_,_,rfl⟩
 ·cases h
theorem Zzt:Zpa (Zca Tryz.f49)=[Zia [1,1,1,1,1,0,1,0,0] (Zca Tryz.f49)]:=by kernel_rfl
theorem ZIE:(ZAa (Zca Tryz.f49)).filter ZKs=[Zia [1,1] (Zca Tryz.f49),Zia [1,0,1] (Zca Tryz.f49),Zia [1,1,1,1,1,0,1,0,0,1,1,0,0,1,1,1,1,1] (Zca Tryz.f49),Zia [1,1,1,1,1,0,1,0,0,1,1,0,0,1,1,1,1,0,1] (Zca Tryz.f49)]:=by kernel_rfl
theorem ZqD (hΓ:Zga Tryz.prog G0 Zwe) (hok:∀ (i1 i2 i3 i4:Rs)(a:Int)(b:Rs)(y:Rs × Rs × Int × Int × Bool),ZHk i1 i2 i3 i4 a b=some y→∃ n,∀ (R:Type)(k:Rs→Rs→Int→Int→Bool→Option R),Zal n  i1 i2 i3 i4 a b k=k y.1 y.2.1 y.2.2.1 y.2.2.2.1 y.2.2.2.2):Zka Tryz.prog G0 49 Zbu:=by
 refine ZHa mixed tOk (Zna hΓ) Tryz.func49 rfl rfl rfl rfl (F:=Zfa Tryz.f49) (ZBa Zzc) (pat:=ZYx) (L:=ZNB) (ZFa Zzc) (on:=ZKs) (patj:=ZXv) (J:=ZbB) (fun c hc ls R k=>?_) (fun c hc p hp m ls R k r h=>?_) (fun c hc p hp m ls R k r h=>?_) (fun ps x h=>?_)
 ·rw [show (Zfa Tryz.f49).code=Zca Tryz.f49 from rfl,Zzt] at hc
  simp only [List.mem_cons,List.not_mem_nil,or_false] at hc
  rcases hc with rfl
  ·show Zzg 0 ls R k=none
   unfold Zzg
   split
   ·rfl
   ·rfl
 ·rw [show (Zfa Tryz.f49).code=Zca Tryz.f49 from rfl,Zzt] at hc
  simp only [List.mem_cons,List.not_mem_nil,or_false] at hc
  rcases hc with rfl
  ·obtain rfl:ZDr=p:=Option.some.inj hp
   change Zzg (m + 1) ls R k=some r at h
   have h':=h
   unfold Zzg at h'
   split at h'
   ·exact (ZJD m _ _ _ _ _ _ _ _ _ _ _ _ _ _ R k).trans h
   ·cases h'
 ·rw [show (Zfa Tryz.f49).code=Zca Tryz.f49 from rfl,ZIE] at hc
  simp only [List.mem_cons,List.not_mem_nil,or_false] at hc
  rcases hc with rfl | rfl | rfl | rfl
  ·obtain rfl:ZPp=p:=Option.some.inj hp
   change Ztn m ls R k=some r at h
   have h':=h
   unfold Ztn at h'
   split at h'
   ·exact (ZJC m _ _ _ _ _ R k).trans h
   ·cases h'
  ·obtain rfl:Znq=p:=Option.some.inj hp
   change ZHm m ls R k=some r at h
   have h':=h
   unfold ZHm at h'
   split at h'
   ·exact (ZnC m _ _ _ _ _ _ R k).trans h
   ·cases h'
  ·obtain rfl:Zto=p:=Option.some.inj hp
   change Zyl m ls R k=some r at h
   have h':=h
   unfold Zyl at h'
   split at h'
   ·exact (ZsA m _ _ _ _ _ _ _ _ _ _ _ _ _ _ _ R k).trans h
   ·cases h'
  ·obtain rfl:ZAo=p:=Option.some.inj hp
   change Zml m ls R k=some r at h
   have h':=h
   unfold Zml at h'
   split at h'
   ·exact (Z1A m _ _ _ _ _ _ _ _ _ _ _ _ _ _ _ _ R k).trans h
   ·cases h'
 ·obtain ⟨y,hy,hx⟩:=Zba h
  cases hx
  obtain ⟨i1,i2,i3,i4,a,b,rfl⟩:=ZDH hy
  obtain ⟨n,hn⟩:=hok i1 i2 i3 i4 a b y hy
  exact ⟨n,(Z5I n i1 i2 i3 i4 a b).trans (hn _ _)⟩
def ZPh {R:Type}:Nat→Cs→Rs→Int→Int→(Int→Option R)→(Unit→Option R)→Option R
 | 0,_,_,_,_,_,_=>none
 | n + 1,a,b,d,e,k0,k1 =>
  cond (decide (e < d)) (
   Option.bind (idx b e) fun f =>
   if f.length=3 then
    Option.bind (Zra f 0 3) fun g =>
    if (PV.isAgg g 3)=true then
     Option.bind (Zra a 0 4) fun i =>
     Option.bind ((PV.cells g)[0]?) fun j =>
     Option.bind (PV.asI .i64 j) fun l =>
     Option.bind ((PV.cells g)[2]?) fun o =>
     Option.bind (PV.asFs o) fun q =>
     Option.bind (Zil [i,.int .i64 l,.fs q]) fun t =>
     cond (!t.2.2.2.2) (
      k0 13) (
      ZPh n a b d (IntKind.i64.wrap (e + (1:Int))) k0 k1)
    else none
   else none) (
   k1 ())
def Zej {R:Type} (n:Nat)(i1 i2 i3 i4 p5 p6 p7 p8 p9 a:Rs)(b d:Int)(e f g:Rs)(k:Int→Option R):Option R :=
 Option.bind (Zjh p5 p6 p7 p8 p9 a b d e f g) fun i =>
 cond (i !=(0:Int)) (
  k i) (
  ZPh n [.fs i1,.fs i2,.fs i3,.fs i4] e (e.length:Int) 0 k
   (fun (_:Unit) =>
    k 0))
def Zyz (y:Int):PV × Cs:=((PV.int .i64 y),[])
def ZUj:Nat→Cs→Rs→Int→Int→Option ((Int) ⊕ (Unit))
 | 0,_,_,_,_=>none
 | n + 1,a,b,d,e =>
  cond (decide (e < d)) (
   Option.bind (idx b e) fun f =>
   if f.length=3 then
    Option.bind (Zra f 0 3) fun g =>
    if (PV.isAgg g 3)=true then
     Option.bind (Zra a 0 4) fun i =>
     Option.bind ((PV.cells g)[0]?) fun j =>
     Option.bind (PV.asI .i64 j) fun l =>
     Option.bind ((PV.cells g)[2]?) fun o =>
     Option.bind (PV.asFs o) fun q =>
     Option.bind (Zil [i,.int .i64 l,.fs q]) fun t =>
     cond (!t.2.2.2.2) (
      some (Sum.inl 13)) (
      ZUj n a b d (IntKind.i64.wrap (e + (1:Int))))
    else none
   else none) (
   some (Sum.inr ()))
theorem ZfE {R:Type} (n:Nat)(a:Cs)(b:Rs)(d e:Int)(k0:Int→Option R)(k1:Unit→Option R):Tw (ZUj n a b d e) (ZPh n a b d e k0 k1) (fun s=>match s with | (Sum.inl a0)=>k0 a0 | (Sum.inr _)=>k1 ()):=by
 induction n generalizing a b d e with
 | zero=>exact Zwa
 | succ n ih =>
  unfold ZUj ZPh
  refine Zha (fun _=>?_) (fun _=>?_)
  ·refine Zaa fun f _=>?_
   refine Zqa fun _=>?_
   refine Zaa fun g _=>?_
   refine Zqa fun _=>?_
   refine Zaa fun i _=>?_
   refine Zaa fun j _=>?_
   refine Zaa fun l _=>?_
   refine Zaa fun o _=>?_
   refine Zaa fun q _=>?_
   refine Zaa fun t _=>?_
   refine Zha (fun _=>?_) (fun _=>?_)
   ·exact Zda rfl
   ·exact ih _ _ _ _
  ·exact Zda rfl
def ZMd (i1 i2 i3 i4 p5 p6 p7 p8 p9 a:Rs)(b d:Int)(e f g:Rs):Option (Int) :=
 Option.bind (Zjh p5 p6 p7 p8 p9 a b d e f g) fun i =>
 cond (i !=(0:Int)) (
  some i) (
  Option.bind (ZUj 9223372036854775808 [.fs i1,.fs i2,.fs i3,.fs i4] e (e.length:Int) 0) fun s=>match s with
   | (Sum.inl j) =>
    some j
   | (Sum.inr _) =>
    some 0)
theorem ZTG {R:Type} (i1 i2 i3 i4 p5 p6 p7 p8 p9 a:Rs)(b d:Int)(e f g:Rs)(k:Int→Option R):Tw (ZMd i1 i2 i3 i4 p5 p6 p7 p8 p9 a b d e f g) (Zej 9223372036854775808 i1 i2 i3 i4 p5 p6 p7 p8 p9 a b d e f g k) (fun s=>match s with | a0=>k a0):=by
 unfold ZMd Zej
 refine Zaa fun i _=>?_
 refine Zha (fun _=>?_) (fun _=>?_)
 ·exact Zda rfl
 ·refine Zma (ZfE _ _ _ _ _ _ _) (fun s=>?_)
  rcases s with j | ⟨⟩
  ·exact Zda rfl
  ·exact Zda rfl
theorem ZuI:∀ (i1 i2 i3 i4 p5 p6 p7 p8 p9 a:Rs)(b d:Int)(e f g:Rs)(y:Int),ZMd i1 i2 i3 i4 p5 p6 p7 p8 p9 a b d e f g=some y→∃ n,∀ (R:Type)(k:Int→Option R),Zej n i1 i2 i3 i4 p5 p6 p7 p8 p9 a b d e f g k=k y:=fun i1 i2 i3 i4 p5 p6 p7 p8 p9 a b d e f g y h=>⟨9223372036854775808,fun R k=>ZTG i1 i2 i3 i4 p5 p6 p7 p8 p9 a b d e f g k y h⟩
def ZHr:Cs→Option (Int)
 | [.agg [.fs i1,.fs i2,.fs i3,.fs i4],.agg [.fs p5,.fs p6,.fs p7,.fs p8,.fs p9,.fs a,.int .i64 b],.int .i64 d,.agg [.fs e,.fs f,.fs g]]=>ZMd i1 i2 i3 i4 p5 p6 p7 p8 p9 a b d e f g
 | _=>none
def Zpn:List (Nat × Cal):=[(48,.ctr ZXq),(49,.ctr Zbu),(1000000004,ro_I),(1000000005,ro_I),(1000000007,ro_I)]
def ZGn:Ctr:=⟨[none,none,none,none],Int,ZHr,Zyz,true,.d⟩
def Z6g:List (Nat × LC):=[(5,⟨[4,22,23,24],[],[],[],[4]⟩),
 (2000005,⟨[8],[],[],[],[]⟩),
 (1005000,⟨[],[],[],[],[]⟩)]
def Z4p:SP:=⟨Zea .undef [(4,(.val (.rp 0))),(22,(.val .fs)),(23,(.val (.int .i64))),(24,(.val (.int .i64)))] 0 40,[],[]⟩
def Z9u:Nat→Option SP
 | 5=>some Z4p
 | _=>none
def ZJt:Nat→Option SP
 | _=>none
def Zlf (n:Nat)(ls:List Leaf)(R:Type)(k:Ex→St→Option R):Option R :=
 match ls with
 | [.cells a,.rows b,.int d,.int e]=>ZPh n a b d e (fun f=>k .ret ⟨Zea .undef [(8,(TV.val (PV.int .i64 f)))] 0 40,[],[]⟩)
   (fun _=>k (.exit 0) ⟨Zea .undef [] 0 40,[],[]⟩)
 | _=>none
def ZbA (n key:Nat) (ls:List Leaf) (R:Type) (k:Ex→St→Option R):Option R :=
 match key with
 | 5=>Zlf n ls R k
 | _=>none
def Zry (n key:Nat) (ls:List Leaf) (R:Type) (k:Ex→St→Option R):Option R :=
 match key with
 | _=>none
def ZJx:Code→Bool:=fun _=>false
def Zmz:Nat→Loops:=patL (Zsa Z6g) Z9u ZbA (ZCa Z6g) ZJx ZJt Zry
theorem ZcC (n:Nat)(a:Cs)(b:Rs)(d e:Int)  (R:Type) (k:Ex→St→Option R) :
  Zza T G0 (Zja Zpn) (Zsa Z6g) (Zmz n) (Zia [1,1,0,1,0,0] (Zca Tryz.f12)) (Zoa Z4p [.cells a,.rows b,.int d,.int e]) R k=Zlf (n + 1) [.cells a,.rows b,.int d,.int e] R k:=by kernel_rfl
theorem ZcI (n:Nat)(i1 i2 i3 i4 p5 p6 p7 p8 p9 a:Rs)(b d:Int)(e f g:Rs) :
  funK T G0 (Zja Zpn) (Zmz n) .d true [none,none,none,none] (Zfa Tryz.f12) [.agg [.fs i1,.fs i2,.fs i3,.fs i4],.agg [.fs p5,.fs p6,.fs p7,.fs p8,.fs p9,.fs a,.int .i64 b],.int .i64 d,.agg [.fs e,.fs f,.fs g]]=Zej n  i1 i2 i3 i4 p5 p6 p7 p8 p9 a b d e f g (fun a0=>some (Zyz a0)):=by kernel_rfl
theorem ZgF {ps:Cs} {y:Int} (h:ZHr ps=some y):∃ (i1:Rs) (i2:Rs) (i3:Rs) (i4:Rs) (p5:Rs) (p6:Rs) (p7:Rs) (p8:Rs) (p9:Rs) (a:Rs) (b:Int) (d:Int) (e:Rs) (f:Rs) (g:Rs),ps=[.agg [.fs i1,.fs i2,.fs i3,.fs i4],.agg [.fs p5,.fs p6,.fs p7,.fs p8,.fs p9,.fs a,.int .i64 b],.int .i64 d,.agg [.fs e,.fs f,.fs g]]:=by
 unfold ZHr at h
 split at h
 ·exact ⟨_,_,_,_,_,_,_,_,_,_,_,_,_,_,_,rfl⟩
 ·cases h
theorem ZMr:Zpa (Zca Tryz.f12)=[Zia [1,1,0,1,0,0] (Zca Tryz.f12)]:=by kernel_rfl
theorem ZAC (hΓ:Zga Tryz.prog G0 Zpn) (hok:∀ (i1 i2 i3 i4 p5 p6 p7 p8 p9 a:Rs)(b d:Int)(e f g:Rs)(y:Int),ZMd i1 i2 i3 i4 p5 p6 p7 p8 p9 a b d e f g=some y→∃ n,∀ (R:Type)(k:Int→Option R),Zej n  i1 i2 i3 i4 p5 p6 p7 p8 p9 a b d e f g k=k y):Zka Tryz.prog G0 12 ZGn:=by
 refine ZHa mixed tOk (Zna hΓ) Tryz.func12 rfl rfl rfl rfl (F:=Zfa Tryz.f12) (ZBa Z6g) (pat:=Z9u) (L:=ZbA) (ZFa Z6g) (on:=ZJx) (patj:=ZJt) (J:=Zry) (fun c hc ls R k=>?_) (fun c hc p hp m ls R k r h=>?_) (fun c hc p hp m ls R k r h=>?_) (fun ps x h=>?_)
 ·rw [show (Zfa Tryz.f12).code=Zca Tryz.f12 from rfl,ZMr] at hc
  simp only [List.mem_cons,List.not_mem_nil,or_false] at hc
  rcases hc with rfl
  ·show Zlf 0 ls R k=none
   unfold Zlf
   split
   ·rfl
   ·rfl
 ·rw [show (Zfa Tryz.f12).code=Zca Tryz.f12 from rfl,ZMr] at hc
  simp only [List.mem_cons,List.not_mem_nil,or_false] at hc
  rcases hc with rfl
  ·obtain rfl:Z4p=p:=Option.some.inj hp
   change Zlf (m + 1) ls R k=some r at h
   have h':=h
   unfold Zlf at h'
   split at h'
   ·exact (ZcC m _ _ _ _ R k).trans h
   ·cases h'
 ·cases (List.mem_filter.1 hc).2
 ·obtain ⟨y,hy,hx⟩:=Zba h
  cases hx
  obtain ⟨i1,i2,i3,i4,p5,p6,p7,p8,p9,a,b,d,e,f,g,rfl⟩:=ZgF hy
  obtain ⟨n,hn⟩:=hok i1 i2 i3 i4 p5 p6 p7 p8 p9 a b d e f g y hy
  exact ⟨n,(ZcI n i1 i2 i3 i4 p5 p6 p7 p8 p9 a b d e f g).trans (hn _ _)⟩
def ZMg {R:Type} (i1 i2 i3 i4 p5 p6 p7 p8 p9 a:Rs)(b d:Int)(e:Rs)(k:Rs→Rs→Rs→Int→Option R):Option R :=
 Option.bind (Zmb e [] []) fun f =>
 Option.bind (ZMd i1 i2 i3 i4 p5 p6 p7 p8 p9 a b d f.1 f.2.1 f.2.2) fun g =>
 cond (g !=(0:Int)) (
  k [] [] [] g) (
  k f.1 f.2.1 f.2.2 0)
def Zav (y:Rs × Rs × Rs × Int):PV × Cs:=((PV.tuple [.agg [.fs y.1,.fs y.2.1,.fs y.2.2.1],.int .i64 y.2.2.2]),[])
def ZFg (i1 i2 i3 i4 p5 p6 p7 p8 p9 a:Rs)(b d:Int)(e:Rs):Option (Rs × Rs × Rs × Int):=ZMg i1 i2 i3 i4 p5 p6 p7 p8 p9 a b d e fun a0 a1 a2 a3=>some (a0,a1,a2,a3)
def ZCg:Cs→Option (Rs × Rs × Rs × Int)
 | [.agg [.fs i1,.fs i2,.fs i3,.fs i4],.agg [.fs p5,.fs p6,.fs p7,.fs p8,.fs p9,.fs a,.int .i64 b],.int .i64 d,.fs e]=>ZFg i1 i2 i3 i4 p5 p6 p7 p8 p9 a b d e
 | _=>none
def ZCo:List (Nat × Cal):=[(46,.ctr Z0c),(12,.ctr ZGn),(1000000004,ro_I),(1000000005,ro_I)]
def ZTg:Ctr:=⟨[none,none,none,none],Rs × Rs × Rs × Int,ZCg,Zav,false,.d⟩
theorem ZTD (i1 i2 i3 i4 p5 p6 p7 p8 p9 a:Rs)(b d:Int)(e:Rs) :
  funK T G0 (Zja ZCo) noL .d false [none,none,none,none] (Zfa Tryz.f173) [.agg [.fs i1,.fs i2,.fs i3,.fs i4],.agg [.fs p5,.fs p6,.fs p7,.fs p8,.fs p9,.fs a,.int .i64 b],.int .i64 d,.fs e]=ZMg  i1 i2 i3 i4 p5 p6 p7 p8 p9 a b d e (fun a0 a1 a2 a3=>some (Zav (a0,a1,a2,a3))):=by kernel_rfl
theorem ZKC {ps:Cs} {y:Rs × Rs × Rs × Int} (h:ZCg ps=some y):∃ (i1:Rs) (i2:Rs) (i3:Rs) (i4:Rs) (p5:Rs) (p6:Rs) (p7:Rs) (p8:Rs) (p9:Rs) (a:Rs) (b:Int) (d:Int) (e:Rs),ps=[.agg [.fs i1,.fs i2,.fs i3,.fs i4],.agg [.fs p5,.fs p6,.fs p7,.fs p8,.fs p9,.fs a,.int .i64 b],.int .i64 d,.fs e]:=by
 unfold ZCg at h
 split at h
 ·exact ⟨_,_,_,_,_,_,_,_,_,_,_,_,_,rfl⟩
 ·cases h
theorem Z6B {R:Type} (i1 i2 i3 i4 p5 p6 p7 p8 p9 a:Rs)(b d:Int)(e:Rs)(k:Rs→Rs→Rs→Int→Option R):ZMg i1 i2 i3 i4 p5 p6 p7 p8 p9 a b d e k=Option.bind (ZMg i1 i2 i3 i4 p5 p6 p7 p8 p9 a b d e fun a0 a1 a2 a3=>some (a0,a1,a2,a3)) fun y=>k y.1 y.2.1 y.2.2.1 y.2.2.2:=by
 unfold ZMg
 first | rfl | simp only [Option.bind_assoc,Zya,Zxa,Option.bind_some,Option.bind_none]
theorem ZRz (hΓ:Zga Tryz.prog G0 ZCo):Zka Tryz.prog G0 173 ZTg:=by
 refine ZIa mixed tOk (Zna hΓ) Tryz.func173 rfl rfl rfl rfl (F:=Zfa Tryz.f173) (fun ps x h=>?_)
 obtain ⟨y,hy,hx⟩:=Zba h
 cases hx
 obtain ⟨i1,i2,i3,i4,p5,p6,p7,p8,p9,a,b,d,e,rfl⟩:=ZKC hy
 have hy':ZFg i1 i2 i3 i4 p5 p6 p7 p8 p9 a b d e=some y:=hy
 refine ⟨noL,ZKa _,(ZTD i1 i2 i3 i4 p5 p6 p7 p8 p9 a b d e).trans ?_⟩
 unfold ZFg at hy'
 rw [Z6B,hy']
 rfl
def ZMn {R:Type} (i1 i2 i3 i4 p5 p6 p7 p8 p9 a:Rs)(b d e f g i j l o q:Int)(k:Rs→Rs→Rs→Int→Option R):Option R :=
 Option.bind (Zid i1 i2 i3 i4 f) fun t =>
 cond (!t) (
  k [] [] [] 4) (
  Option.bind (Z0b i1 i2 i3 i4 g) fun u =>
  cond (!u) (
   k [] [] [] 5) (
   Option.bind (ZUd p5 p6 p7 p8 p9 a b f) fun v =>
   cond v (
    k [] [] [] 8) (
    Option.bind (Zzf i1 i2 i3 i4 e f g i j l o q) fun z =>
    cond (!z) (
     k [] [] [] 7) (
     Option.bind (idx p5 g) fun A =>
     if A.length=1 then
      Option.bind (A[0]?) fun B =>
      Option.bind (PV.asFs B) fun C =>
      Option.bind (ZQf i1 i2 i3 i4 C e f g i j l o q) fun D =>
      cond (!D.2) (
       k [] [] [] 6) (
       Option.bind (ZAd p5 p6 p7 p8 p9 a b g D.1) fun E =>
       Option.bind (ZFg i1 i2 i3 i4 p5 p6 p7 p8 p9 a b d [[.int .i64 E.1,.fs E.2.1,.fs E.2.2]]) fun F =>
       k F.1 F.2.1 F.2.2.1 F.2.2.2)
     else none))))
def ZWE (y:Rs × Rs × Rs × Int):PV × Cs:=((PV.tuple [.agg [.fs y.1,.fs y.2.1,.fs y.2.2.1],.int .i64 y.2.2.2]),[])
def Zhr (i1 i2 i3 i4 p5 p6 p7 p8 p9 a:Rs)(b d e f g i j l o q:Int):Option (Rs × Rs × Rs × Int):=ZMn i1 i2 i3 i4 p5 p6 p7 p8 p9 a b d e f g i j l o q fun a0 a1 a2 a3=>some (a0,a1,a2,a3)
def Z9w:Cs→Option (Rs × Rs × Rs × Int)
 | [.agg [.fs i1,.fs i2,.fs i3,.fs i4],.agg [.fs p5,.fs p6,.fs p7,.fs p8,.fs p9,.fs a,.int .i64 b],.int .i64 d,.agg [.int .i64 e,.int .i64 f,.int .i64 g,.int .i64 i,.int .i64 j,.int .i64 l,.int .i64 o,.int .i64 q]]=>Zhr i1 i2 i3 i4 p5 p6 p7 p8 p9 a b d e f g i j l o q
 | _=>none
def Zlw:List (Nat × Cal):=[(169,.ctr Zxf),(40,.ctr ZTe),(170,.ctr ZCi),(171,.ctr Zxl),(172,.ctr Z5q),(174,.ctr ZVk),(173,.ctr ZTg),(1000000004,ro_I),(1000000005,ro_I),(1000000007,ro_I)]
def ZMw:Ctr:=⟨[none,none,none,none],Rs × Rs × Rs × Int,Z9w,ZWE,false,.d⟩
theorem ZaK (i1 i2 i3 i4 p5 p6 p7 p8 p9 a:Rs)(b d e f g i j l o q:Int) :
  funK T G0 (Zja Zlw) noL .d false [none,none,none,none] (Zfa Tryz.f110) [.agg [.fs i1,.fs i2,.fs i3,.fs i4],.agg [.fs p5,.fs p6,.fs p7,.fs p8,.fs p9,.fs a,.int .i64 b],.int .i64 d,.agg [.int .i64 e,.int .i64 f,.int .i64 g,.int .i64 i,.int .i64 j,.int .i64 l,.int .i64 o,.int .i64 q]]=ZMn  i1 i2 i3 i4 p5 p6 p7 p8 p9 a b d e f g i j l o q (fun a0 a1 a2 a3=>some (ZWE (a0,a1,a2,a3))):=by kernel_rfl
theorem ZNI {ps:Cs} {y:Rs × Rs × Rs × Int} (h:Z9w ps=some y):∃ (i1:Rs) (i2:Rs) (i3:Rs) (i4:Rs) (p5:Rs) (p6:Rs) (p7:Rs) (p8:Rs) (p9:Rs) (a:Rs) (b:Int) (d:Int) (e:Int) (f:Int) (g:Int) (i:Int) (j:Int) (l:Int) (o:Int) (q:Int),ps=[.agg [.fs i1,.fs i2,.fs i3,.fs i4],.agg [.fs p5,.fs p6,.fs p7,.fs p8,.fs p9,.fs a,.int .i64 b],.int .i64 d,.agg [.int .i64 e,.int .i64 f,.int .i64 g,.int .i64 i,.int .i64 j,.int .i64 l,.int .i64 o,.int .i64 q]]:=by
 unfold Z9w at h
 split at h
 ·exact ⟨_,_,_,_,_,_,_,_,_,_,_,_,_,_,_,_,_,_,_,_,rfl⟩
 ·cases h
theorem ZBJ {R:Type} (i1 i2 i3 i4 p5 p6 p7 p8 p9 a:Rs)(b d e f g i j l o q:Int)(k:Rs→Rs→Rs→Int→Option R):ZMn i1 i2 i3 i4 p5 p6 p7 p8 p9 a b d e f g i j l o q k=Option.bind (ZMn i1 i2 i3 i4 p5 p6 p7 p8 p9 a b d e f g i j l o q fun a0 a1 a2 a3=>some (a0,a1,a2,a3)) fun y=>k y.1 y.2.1 y.2.2.1 y.2.2.2:=by
 unfold ZMn
 first | rfl | simp only [Option.bind_assoc,Zya,Zxa,Option.bind_some,Option.bind_none]
theorem ZGF (hΓ:Zga Tryz.prog G0 Zlw):Zka Tryz.prog G0 110 ZMw:=by
 refine ZIa mixed tOk (Zna hΓ) Tryz.func110 rfl rfl rfl rfl (F:=Zfa Tryz.f110) (fun ps x h=>?_)
 obtain ⟨y,hy,hx⟩:=Zba h
 cases hx
 obtain ⟨i1,i2,i3,i4,p5,p6,p7,p8,p9,a,b,d,e,f,g,i,j,l,o,q,rfl⟩:=ZNI hy
 have hy':Zhr i1 i2 i3 i4 p5 p6 p7 p8 p9 a b d e f g i j l o q=some y:=hy
 refine ⟨noL,ZKa _,(ZaK i1 i2 i3 i4 p5 p6 p7 p8 p9 a b d e f g i j l o q).trans ?_⟩
 unfold Zhr at hy'
 rw [ZBJ,hy']
 rfl
def ZVf {R:Type} (s1:Int)(a b:Cs)(k:Bool→Option R):Option R :=
 Option.bind (a[0]?) fun c4 =>
 Option.bind (PV.asI .i64 c4) fun n5 =>
 cond (s1 == n5) (
  k true) (
  Option.bind (b[0]?) fun c6 =>
  Option.bind (PV.asI .i64 c6) fun n7 =>
  k (s1 == n7))
def Zrt (y:Bool):PV × Cs:=((PV.bool y),[])
def Z8c (s1:Int)(a b:Cs):Option (Bool):=ZVf s1 a b fun a0=>some a0
def ZEn:Cs→Option (Bool)
 | [.int .i64 s1,.rp a 0,.rp b 0]=>Z8c s1 a b
 | _=>none
def ZPt:List (Nat × Cal):=[]
def Zsi:Ctr:=⟨[none,none,none],Bool,ZEn,Zrt,true,.d⟩
theorem Z7B (s1:Int)(a b:Cs) :
  funK T G0 (Zja ZPt) noL .d true [none,none,none] (Zfa Tryz.f222) [.int .i64 s1,.rp a 0,.rp b 0]=ZVf  s1 a b (fun a0=>some (Zrt a0)):=by kernel_rfl
theorem ZuA {ps:Cs} {y:Bool} (h:ZEn ps=some y):∃ (s1:Int) (a:Cs) (b:Cs),ps=[.int .i64 s1,.rp a 0,.rp b 0]:=by
 unfold ZEn at h
 split at h
 ·exact ⟨_,_,_,rfl⟩
 ·cases h
theorem ZNA {R:Type} (s1:Int)(a b:Cs)(k:Bool→Option R):ZVf s1 a b k=Option.bind (ZVf s1 a b fun a0=>some a0) fun y=>k y:=by
 unfold ZVf
 first | rfl | simp only [Option.bind_assoc,Zya,Zxa,Option.bind_some,Option.bind_none]
theorem Zcy (hΓ:Zga Tryz.prog G0 ZPt):Zka Tryz.prog G0 222 Zsi:=by
 refine ZIa mixed tOk (Zna hΓ) Tryz.func222 rfl rfl rfl rfl (F:=Zfa Tryz.f222) (fun ps x h=>?_)
 obtain ⟨y,hy,hx⟩:=Zba h
 cases hx
 obtain ⟨s1,a,b,rfl⟩:=ZuA hy
 have hy':Z8c s1 a b=some y:=hy
 refine ⟨noL,ZKa _,(Z7B s1 a b).trans ?_⟩
 unfold Z8c at hy'
 rw [ZNA,hy']
 rfl
def ZGc {R:Type}:Nat→Rs→Cs→Cs→Int→Int→(Int→Option R)→(Unit→Option R)→Option R
 | 0,_,_,_,_,_,_,_=>none
 | n + 1,s5,f6,f7,i8,i9,k0,k1 =>
  cond (decide (i9 < i8)) (
   Option.bind (idx s5 i9) fun a =>
   if a.length=1 then
    Option.bind (a[0]?) fun b =>
    Option.bind (PV.asI .i64 b) fun d =>
    Option.bind (Z8c d f6 f7) fun e =>
    cond e (
     k0 i9) (
     ZGc n s5 f6 f7 i8 (IntKind.i64.wrap (i9 + (1:Int))) k0 k1)
   else none) (
   k1 ())
def Z9c {R:Type} (n:Nat)(s1:Rs)(n2 n3:Int)(k:Int→Option R):Option R :=
 ZGc n s1 [.int .i64 n2] [.int .i64 n3] (s1.length:Int) 0 k
  (fun (_:Unit) =>
   k (-1))
def ZUn (y:Int):PV × Cs:=((PV.int .i64 y),[])
def ZEd:Nat→Rs→Cs→Cs→Int→Int→Option ((Int) ⊕ (Unit))
 | 0,_,_,_,_,_=>none
 | n + 1,s5,f6,f7,i8,i9 =>
  cond (decide (i9 < i8)) (
   Option.bind (idx s5 i9) fun a =>
   if a.length=1 then
    Option.bind (a[0]?) fun b =>
    Option.bind (PV.asI .i64 b) fun d =>
    Option.bind (Z8c d f6 f7) fun e =>
    cond e (
     some (Sum.inl i9)) (
     ZEd n s5 f6 f7 i8 (IntKind.i64.wrap (i9 + (1:Int))))
   else none) (
   some (Sum.inr ()))
theorem Zft {R:Type} (n:Nat)(s5:Rs)(f6 f7:Cs)(i8 i9:Int)(k0:Int→Option R)(k1:Unit→Option R):Tw (ZEd n s5 f6 f7 i8 i9) (ZGc n s5 f6 f7 i8 i9 k0 k1) (fun s=>match s with | (Sum.inl a0)=>k0 a0 | (Sum.inr _)=>k1 ()):=by
 induction n generalizing s5 f6 f7 i8 i9 with
 | zero=>exact Zwa
 | succ n ih =>
  unfold ZEd ZGc
  refine Zha (fun _=>?_) (fun _=>?_)
  ·refine Zaa fun a _=>?_
   refine Zqa fun _=>?_
   refine Zaa fun b _=>?_
   refine Zaa fun d _=>?_
   refine Zaa fun e _=>?_
   refine Zha (fun _=>?_) (fun _=>?_)
   ·exact Zda rfl
   ·exact ih _ _ _ _ _
  ·exact Zda rfl
def ZDb (s1:Rs)(n2 n3:Int):Option (Int) :=
 Option.bind (ZEd 9223372036854775808 s1 [.int .i64 n2] [.int .i64 n3] (s1.length:Int) 0) fun s=>match s with
  | (Sum.inl i4) =>
   some i4
  | (Sum.inr _) =>
   some (-1)
theorem Zwv {R:Type} (s1:Rs)(n2 n3:Int)(k:Int→Option R):Tw (ZDb s1 n2 n3) (Z9c 9223372036854775808 s1 n2 n3 k) (fun s=>match s with | a0=>k a0):=by
 unfold ZDb Z9c
 refine Zma (Zft _ _ _ _ _ _ _ _) (fun s=>?_)
 rcases s with i4 | ⟨⟩
 ·exact Zda rfl
 ·exact Zda rfl
theorem ZAv:∀ (s1:Rs)(n2 n3 y:Int),ZDb s1 n2 n3=some y→∃ n,∀ (R:Type)(k:Int→Option R),Z9c n s1 n2 n3 k=k y:=fun s1 n2 n3 y h=>⟨9223372036854775808,fun R k=>Zwv s1 n2 n3 k y h⟩
def Zvh:Cs→Option (Int)
 | [.fs s1,.fn (Fn.func 222) [.rp [.int .i64 n2] 0,.rp [.int .i64 n3] 0]]=>ZDb s1 n2 n3
 | _=>none
def Zje:List (Nat × Cal):=[(222,.ctr Zsi)]
def Zgh:Ctr:=⟨[none,none],Int,Zvh,ZUn,true,.d⟩
def Zsc:List (Nat × LC):=[(2,⟨[0,1,7,8],[],[],[],[]⟩),
 (2000002,⟨[4],[],[],[],[]⟩),
 (1002000,⟨[],[],[],[],[]⟩)]
def ZRg:SP:=⟨Zea .undef [(0,(.val .fs)),(1,(.val (.fn 222 [(.rp 0),(.rp 0)]))),(7,(.val (.int .i64))),(8,(.val (.int .i64)))] 0 19,[],[]⟩
def Zjl:Nat→Option SP
 | 2=>some ZRg
 | _=>none
def ZWj:Nat→Option SP
 | _=>none
def ZXb (n:Nat)(ls:List Leaf)(R:Type)(k:Ex→St→Option R):Option R :=
 match ls with
 | [.rows s5,.cells f6,.cells f7,.int i8,.int i9]=>ZGc n s5 f6 f7 i8 i9 (fun a=>k .ret ⟨Zea .undef [(4,(TV.val (PV.int .i64 a)))] 0 19,[],[]⟩)
   (fun _=>k (.exit 0) ⟨Zea .undef [] 0 19,[],[]⟩)
 | _=>none
def ZXm (n key:Nat) (ls:List Leaf) (R:Type) (k:Ex→St→Option R):Option R :=
 match key with
 | 2=>ZXb n ls R k
 | _=>none
def Zkn (n key:Nat) (ls:List Leaf) (R:Type) (k:Ex→St→Option R):Option R :=
 match key with
 | _=>none
def Zbm:Code→Bool:=fun _=>false
def Zwm:Nat→Loops:=patL (Zsa Zsc) Zjl ZXm (ZCa Zsc) Zbm ZWj Zkn
theorem ZMs (n:Nat)(s5:Rs)(f6 f7:Cs)(i8 i9:Int)  (R:Type) (k:Ex→St→Option R) :
  Zza T G0 (Zja Zje) (Zsa Zsc) (Zwm n) (Zia [1,0,1,0,0] (Zca Tryz.f268)) (Zoa ZRg [.rows s5,.cells f6,.cells f7,.int i8,.int i9]) R k=ZXb (n + 1) [.rows s5,.cells f6,.cells f7,.int i8,.int i9] R k:=by kernel_rfl
theorem Zpv (n:Nat)(s1:Rs)(n2 n3:Int) :
  funK T G0 (Zja Zje) (Zwm n) .d true [none,none] (Zfa Tryz.f268) [.fs s1,.fn (Fn.func 222) [.rp [.int .i64 n2] 0,.rp [.int .i64 n3] 0]]=Z9c n  s1 n2 n3 (fun a0=>some (ZUn a0)):=by kernel_rfl
theorem Ziu {ps:Cs} {y:Int} (h:Zvh ps=some y):∃ (s1:Rs) (n2:Int) (n3:Int),ps=[.fs s1,.fn (Fn.func 222) [.rp [.int .i64 n2] 0,.rp [.int .i64 n3] 0]]:=by
 unfold Zvh at h
 split at h
 ·exact ⟨_,_,_,rfl⟩
 ·cases h
theorem Zhj:Zpa (Zca Tryz.f268)=[Zia [1,0,1,0,0] (Zca Tryz.f268)]:=by kernel_rfl
theorem Zds (hΓ:Zga Tryz.prog G0 Zje) (hok:∀ (s1:Rs)(n2 n3 y:Int),ZDb s1 n2 n3=some y→∃ n,∀ (R:Type)(k:Int→Option R),Z9c n  s1 n2 n3 k=k y):Zka Tryz.prog G0 268 Zgh:=by
 refine ZHa mixed tOk (Zna hΓ) Tryz.func268 rfl rfl rfl rfl (F:=Zfa Tryz.f268) (ZBa Zsc) (pat:=Zjl) (L:=ZXm) (ZFa Zsc) (on:=Zbm) (patj:=ZWj) (J:=Zkn) (fun c hc ls R k=>?_) (fun c hc p hp m ls R k r h=>?_) (fun c hc p hp m ls R k r h=>?_) (fun ps x h=>?_)
 ·rw [show (Zfa Tryz.f268).code=Zca Tryz.f268 from rfl,Zhj] at hc
  simp only [List.mem_cons,List.not_mem_nil,or_false] at hc
  rcases hc with rfl
  ·show ZXb 0 ls R k=none
   unfold ZXb
   split
   ·rfl
   ·rfl
 ·rw [show (Zfa Tryz.f268).code=Zca Tryz.f268 from rfl,Zhj] at hc
  simp only [List.mem_cons,List.not_mem_nil,or_false] at hc
  rcases hc with rfl
  ·obtain rfl:ZRg=p:=Option.some.inj hp
   change ZXb (m + 1) ls R k=some r at h
   have h':=h
   unfold ZXb at h'
   split at h'
   ·exact (ZMs m _ _ _ _ _ R k).trans h
   ·cases h'
 ·cases (List.mem_filter.1 hc).2
 ·obtain ⟨y,hy,hx⟩:=Zba h
  cases hx
  obtain ⟨s1,n2,n3,rfl⟩:=Ziu hy
  obtain ⟨n,hn⟩:=hok s1 n2 n3 y hy
  exact ⟨n,(Zpv n s1 n2 n3).trans (hn _ _)⟩
def ZKb {R:Type}:Nat→Cs→Cs→Int→Int→Rs→(Int→Rs→Option R)→Option R
 | 0,_,_,_,_,_,_=>none
 | n + 1,a,b,i9,d,e,k0 =>
  cond (decide (d < (e.length:Int))) (
   if 0≤d∧d < (e.length:Int) then
    Option.bind (e[(Int.toNat d)]?) fun f =>
    Option.bind (f[0]?) fun g =>
    Option.bind (PV.asI .i64 g) fun i =>
    Option.bind (Z8c i a b) fun j =>
    cond (!j) (
     if 0≤i9∧i9 < (e.length:Int) then
      Option.bind (e[(Int.toNat i9)]?) fun l =>
      Option.bind (l[0]?) fun o =>
      ZKb n a b (IntKind.i64.wrap (i9 + (1:Int))) (IntKind.i64.wrap (d + (1:Int))) (List.set e (Int.toNat i9) (List.set l 0 (PV.int .i64 i))) k0
     else none) (
     ZKb n a b i9 (IntKind.i64.wrap (d + (1:Int))) e k0)
   else none) (
   k0 i9 e)
def ZHc {R:Type} (n:Nat)(s1:Rs)(n2 n3:Int)(k:Rs→Option R):Option R :=
 Option.bind (ZDb s1 n2 n3) fun y4 =>
 cond (y4 ==(-1:Int)) (
  k s1) (
  ZKb n [.int .i64 n2] [.int .i64 n3] y4 (IntKind.i64.wrap (y4 + (1:Int))) s1
   (fun (i5:Int)(a:Rs) =>
    if (0:Int)≤i5∧i5≤(a.length:Int)∧(a.length:Int)=(a.length:Int)∧(a.length:Int)≤(a.length:Int)∧1=1 then
     if (0:Int)≤(0:Int)∧(0:Int)≤i5∧i5=i5∧i5≤((((a.take (Int.toNat i5)) ++ (List.replicate (Int.toNat ((a.length:Int) - i5)) [(PV.int .i64 0)])) ++ (a.drop ((Int.toNat i5) + (Int.toNat ((a.length:Int) - i5))))).length:Int)∧1=1 then
      k (((((a.take (Int.toNat i5)) ++ (List.replicate (Int.toNat ((a.length:Int) - i5)) [(PV.int .i64 0)])) ++ (a.drop ((Int.toNat i5) + (Int.toNat ((a.length:Int) - i5))))).drop 0).take (Int.toNat (i5 - (0:Int))))
     else none
    else none))
def ZVl (y:Rs):PV × Cs:=((PV.os y 1),[])
def Zjc:Nat→Cs→Cs→Int→Int→Rs→Option ((Int × Rs))
 | 0,_,_,_,_,_=>none
 | n + 1,a,b,i9,d,e =>
  cond (decide (d < (e.length:Int))) (
   if 0≤d∧d < (e.length:Int) then
    Option.bind (e[(Int.toNat d)]?) fun f =>
    Option.bind (f[0]?) fun g =>
    Option.bind (PV.asI .i64 g) fun i =>
    Option.bind (Z8c i a b) fun j =>
    cond (!j) (
     if 0≤i9∧i9 < (e.length:Int) then
      Option.bind (e[(Int.toNat i9)]?) fun l =>
      Option.bind (l[0]?) fun o =>
      Zjc n a b (IntKind.i64.wrap (i9 + (1:Int))) (IntKind.i64.wrap (d + (1:Int))) (List.set e (Int.toNat i9) (List.set l 0 (PV.int .i64 i)))
     else none) (
     Zjc n a b i9 (IntKind.i64.wrap (d + (1:Int))) e)
   else none) (
   some (i9,e))
theorem Zjs {R:Type} (n:Nat)(a b:Cs)(i9 d:Int)(e:Rs)(k0:Int→Rs→Option R):Tw (Zjc n a b i9 d e) (ZKb n a b i9 d e k0) (fun s=>match s with | (a0,a1)=>k0 a0 a1):=by
 induction n generalizing a b i9 d e with
 | zero=>exact Zwa
 | succ n ih =>
  unfold Zjc ZKb
  refine Zha (fun _=>?_) (fun _=>?_)
  ·refine Zqa fun _=>?_
   refine Zaa fun f _=>?_
   refine Zaa fun g _=>?_
   refine Zaa fun i _=>?_
   refine Zaa fun j _=>?_
   refine Zha (fun _=>?_) (fun _=>?_)
   ·refine Zqa fun _=>?_
    refine Zaa fun l _=>?_
    refine Zaa fun o _=>?_
    exact ih _ _ _ _ _
   ·exact ih _ _ _ _ _
  ·exact Zda rfl
def ZYb (s1:Rs)(n2 n3:Int):Option (Rs) :=
 Option.bind (ZDb s1 n2 n3) fun y4 =>
 cond (y4 ==(-1:Int)) (
  some s1) (
  Option.bind (Zjc 9223372036854775808 [.int .i64 n2] [.int .i64 n3] y4 (IntKind.i64.wrap (y4 + (1:Int))) s1) fun s=>match s with
   | (i5,a) =>
    if (0:Int)≤i5∧i5≤(a.length:Int)∧(a.length:Int)=(a.length:Int)∧(a.length:Int)≤(a.length:Int)∧1=1 then
     if (0:Int)≤(0:Int)∧(0:Int)≤i5∧i5=i5∧i5≤((((a.take (Int.toNat i5)) ++ (List.replicate (Int.toNat ((a.length:Int) - i5)) [(PV.int .i64 0)])) ++ (a.drop ((Int.toNat i5) + (Int.toNat ((a.length:Int) - i5))))).length:Int)∧1=1 then
      some (((((a.take (Int.toNat i5)) ++ (List.replicate (Int.toNat ((a.length:Int) - i5)) [(PV.int .i64 0)])) ++ (a.drop ((Int.toNat i5) + (Int.toNat ((a.length:Int) - i5))))).drop 0).take (Int.toNat (i5 - (0:Int))))
     else none
    else none)
theorem ZVu {R:Type} (s1:Rs)(n2 n3:Int)(k:Rs→Option R):Tw (ZYb s1 n2 n3) (ZHc 9223372036854775808 s1 n2 n3 k) (fun s=>match s with | a0=>k a0):=by
 unfold ZYb ZHc
 refine Zaa fun y4 _=>?_
 refine Zha (fun _=>?_) (fun _=>?_)
 ·exact Zda rfl
 ·refine Zma (Zjs _ _ _ _ _ _ _) (fun s=>?_)
  rcases s with ⟨i5,a⟩
  ·refine Zqa fun _=>?_
   refine Zqa fun _=>?_
   exact Zda rfl
theorem Z8u:∀ (s1:Rs)(n2 n3:Int)(y:Rs),ZYb s1 n2 n3=some y→∃ n,∀ (R:Type)(k:Rs→Option R),ZHc n s1 n2 n3 k=k y:=fun s1 n2 n3 y h=>⟨9223372036854775808,fun R k=>ZVu s1 n2 n3 k y h⟩
def Z4g:Cs→Option (Rs)
 | [.os s1 1,.fn (Fn.func 222) [.rp [.int .i64 n2] 0,.rp [.int .i64 n3] 0]]=>ZYb s1 n2 n3
 | _=>none
def ZNd:List (Nat × Cal):=[(268,.ctr Zgh),(222,.ctr Zsi)]
def Zsg:Ctr:=⟨[some (.s,false),none],Rs,Z4g,ZVl,false,.s⟩
def Zhc:List (Nat × LC):=[(5,⟨[0,1,5,6],[],[],[],[]⟩),
 (1005000,⟨[0,5],[],[],[],[]⟩)]
def Z2f:SP:=⟨Zea .undef [(0,(.ow 0)),(1,(.val (.fn 222 [(.rp 0),(.rp 0)]))),(5,(.val (.int .i64))),(6,(.val (.int .i64)))] 0 42,[(.row 1)],[]⟩
def Z1j:Nat→Option SP
 | 5=>some Z2f
 | _=>none
def ZVi:Nat→Option SP
 | _=>none
def ZMb (n:Nat)(ls:List Leaf)(R:Type)(k:Ex→St→Option R):Option R :=
 match ls with
 | [.cells a,.cells b,.int i9,.int d,.rows e]=>ZKb n a b i9 d e (fun f g=>k (.exit 0) ⟨Zea .undef [(0,(TV.ow 0)),(5,(TV.val (PV.int .i64 f)))] 0 42,[(Ob.row g 1)],[]⟩)
 | _=>none
def Z4l (n key:Nat) (ls:List Leaf) (R:Type) (k:Ex→St→Option R):Option R :=
 match key with
 | 5=>ZMb n ls R k
 | _=>none
def ZWl (n key:Nat) (ls:List Leaf) (R:Type) (k:Ex→St→Option R):Option R :=
 match key with
 | _=>none
def ZGk:Code→Bool:=fun _=>false
def ZXl:Nat→Loops:=patL (Zsa Zhc) Z1j Z4l (ZCa Zhc) ZGk ZVi ZWl
theorem ZUq (n:Nat)(a b:Cs)(i9 d:Int)(e:Rs)  (R:Type) (k:Ex→St→Option R) :
  Zza T G0 (Zja ZNd) (Zsa Zhc) (ZXl n) (Zia [1,1,1,0,1,0,0] (Zca Tryz.f221)) (Zoa Z2f [.cells a,.cells b,.int i9,.int d,.rows e]) R k=ZMb (n + 1) [.cells a,.cells b,.int i9,.int d,.rows e] R k:=by kernel_rfl
theorem ZFu (n:Nat)(s1:Rs)(n2 n3:Int) :
  funK T G0 (Zja ZNd) (ZXl n) .s false [some (.s,false),none] (Zfa Tryz.f221) [.os s1 1,.fn (Fn.func 222) [.rp [.int .i64 n2] 0,.rp [.int .i64 n3] 0]]=ZHc n  s1 n2 n3 (fun a0=>some (ZVl a0)):=by kernel_rfl
theorem Z8s {ps:Cs} {y:Rs} (h:Z4g ps=some y):∃ (s1:Rs) (n2:Int) (n3:Int),ps=[.os s1 1,.fn (Fn.func 222) [.rp [.int .i64 n2] 0,.rp [.int .i64 n3] 0]]:=by
 unfold Z4g at h
 split at h
 ·exact ⟨_,_,_,rfl⟩
 ·cases h
theorem Zvi:Zpa (Zca Tryz.f221)=[Zia [1,1,1,0,1,0,0] (Zca Tryz.f221)]:=by kernel_rfl
theorem ZZq (hΓ:Zga Tryz.prog G0 ZNd) (hok:∀ (s1:Rs)(n2 n3:Int)(y:Rs),ZYb s1 n2 n3=some y→∃ n,∀ (R:Type)(k:Rs→Option R),ZHc n  s1 n2 n3 k=k y):Zka Tryz.prog G0 221 Zsg:=by
 refine ZHa mixed tOk (Zna hΓ) Tryz.func221 rfl rfl rfl rfl (F:=Zfa Tryz.f221) (ZBa Zhc) (pat:=Z1j) (L:=Z4l) (ZFa Zhc) (on:=ZGk) (patj:=ZVi) (J:=ZWl) (fun c hc ls R k=>?_) (fun c hc p hp m ls R k r h=>?_) (fun c hc p hp m ls R k r h=>?_) (fun ps x h=>?_)
 ·rw [show (Zfa Tryz.f221).code=Zca Tryz.f221 from rfl,Zvi] at hc
  simp only [List.mem_cons,List.not_mem_nil,or_false] at hc
  rcases hc with rfl
  ·show ZMb 0 ls R k=none
   unfold ZMb
   split
   ·rfl
   ·rfl
 ·rw [show (Zfa Tryz.f221).code=Zca Tryz.f221 from rfl,Zvi] at hc
  simp only [List.mem_cons,List.not_mem_nil,or_false] at hc
  rcases hc with rfl
  ·obtain rfl:Z2f=p:=Option.some.inj hp
   change ZMb (m + 1) ls R k=some r at h
   have h':=h
   unfold ZMb at h'
   split at h'
   ·exact (ZUq m _ _ _ _ _ R k).trans h
   ·cases h'
 ·cases (List.mem_filter.1 hc).2
 ·obtain ⟨y,hy,hx⟩:=Zba h
  cases hx
  obtain ⟨s1,n2,n3,rfl⟩:=Z8s hy
  obtain ⟨n,hn⟩:=hok s1 n2 n3 y hy
  exact ⟨n,(ZFu n s1 n2 n3).trans (hn _ _)⟩
def Z4i {R:Type} (i1 i2 i3 i4 r5:Rs)(a:Int)(k:Rs→Option R):Option R :=
 Option.bind (Z8f i1 i2 i3 i4 a) fun y7 =>
 Option.bind (ZOa 1 8 r5) fun y8 =>
 Option.bind (ZYb y8 a y7) fun y9 =>
 k y9
def ZGz (y:Rs):PV × Cs:=((PV.fs y),[])
def ZKd (i1 i2 i3 i4 r5:Rs)(a:Int):Option (Rs):=Z4i i1 i2 i3 i4 r5 a fun a0=>some a0
def ZHs:Cs→Option (Rs)
 | [.agg [.fs i1,.fs i2,.fs i3,.fs i4],.fs r5,.int .i64 a]=>ZKd i1 i2 i3 i4 r5 a
 | _=>none
def Zys:List (Nat × Cal):=[(191,.ctr Z2h),(177,.ctr Zxd),(221,.ctr Zsg),(1000000003,ro_I),(1000000005,ro_I)]
def Zrm:Ctr:=⟨[none,none,none],Rs,ZHs,ZGz,false,.d⟩
theorem ZvI (i1 i2 i3 i4 r5:Rs)(a:Int) :
  funK T G0 (Zja Zys) noL .d false [none,none,none] (Zfa Tryz.f175) [.agg [.fs i1,.fs i2,.fs i3,.fs i4],.fs r5,.int .i64 a]=Z4i  i1 i2 i3 i4 r5 a (fun a0=>some (ZGz a0)):=by kernel_rfl
theorem Z9F {ps:Cs} {y:Rs} (h:ZHs ps=some y):∃ (i1:Rs) (i2:Rs) (i3:Rs) (i4:Rs) (r5:Rs) (a:Int),ps=[.agg [.fs i1,.fs i2,.fs i3,.fs i4],.fs r5,.int .i64 a]:=by
 unfold ZHs at h
 split at h
 ·exact ⟨_,_,_,_,_,_,rfl⟩
 ·cases h
theorem ZhF {R:Type} (i1 i2 i3 i4 r5:Rs)(a:Int)(k:Rs→Option R):Z4i i1 i2 i3 i4 r5 a k=Option.bind (Z4i i1 i2 i3 i4 r5 a fun a0=>some a0) fun y=>k y:=by
 unfold Z4i
 first | rfl | simp only [Option.bind_assoc,Zya,Zxa,Option.bind_some,Option.bind_none]
theorem ZlC (hΓ:Zga Tryz.prog G0 Zys):Zka Tryz.prog G0 175 Zrm:=by
 refine ZIa mixed tOk (Zna hΓ) Tryz.func175 rfl rfl rfl rfl (F:=Zfa Tryz.f175) (fun ps x h=>?_)
 obtain ⟨y,hy,hx⟩:=Zba h
 cases hx
 obtain ⟨i1,i2,i3,i4,r5,a,rfl⟩:=Z9F hy
 have hy':ZKd i1 i2 i3 i4 r5 a=some y:=hy
 refine ⟨noL,ZKa _,(ZvI i1 i2 i3 i4 r5 a).trans ?_⟩
 unfold ZKd at hy'
 rw [ZhF,hy']
 rfl
def ZJm {R:Type} (i1 i2 i3 i4 p5 p6 p7 p8 p9 a:Rs)(b d e f g i j l o q:Int)(k:Rs→Rs→Rs→Int→Option R):Option R :=
 Option.bind (Zid i1 i2 i3 i4 f) fun t =>
 cond (!t) (
  k [] [] [] 4) (
  Option.bind (Z3b p5 p6 p7 p8 p9 a b f) fun u =>
  cond (u.1 ==(-1:Int)) (
   k [] [] [] 9) (
   Option.bind (idx p5 u.1) fun v =>
   if v.length=1 then
    Option.bind (v[0]?) fun z =>
    Option.bind (PV.asFs z) fun A =>
    Option.bind (ZKd i1 i2 i3 i4 A f) fun B =>
    Option.bind (ZAd p5 p6 p7 p8 p9 a b u.1 B) fun C =>
    Option.bind (ZFg i1 i2 i3 i4 p5 p6 p7 p8 p9 a b d [[.int .i64 C.1,.fs C.2.1,.fs C.2.2]]) fun D =>
    k D.1 D.2.1 D.2.2.1 D.2.2.2
   else none))
def Z5E (y:Rs × Rs × Rs × Int):PV × Cs:=((PV.tuple [.agg [.fs y.1,.fs y.2.1,.fs y.2.2.1],.int .i64 y.2.2.2]),[])
def Zjr (i1 i2 i3 i4 p5 p6 p7 p8 p9 a:Rs)(b d e f g i j l o q:Int):Option (Rs × Rs × Rs × Int):=ZJm i1 i2 i3 i4 p5 p6 p7 p8 p9 a b d e f g i j l o q fun a0 a1 a2 a3=>some (a0,a1,a2,a3)
def ZBw:Cs→Option (Rs × Rs × Rs × Int)
 | [.agg [.fs i1,.fs i2,.fs i3,.fs i4],.agg [.fs p5,.fs p6,.fs p7,.fs p8,.fs p9,.fs a,.int .i64 b],.int .i64 d,.agg [.int .i64 e,.int .i64 f,.int .i64 g,.int .i64 i,.int .i64 j,.int .i64 l,.int .i64 o,.int .i64 q]]=>Zjr i1 i2 i3 i4 p5 p6 p7 p8 p9 a b d e f g i j l o q
 | _=>none
def ZCw:List (Nat × Cal):=[(169,.ctr Zxf),(108,.ctr ZHe),(175,.ctr Zrm),(174,.ctr ZVk),(173,.ctr ZTg),(1000000004,ro_I),(1000000005,ro_I),(1000000007,ro_I)]
def ZAw:Ctr:=⟨[none,none,none,none],Rs × Rs × Rs × Int,ZBw,Z5E,false,.d⟩
theorem ZAK (i1 i2 i3 i4 p5 p6 p7 p8 p9 a:Rs)(b d e f g i j l o q:Int) :
  funK T G0 (Zja ZCw) noL .d false [none,none,none,none] (Zfa Tryz.f111) [.agg [.fs i1,.fs i2,.fs i3,.fs i4],.agg [.fs p5,.fs p6,.fs p7,.fs p8,.fs p9,.fs a,.int .i64 b],.int .i64 d,.agg [.int .i64 e,.int .i64 f,.int .i64 g,.int .i64 i,.int .i64 j,.int .i64 l,.int .i64 o,.int .i64 q]]=ZJm  i1 i2 i3 i4 p5 p6 p7 p8 p9 a b d e f g i j l o q (fun a0 a1 a2 a3=>some (Z5E (a0,a1,a2,a3))):=by kernel_rfl
theorem ZiJ {ps:Cs} {y:Rs × Rs × Rs × Int} (h:ZBw ps=some y):∃ (i1:Rs) (i2:Rs) (i3:Rs) (i4:Rs) (p5:Rs) (p6:Rs) (p7:Rs) (p8:Rs) (p9:Rs) (a:Rs) (b:Int) (d:Int) (e:Int) (f:Int) (g:Int) (i:Int) (j:Int) (l:Int) (o:Int) (q:Int),ps=[.agg [.fs i1,.fs i2,.fs i3,.fs i4],.agg [.fs p5,.fs p6,.fs p7,.fs p8,.fs p9,.fs a,.int .i64 b],.int .i64 d,.agg [.int .i64 e,.int .i64 f,.int .i64 g,.int .i64 i,.int .i64 j,.int .i64 l,.int .i64 o,.int .i64 q]]:=by
 unfold ZBw at h
 split at h
 ·exact ⟨_,_,_,_,_,_,_,_,_,_,_,_,_,_,_,_,_,_,_,_,rfl⟩
 ·cases h
theorem ZPI {R:Type} (i1 i2 i3 i4 p5 p6 p7 p8 p9 a:Rs)(b d e f g i j l o q:Int)(k:Rs→Rs→Rs→Int→Option R):ZJm i1 i2 i3 i4 p5 p6 p7 p8 p9 a b d e f g i j l o q k=Option.bind (ZJm i1 i2 i3 i4 p5 p6 p7 p8 p9 a b d e f g i j l o q fun a0 a1 a2 a3=>some (a0,a1,a2,a3)) fun y=>k y.1 y.2.1 y.2.2.1 y.2.2.2:=by
 unfold ZJm
 first | rfl | simp only [Option.bind_assoc,Zya,Zxa,Option.bind_some,Option.bind_none]
theorem ZaG (hΓ:Zga Tryz.prog G0 ZCw):Zka Tryz.prog G0 111 ZAw:=by
 refine ZIa mixed tOk (Zna hΓ) Tryz.func111 rfl rfl rfl rfl (F:=Zfa Tryz.f111) (fun ps x h=>?_)
 obtain ⟨y,hy,hx⟩:=Zba h
 cases hx
 obtain ⟨i1,i2,i3,i4,p5,p6,p7,p8,p9,a,b,d,e,f,g,i,j,l,o,q,rfl⟩:=ZiJ hy
 have hy':Zjr i1 i2 i3 i4 p5 p6 p7 p8 p9 a b d e f g i j l o q=some y:=hy
 refine ⟨noL,ZKa _,(ZAK i1 i2 i3 i4 p5 p6 p7 p8 p9 a b d e f g i j l o q).trans ?_⟩
 unfold Zjr at hy'
 rw [ZPI,hy']
 rfl
def ZIh {R:Type} (d1 d2 d3:Rs)(k:Bool→Option R):Option R :=
 Option.bind (Zmb d1 d2 d3) fun y4 =>
 k ((IntKind.i64.wrap ((IntKind.i64.wrap ((y4.1.length:Int) + (y4.2.1.length:Int))) + (y4.2.2.length:Int))) ==(0:Int))
def ZLx (y:Bool):PV × Cs:=((PV.bool y),[])
def ZUh (d1 d2 d3:Rs):Option (Bool):=ZIh d1 d2 d3 fun a0=>some a0
def Zvq:Cs→Option (Bool)
 | [.agg [.fs d1,.fs d2,.fs d3]]=>ZUh d1 d2 d3
 | _=>none
def Zcq:List (Nat × Cal):=[(46,.ctr Z0c),(1000000001,ro_I)]
def ZRp:Ctr:=⟨[none],Bool,Zvq,ZLx,true,.d⟩
theorem ZRF (d1 d2 d3:Rs) :
  funK T G0 (Zja Zcq) noL .d true [none] (Zfa Tryz.f80) [.agg [.fs d1,.fs d2,.fs d3]]=ZIh  d1 d2 d3 (fun a0=>some (ZLx a0)):=by kernel_rfl
theorem ZoE {ps:Cs} {y:Bool} (h:Zvq ps=some y):∃ (d1:Rs) (d2:Rs) (d3:Rs),ps=[.agg [.fs d1,.fs d2,.fs d3]]:=by
 unfold Zvq at h
 split at h
 ·exact ⟨_,_,_,rfl⟩
 ·cases h
theorem ZAE {R:Type} (d1 d2 d3:Rs)(k:Bool→Option R):ZIh d1 d2 d3 k=Option.bind (ZIh d1 d2 d3 fun a0=>some a0) fun y=>k y:=by
 unfold ZIh
 first | rfl | simp only [Option.bind_assoc,Zya,Zxa,Option.bind_some,Option.bind_none]
theorem ZGA (hΓ:Zga Tryz.prog G0 Zcq):Zka Tryz.prog G0 80 ZRp:=by
 refine ZIa mixed tOk (Zna hΓ) Tryz.func80 rfl rfl rfl rfl (F:=Zfa Tryz.f80) (fun ps x h=>?_)
 obtain ⟨y,hy,hx⟩:=Zba h
 cases hx
 obtain ⟨d1,d2,d3,rfl⟩:=ZoE hy
 have hy':ZUh d1 d2 d3=some y:=hy
 refine ⟨noL,ZKa _,(ZRF d1 d2 d3).trans ?_⟩
 unfold ZUh at hy'
 rw [ZAE,hy']
 rfl
def Zkj {R:Type} (a:Int)(b d:Cs)(e:Rs)(k0:Int→Option R)(k1:Int→Rs→Rs→Rs→Option R):Option R :=
 Option.bind (ZUh e [] []) fun f =>
 cond f (
  k0 10) (
  Option.bind (Zra b 0 4) fun g =>
  Option.bind (Zra d 0 7) fun i =>
  Option.bind (ZCg [g,i,.int .i64 a,.fs e]) fun j =>
  k1 j.2.2.2 j.1 j.2.1 j.2.2.1)
def Zbn {R:Type} (i1 i2 i3 i4 p5 p6 p7 p8 p9 a:Rs)(b d e f g i j l o q:Int)(k:Rs→Rs→Rs→Int→Option R):Option R :=
 Option.bind (Zid i1 i2 i3 i4 f) fun t =>
 cond (!t) (
  k [] [] [] 4) (
  Option.bind (Z0b i1 i2 i3 i4 g) fun u =>
  cond (!u) (
   k [] [] [] 5) (
   Option.bind (ZUd p5 p6 p7 p8 p9 a b f) fun v =>
   cond (!v) (
    k [] [] [] 9) (
    Option.bind (Zzf i1 i2 i3 i4 e f g i j l o q) fun z =>
    cond (!z) (
     k [] [] [] 7) (
     Option.bind (Z3b p5 p6 p7 p8 p9 a b f) fun A =>
     Option.bind (idx p5 g) fun B =>
     if B.length=1 then
      Option.bind (B[0]?) fun C =>
      Option.bind (PV.asFs C) fun D =>
      Option.bind (ZKd i1 i2 i3 i4 D f) fun E =>
      Option.bind (ZQf i1 i2 i3 i4 E e f g i j l o q) fun F =>
      cond (!F.2) (
       k [] [] [] 6) (
       Option.bind (ZAd p5 p6 p7 p8 p9 a b g F.1) fun G =>
       cond (A.1 != g) (
        Option.bind (idx p5 A.1) fun H =>
        if H.length=1 then
         Option.bind (H[0]?) fun I =>
         Option.bind (PV.asFs I) fun J =>
         Option.bind (ZKd i1 i2 i3 i4 J f) fun K =>
         Option.bind (ZAd p5 p6 p7 p8 p9 a b A.1 K) fun L =>
         Zkj d [.fs i1,.fs i2,.fs i3,.fs i4] [.fs p5,.fs p6,.fs p7,.fs p8,.fs p9,.fs a,.int .i64 b] [[.int .i64 G.1,.fs G.2.1,.fs G.2.2],[.int .i64 L.1,.fs L.2.1,.fs L.2.2]]
          (fun (M:Int) =>
           k [] [] [] M)
          (fun (N:Int)(O Q U:Rs) =>
           k O Q U N)
        else none) (
        Zkj d [.fs i1,.fs i2,.fs i3,.fs i4] [.fs p5,.fs p6,.fs p7,.fs p8,.fs p9,.fs a,.int .i64 b] [[.int .i64 G.1,.fs G.2.1,.fs G.2.2]]
         (fun (V:Int) =>
          k [] [] [] V)
         (fun (W:Int)(X Y Z:Rs) =>
          k X Y Z W)))
     else none))))
def ZpD (y:Rs × Rs × Rs × Int):PV × Cs:=((PV.tuple [.agg [.fs y.1,.fs y.2.1,.fs y.2.2.1],.int .i64 y.2.2.2]),[])
def Zzl (a:Int)(b d:Cs)(e:Rs):Option ((Int) ⊕ (Int × Rs × Rs × Rs)) :=
 Option.bind (ZUh e [] []) fun f =>
 cond f (
  some (Sum.inl 10)) (
  Option.bind (Zra b 0 4) fun g =>
  Option.bind (Zra d 0 7) fun i =>
  Option.bind (ZCg [g,i,.int .i64 a,.fs e]) fun j =>
  some (Sum.inr (j.2.2.2,j.1,j.2.1,j.2.2.1)))
theorem Zdw {R:Type} (a:Int)(b d:Cs)(e:Rs)(k0:Int→Option R)(k1:Int→Rs→Rs→Rs→Option R):Tw (Zzl a b d e) (Zkj a b d e k0 k1) (fun s=>match s with | (Sum.inl a0)=>k0 a0 | (Sum.inr (a0,a1,a2,a3))=>k1 a0 a1 a2 a3):=by
 unfold Zzl Zkj
 refine Zaa fun f _=>?_
 refine Zha (fun _=>?_) (fun _=>?_)
 ·exact Zda rfl
 ·refine Zaa fun g _=>?_
  refine Zaa fun i _=>?_
  refine Zaa fun j _=>?_
  exact Zda rfl
def ZMj (i1 i2 i3 i4 p5 p6 p7 p8 p9 a:Rs)(b d e f g i j l o q:Int):Option (Rs × Rs × Rs × Int) :=
 Option.bind (Zid i1 i2 i3 i4 f) fun t =>
 cond (!t) (
  some ([],[],[],4)) (
  Option.bind (Z0b i1 i2 i3 i4 g) fun u =>
  cond (!u) (
   some ([],[],[],5)) (
   Option.bind (ZUd p5 p6 p7 p8 p9 a b f) fun v =>
   cond (!v) (
    some ([],[],[],9)) (
    Option.bind (Zzf i1 i2 i3 i4 e f g i j l o q) fun z =>
    cond (!z) (
     some ([],[],[],7)) (
     Option.bind (Z3b p5 p6 p7 p8 p9 a b f) fun A =>
     Option.bind (idx p5 g) fun B =>
     if B.length=1 then
      Option.bind (B[0]?) fun C =>
      Option.bind (PV.asFs C) fun D =>
      Option.bind (ZKd i1 i2 i3 i4 D f) fun E =>
      Option.bind (ZQf i1 i2 i3 i4 E e f g i j l o q) fun F =>
      cond (!F.2) (
       some ([],[],[],6)) (
       Option.bind (ZAd p5 p6 p7 p8 p9 a b g F.1) fun G =>
       cond (A.1 != g) (
        Option.bind (idx p5 A.1) fun H =>
        if H.length=1 then
         Option.bind (H[0]?) fun I =>
         Option.bind (PV.asFs I) fun J =>
         Option.bind (ZKd i1 i2 i3 i4 J f) fun K =>
         Option.bind (ZAd p5 p6 p7 p8 p9 a b A.1 K) fun L =>
         Option.bind (Zzl d [.fs i1,.fs i2,.fs i3,.fs i4] [.fs p5,.fs p6,.fs p7,.fs p8,.fs p9,.fs a,.int .i64 b] [[.int .i64 G.1,.fs G.2.1,.fs G.2.2],[.int .i64 L.1,.fs L.2.1,.fs L.2.2]]) fun s=>match s with
          | (Sum.inl M) =>
           some ([],[],[],M)
          | (Sum.inr (N,O,Q,U)) =>
           some (O,Q,U,N)
        else none) (
        Option.bind (Zzl d [.fs i1,.fs i2,.fs i3,.fs i4] [.fs p5,.fs p6,.fs p7,.fs p8,.fs p9,.fs a,.int .i64 b] [[.int .i64 G.1,.fs G.2.1,.fs G.2.2]]) fun s=>match s with
         | (Sum.inl V) =>
          some ([],[],[],V)
         | (Sum.inr (W,X,Y,Z)) =>
          some (X,Y,Z,W)))
     else none))))
theorem ZXJ {R:Type} (i1 i2 i3 i4 p5 p6 p7 p8 p9 a:Rs)(b d e f g i j l o q:Int)(k:Rs→Rs→Rs→Int→Option R):Tw (ZMj i1 i2 i3 i4 p5 p6 p7 p8 p9 a b d e f g i j l o q) (Zbn  i1 i2 i3 i4 p5 p6 p7 p8 p9 a b d e f g i j l o q k) (fun s=>match s with | (a0,a1,a2,a3)=>k a0 a1 a2 a3):=by
 unfold ZMj Zbn
 refine Zaa fun t _=>?_
 refine Zha (fun _=>?_) (fun _=>?_)
 ·exact Zda rfl
 ·refine Zaa fun u _=>?_
  refine Zha (fun _=>?_) (fun _=>?_)
  ·exact Zda rfl
  ·refine Zaa fun v _=>?_
   refine Zha (fun _=>?_) (fun _=>?_)
   ·exact Zda rfl
   ·refine Zaa fun z _=>?_
    refine Zha (fun _=>?_) (fun _=>?_)
    ·exact Zda rfl
    ·refine Zaa fun A _=>?_
     refine Zaa fun B _=>?_
     refine Zqa fun _=>?_
     refine Zaa fun C _=>?_
     refine Zaa fun D _=>?_
     refine Zaa fun E _=>?_
     refine Zaa fun F _=>?_
     refine Zha (fun _=>?_) (fun _=>?_)
     ·exact Zda rfl
     ·refine Zaa fun G _=>?_
      refine Zha (fun _=>?_) (fun _=>?_)
      ·refine Zaa fun H _=>?_
       refine Zqa fun _=>?_
       refine Zaa fun I _=>?_
       refine Zaa fun J _=>?_
       refine Zaa fun K _=>?_
       refine Zaa fun L _=>?_
       refine Zma (Zdw _ _ _ _ _ _) (fun s=>?_)
       rcases s with M | ⟨N,O,Q,U⟩
       ·exact Zda rfl
       ·exact Zda rfl
      ·refine Zma (Zdw _ _ _ _ _ _) (fun s=>?_)
       rcases s with V | ⟨W,X,Y,Z⟩
       ·exact Zda rfl
       ·exact Zda rfl
theorem ZWJ:∀ (i1 i2 i3 i4 p5 p6 p7 p8 p9 a:Rs)(b d e f g i j l o q:Int)(y:Rs × Rs × Rs × Int),ZMj i1 i2 i3 i4 p5 p6 p7 p8 p9 a b d e f g i j l o q=some y→∀ (R:Type)(k:Rs→Rs→Rs→Int→Option R),Zbn  i1 i2 i3 i4 p5 p6 p7 p8 p9 a b d e f g i j l o q k=k y.1 y.2.1 y.2.2.1 y.2.2.2:=fun i1 i2 i3 i4 p5 p6 p7 p8 p9 a b d e f g i j l o q y h=>fun R k=>ZXJ i1 i2 i3 i4 p5 p6 p7 p8 p9 a b d e f g i j l o q k y h
def ZRw:Cs→Option (Rs × Rs × Rs × Int)
 | [.agg [.fs i1,.fs i2,.fs i3,.fs i4],.agg [.fs p5,.fs p6,.fs p7,.fs p8,.fs p9,.fs a,.int .i64 b],.int .i64 d,.agg [.int .i64 e,.int .i64 f,.int .i64 g,.int .i64 i,.int .i64 j,.int .i64 l,.int .i64 o,.int .i64 q]]=>ZMj i1 i2 i3 i4 p5 p6 p7 p8 p9 a b d e f g i j l o q
 | _=>none
def Zmr:List (Nat × Cal):=[(169,.ctr Zxf),(40,.ctr ZTe),(170,.ctr ZCi),(171,.ctr Zxl),(108,.ctr ZHe),(175,.ctr Zrm),(172,.ctr Z5q),(174,.ctr ZVk),(80,.ctr ZRp),(173,.ctr ZTg),(1000000004,ro_I),(1000000005,ro_I),(1000000007,ro_I)]
def Zjw:Ctr:=⟨[none,none,none,none],Rs × Rs × Rs × Int,ZRw,ZpD,false,.d⟩
def Zgj:List (Nat × LC):=[(4000017,⟨[2,4,5,8,14],[],[],[],[4,5]⟩),
 (6000017,⟨[8,9],[],[],[],[]⟩)]
def Z8p:SP:=⟨Zea .undef [(2,(.val (.int .i64))),(4,(.val (.rp 0))),(5,(.val (.rp 0))),(8,(.ref 0 0)),(14,(.ow 1))] 0 104,[(.box [(.nil 3),(.nil 3),(.nil 3)]),(.row 3)],[]⟩
def ZZz:Nat→Option SP
 | _=>none
def Zhx:Nat→Option SP
 | 17=>some Z8p
 | _=>none
def Zrn (n:Nat)(ls:List Leaf)(R:Type)(k:Ex→St→Option R):Option R :=
 match ls with
 | [.int a,.cells b,.cells d,.rows e]=>Zkj a b d e (fun f=>k .ret ⟨Zea .undef [(8,(TV.ref 0 0)),(9,(TV.val (PV.int .i64 f)))] 0 104,[(Ob.box [(TV.nil 3),(TV.nil 3),(TV.nil 3)])],[]⟩)
   (fun g i j l=>k .ret ⟨Zea .undef [(8,(TV.ref 0 0)),(9,(TV.val (PV.int .i64 g)))] 0 104,[(Ob.pbox (PV.agg [.fs i,.fs j,.fs l]) 3)],[]⟩)
 | _=>none
def ZrD (n key:Nat) (ls:List Leaf) (R:Type) (k:Ex→St→Option R):Option R :=
 match key with
 | _=>none
def ZzD (n key:Nat) (ls:List Leaf) (R:Type) (k:Ex→St→Option R):Option R :=
 match key with
 | 17=>Zrn n ls R k
 | _=>none
def Zmu:Code→Bool:=onKeys [17]
def ZrE:Nat→Loops:=patL (Zsa Zgj) ZZz ZrD (ZCa Zgj) Zmu Zhx ZzD
theorem ZZC (n:Nat)(a:Int)(b d:Cs)(e:Rs)  (R:Type) (k:Ex→St→Option R) :
  Z0a T G0 (Zja Zmr) (ZCa Zgj) (ZrE n) (Zia [1,1,1,1,1,1,1] (Zca Tryz.f112)) (Zoa Z8p [.int a,.cells b,.cells d,.rows e]) R k=Zrn n [.int a,.cells b,.cells d,.rows e] R k:=by kernel_rfl
theorem ZpK (i1 i2 i3 i4 p5 p6 p7 p8 p9 a:Rs)(b d e f g i j l o q:Int) :
  funK T G0 (Zja Zmr) (ZrE 0) .d false [none,none,none,none] (Zfa Tryz.f112) [.agg [.fs i1,.fs i2,.fs i3,.fs i4],.agg [.fs p5,.fs p6,.fs p7,.fs p8,.fs p9,.fs a,.int .i64 b],.int .i64 d,.agg [.int .i64 e,.int .i64 f,.int .i64 g,.int .i64 i,.int .i64 j,.int .i64 l,.int .i64 o,.int .i64 q]]=Zbn  i1 i2 i3 i4 p5 p6 p7 p8 p9 a b d e f g i j l o q (fun a0 a1 a2 a3=>some (ZpD (a0,a1,a2,a3))):=by kernel_rfl
theorem ZVI {ps:Cs} {y:Rs × Rs × Rs × Int} (h:ZRw ps=some y):∃ (i1:Rs) (i2:Rs) (i3:Rs) (i4:Rs) (p5:Rs) (p6:Rs) (p7:Rs) (p8:Rs) (p9:Rs) (a:Rs) (b:Int) (d:Int) (e:Int) (f:Int) (g:Int) (i:Int) (j:Int) (l:Int) (o:Int) (q:Int),ps=[.agg [.fs i1,.fs i2,.fs i3,.fs i4],.agg [.fs p5,.fs p6,.fs p7,.fs p8,.fs p9,.fs a,.int .i64 b],.int .i64 d,.agg [.int .i64 e,.int .i64 f,.int .i64 g,.int .i64 i,.int .i64 j,.int .i64 l,.int .i64 o,.int .i64 q]]:=by
 unfold ZRw at h
 split at h
 ·exact ⟨_,_,_,_,_,_,_,_,_,_,_,_,_,_,_,_,_,_,_,_,rfl⟩
 ·cases h
theorem Zev:Zpa (Zca Tryz.f112)=[]:=by kernel_rfl
theorem ZnF:(ZAa (Zca Tryz.f112)).filter Zmu=[Zia [1,1,1,1,1,1,1] (Zca Tryz.f112)]:=by kernel_rfl
theorem ZJF (hΓ:Zga Tryz.prog G0 Zmr) (hok:∀ (i1 i2 i3 i4 p5 p6 p7 p8 p9 a:Rs)(b d e f g i j l o q:Int)(y:Rs × Rs × Rs × Int),ZMj i1 i2 i3 i4 p5 p6 p7 p8 p9 a b d e f g i j l o q=some y→∀ (R:Type)(k:Rs→Rs→Rs→Int→Option R),Zbn  i1 i2 i3 i4 p5 p6 p7 p8 p9 a b d e f g i j l o q k=k y.1 y.2.1 y.2.2.1 y.2.2.2):Zka Tryz.prog G0 112 Zjw:=by
 refine ZHa mixed tOk (Zna hΓ) Tryz.func112 rfl rfl rfl rfl (F:=Zfa Tryz.f112) (ZBa Zgj) (pat:=ZZz) (L:=ZrD) (ZFa Zgj) (on:=Zmu) (patj:=Zhx) (J:=ZzD) (fun c hc ls R k=>?_) (fun c hc p hp m ls R k r h=>?_) (fun c hc p hp m ls R k r h=>?_) (fun ps x h=>?_)
 ·rw [show (Zfa Tryz.f112).code=Zca Tryz.f112 from rfl,Zev] at hc
  cases hc
 ·rw [show (Zfa Tryz.f112).code=Zca Tryz.f112 from rfl,Zev] at hc
  cases hc
 ·rw [show (Zfa Tryz.f112).code=Zca Tryz.f112 from rfl,ZnF] at hc
  simp only [List.mem_cons,List.not_mem_nil,or_false] at hc
  rcases hc with rfl
  ·obtain rfl:Z8p=p:=Option.some.inj hp
   change Zrn m ls R k=some r at h
   have h':=h
   unfold Zrn at h'
   split at h'
   ·exact (ZZC m _ _ _ _ R k).trans h
   ·cases h'
 ·obtain ⟨y,hy,hx⟩:=Zba h
  cases hx
  obtain ⟨i1,i2,i3,i4,p5,p6,p7,p8,p9,a,b,d,e,f,g,i,j,l,o,q,rfl⟩:=ZVI hy
  exact ⟨0,(ZpK i1 i2 i3 i4 p5 p6 p7 p8 p9 a b d e f g i j l o q).trans (hok i1 i2 i3 i4 p5 p6 p7 p8 p9 a b d e f g i j l o q y hy _ _)⟩
def Zuk {R:Type} (i1 i2 i3 i4 p5 p6 p7 p8 p9 a:Rs)(b d e f g i j l o q t:Int)(k:Rs→Rs→Rs→Int→Option R):Option R :=
 Option.bind (Zid i1 i2 i3 i4 g) fun u =>
 cond (!u) (
  k [] [] [] 4) (
  Option.bind (idx p6 g) fun v =>
  if v.length=1 then
   Option.bind (v[0]?) fun z =>
   Option.bind (PV.asI .i64 z) fun A =>
   cond (A != d) (
    k [] [] [] 12) (
    Option.bind (Zmb [] [[.int .i64 g,.int .i64 d,.int .i64 e]] []) fun B =>
    k B.1 B.2.1 B.2.2 0)
  else none)
def ZuB (y:Rs × Rs × Rs × Int):PV × Cs:=((PV.tuple [.agg [.fs y.1,.fs y.2.1,.fs y.2.2.1],.int .i64 y.2.2.2]),[])
def Zyk (i1 i2 i3 i4 p5 p6 p7 p8 p9 a:Rs)(b d e f g i j l o q t:Int):Option (Rs × Rs × Rs × Int):=Zuk i1 i2 i3 i4 p5 p6 p7 p8 p9 a b d e f g i j l o q t fun a0 a1 a2 a3=>some (a0,a1,a2,a3)
def ZTu:Cs→Option (Rs × Rs × Rs × Int)
 | [.agg [.fs i1,.fs i2,.fs i3,.fs i4],.agg [.fs p5,.fs p6,.fs p7,.fs p8,.fs p9,.fs a,.int .i64 b],.int .i64 d,.int .i64 e,.agg [.int .i64 f,.int .i64 g,.int .i64 i,.int .i64 j,.int .i64 l,.int .i64 o,.int .i64 q,.int .i64 t]]=>Zyk i1 i2 i3 i4 p5 p6 p7 p8 p9 a b d e f g i j l o q t
 | _=>none
def Z6u:List (Nat × Cal):=[(169,.ctr Zxf),(46,.ctr Z0c),(1000000005,ro_I),(1000000006,ro_I),(1000000009,ro_I)]
def Zau:Ctr:=⟨[none,none,none,none,none],Rs × Rs × Rs × Int,ZTu,ZuB,false,.d⟩
theorem ZEJ (i1 i2 i3 i4 p5 p6 p7 p8 p9 a:Rs)(b d e f g i j l o q t:Int) :
  funK T G0 (Zja Z6u) noL .d false [none,none,none,none,none] (Zfa Tryz.f113) [.agg [.fs i1,.fs i2,.fs i3,.fs i4],.agg [.fs p5,.fs p6,.fs p7,.fs p8,.fs p9,.fs a,.int .i64 b],.int .i64 d,.int .i64 e,.agg [.int .i64 f,.int .i64 g,.int .i64 i,.int .i64 j,.int .i64 l,.int .i64 o,.int .i64 q,.int .i64 t]]=Zuk  i1 i2 i3 i4 p5 p6 p7 p8 p9 a b d e f g i j l o q t (fun a0 a1 a2 a3=>some (ZuB (a0,a1,a2,a3))):=by kernel_rfl
theorem Z5G {ps:Cs} {y:Rs × Rs × Rs × Int} (h:ZTu ps=some y):∃ (i1:Rs) (i2:Rs) (i3:Rs) (i4:Rs) (p5:Rs) (p6:Rs) (p7:Rs) (p8:Rs) (p9:Rs) (a:Rs) (b:Int) (d:Int) (e:Int) (f:Int) (g:Int) (i:Int) (j:Int) (l:Int) (o:Int) (q:Int) (t:Int),ps=[.agg [.fs i1,.fs i2,.fs i3,.fs i4],.agg [.fs p5,.fs p6,.fs p7,.fs p8,.fs p9,.fs a,.int .i64 b],.int .i64 d,.int .i64 e,.agg [.int .i64 f,.int .i64 g,.int .i64 i,.int .i64 j,.int .i64 l,.int .i64 o,.int .i64 q,.int .i64 t]]:=by
 unfold ZTu at h
 split at h
 ·exact ⟨_,_,_,_,_,_,_,_,_,_,_,_,_,_,_,_,_,_,_,_,_,rfl⟩
 ·cases h
theorem ZuH {R:Type} (i1 i2 i3 i4 p5 p6 p7 p8 p9 a:Rs)(b d e f g i j l o q t:Int)(k:Rs→Rs→Rs→Int→Option R):Zuk i1 i2 i3 i4 p5 p6 p7 p8 p9 a b d e f g i j l o q t k=Option.bind (Zuk i1 i2 i3 i4 p5 p6 p7 p8 p9 a b d e f g i j l o q t fun a0 a1 a2 a3=>some (a0,a1,a2,a3)) fun y=>k y.1 y.2.1 y.2.2.1 y.2.2.2:=by
 unfold Zuk
 first | rfl | simp only [Option.bind_assoc,Zya,Zxa,Option.bind_some,Option.bind_none]
theorem ZlD (hΓ:Zga Tryz.prog G0 Z6u):Zka Tryz.prog G0 113 Zau:=by
 refine ZIa mixed tOk (Zna hΓ) Tryz.func113 rfl rfl rfl rfl (F:=Zfa Tryz.f113) (fun ps x h=>?_)
 obtain ⟨y,hy,hx⟩:=Zba h
 cases hx
 obtain ⟨i1,i2,i3,i4,p5,p6,p7,p8,p9,a,b,d,e,f,g,i,j,l,o,q,t,rfl⟩:=Z5G hy
 have hy':Zyk i1 i2 i3 i4 p5 p6 p7 p8 p9 a b d e f g i j l o q t=some y:=hy
 refine ⟨noL,ZKa _,(ZEJ i1 i2 i3 i4 p5 p6 p7 p8 p9 a b d e f g i j l o q t).trans ?_⟩
 unfold Zyk at hy'
 rw [ZuH,hy']
 rfl
def ZOh {R:Type} (i1 i2 i3 i4 p5 p6 p7 p8 p9 a:Rs)(b d e f g i j l o q t:Int)(k:Rs→Rs→Rs→Int→Option R):Option R :=
 Option.bind (Z0b i1 i2 i3 i4 i) fun u =>
 cond (!u) (
  k [] [] [] 5) (
  Option.bind (idx p7 i) fun v =>
  if v.length=1 then
   Option.bind (v[0]?) fun z =>
   Option.bind (PV.asI .i64 z) fun A =>
   cond (A != d) (
    k [] [] [] 11) (
    Option.bind (Zmb [] [] [[.int .i64 i,.int .i64 d,.int .i64 e]]) fun B =>
    k B.1 B.2.1 B.2.2 0)
  else none)
def Zmx (y:Rs × Rs × Rs × Int):PV × Cs:=((PV.tuple [.agg [.fs y.1,.fs y.2.1,.fs y.2.2.1],.int .i64 y.2.2.2]),[])
def ZAh (i1 i2 i3 i4 p5 p6 p7 p8 p9 a:Rs)(b d e f g i j l o q t:Int):Option (Rs × Rs × Rs × Int):=ZOh i1 i2 i3 i4 p5 p6 p7 p8 p9 a b d e f g i j l o q t fun a0 a1 a2 a3=>some (a0,a1,a2,a3)
def ZYp:Cs→Option (Rs × Rs × Rs × Int)
 | [.agg [.fs i1,.fs i2,.fs i3,.fs i4],.agg [.fs p5,.fs p6,.fs p7,.fs p8,.fs p9,.fs a,.int .i64 b],.int .i64 d,.int .i64 e,.agg [.int .i64 f,.int .i64 g,.int .i64 i,.int .i64 j,.int .i64 l,.int .i64 o,.int .i64 q,.int .i64 t]]=>ZAh i1 i2 i3 i4 p5 p6 p7 p8 p9 a b d e f g i j l o q t
 | _=>none
def ZLp:List (Nat × Cal):=[(40,.ctr ZTe),(46,.ctr Z0c),(1000000005,ro_I),(1000000006,ro_I),(1000000009,ro_I)]
def ZJp:Ctr:=⟨[none,none,none,none,none],Rs × Rs × Rs × Int,ZYp,Zmx,false,.d⟩
theorem ZiF (i1 i2 i3 i4 p5 p6 p7 p8 p9 a:Rs)(b d e f g i j l o q t:Int) :
  funK T G0 (Zja ZLp) noL .d false [none,none,none,none,none] (Zfa Tryz.f114) [.agg [.fs i1,.fs i2,.fs i3,.fs i4],.agg [.fs p5,.fs p6,.fs p7,.fs p8,.fs p9,.fs a,.int .i64 b],.int .i64 d,.int .i64 e,.agg [.int .i64 f,.int .i64 g,.int .i64 i,.int .i64 j,.int .i64 l,.int .i64 o,.int .i64 q,.int .i64 t]]=ZOh  i1 i2 i3 i4 p5 p6 p7 p8 p9 a b d e f g i j l o q t (fun a0 a1 a2 a3=>some (Zmx (a0,a1,a2,a3))):=by kernel_rfl
theorem ZTE {ps:Cs} {y:Rs × Rs × Rs × Int} (h:ZYp ps=some y):∃ (i1:Rs) (i2:Rs) (i3:Rs) (i4:Rs) (p5:Rs) (p6:Rs) (p7:Rs) (p8:Rs) (p9:Rs) (a:Rs) (b:Int) (d:Int) (e:Int) (f:Int) (g:Int) (i:Int) (j:Int) (l:Int) (o:Int) (q:Int) (t:Int),ps=[.agg [.fs i1,.fs i2,.fs i3,.fs i4],.agg [.fs p5,.fs p6,.fs p7,.fs p8,.fs p9,.fs a,.int .i64 b],.int .i64 d,.int .i64 e,.agg [.int .i64 f,.int .i64 g,.int .i64 i,.int .i64 j,.int .i64 l,.int .i64 o,.int .i64 q,.int .i64 t]]:=by
 unfold ZYp at h
 split at h
 ·exact ⟨_,_,_,_,_,_,_,_,_,_,_,_,_,_,_,_,_,_,_,_,_,rfl⟩
 ·cases h
theorem ZgE {R:Type} (i1 i2 i3 i4 p5 p6 p7 p8 p9 a:Rs)(b d e f g i j l o q t:Int)(k:Rs→Rs→Rs→Int→Option R):ZOh i1 i2 i3 i4 p5 p6 p7 p8 p9 a b d e f g i j l o q t k=Option.bind (ZOh i1 i2 i3 i4 p5 p6 p7 p8 p9 a b d e f g i j l o q t fun a0 a1 a2 a3=>some (a0,a1,a2,a3)) fun y=>k y.1 y.2.1 y.2.2.1 y.2.2.2:=by
 unfold ZOh
 first | rfl | simp only [Option.bind_assoc,Zya,Zxa,Option.bind_some,Option.bind_none]
theorem ZrA (hΓ:Zga Tryz.prog G0 ZLp):Zka Tryz.prog G0 114 ZJp:=by
 refine ZIa mixed tOk (Zna hΓ) Tryz.func114 rfl rfl rfl rfl (F:=Zfa Tryz.f114) (fun ps x h=>?_)
 obtain ⟨y,hy,hx⟩:=Zba h
 cases hx
 obtain ⟨i1,i2,i3,i4,p5,p6,p7,p8,p9,a,b,d,e,f,g,i,j,l,o,q,t,rfl⟩:=ZTE hy
 have hy':ZAh i1 i2 i3 i4 p5 p6 p7 p8 p9 a b d e f g i j l o q t=some y:=hy
 refine ⟨noL,ZKa _,(ZiF i1 i2 i3 i4 p5 p6 p7 p8 p9 a b d e f g i j l o q t).trans ?_⟩
 unfold ZAh at hy'
 rw [ZgE,hy']
 rfl
def Zzk {R:Type} (i1 i2 i3 i4 p5 p6 p7 p8 p9 a:Rs)(b d e f g i j l o q:Int)(k:Rs→Rs→Rs→Int→Option R):Option R :=
 cond (e ==(1:Int)) (
  Option.bind (Zhr i1 i2 i3 i4 p5 p6 p7 p8 p9 a b d e f g i j l o q) fun t =>
  k t.1 t.2.1 t.2.2.1 t.2.2.2) (
  cond (e ==(2:Int)) (
   Option.bind (Zjr i1 i2 i3 i4 p5 p6 p7 p8 p9 a b d e f g i j l o q) fun u =>
   k u.1 u.2.1 u.2.2.1 u.2.2.2) (
   cond (e ==(3:Int)) (
    Option.bind (ZMj i1 i2 i3 i4 p5 p6 p7 p8 p9 a b d e f g i j l o q) fun v =>
    k v.1 v.2.1 v.2.2.1 v.2.2.2) (
    cond (e ==(4:Int)) (
     Option.bind (Zyk i1 i2 i3 i4 p5 p6 p7 p8 p9 a b (-1) d e f g i j l o q) fun z =>
     k z.1 z.2.1 z.2.2.1 z.2.2.2) (
     cond (e ==(5:Int)) (
      Option.bind (Zyk i1 i2 i3 i4 p5 p6 p7 p8 p9 a b d (-1) e f g i j l o q) fun A =>
      k A.1 A.2.1 A.2.2.1 A.2.2.2) (
      cond (e ==(6:Int)) (
       Option.bind (ZAh i1 i2 i3 i4 p5 p6 p7 p8 p9 a b (-1) d e f g i j l o q) fun B =>
       k B.1 B.2.1 B.2.2.1 B.2.2.2) (
       cond (e ==(7:Int)) (
        Option.bind (ZAh i1 i2 i3 i4 p5 p6 p7 p8 p9 a b d (-1) e f g i j l o q) fun C =>
        k C.1 C.2.1 C.2.2.1 C.2.2.2) (
        k [] [] [] 1)))))))
def ZTB (y:Rs × Rs × Rs × Int):PV × Cs:=((PV.tuple [.agg [.fs y.1,.fs y.2.1,.fs y.2.2.1],.int .i64 y.2.2.2]),[])
def Z4k (i1 i2 i3 i4 p5 p6 p7 p8 p9 a:Rs)(b d e f g i j l o q:Int):Option (Rs × Rs × Rs × Int):=Zzk i1 i2 i3 i4 p5 p6 p7 p8 p9 a b d e f g i j l o q fun a0 a1 a2 a3=>some (a0,a1,a2,a3)
def ZJu:Cs→Option (Rs × Rs × Rs × Int)
 | [.agg [.fs i1,.fs i2,.fs i3,.fs i4],.agg [.fs p5,.fs p6,.fs p7,.fs p8,.fs p9,.fs a,.int .i64 b],.int .i64 d,.agg [.int .i64 e,.int .i64 f,.int .i64 g,.int .i64 i,.int .i64 j,.int .i64 l,.int .i64 o,.int .i64 q]]=>Z4k i1 i2 i3 i4 p5 p6 p7 p8 p9 a b d e f g i j l o q
 | _=>none
def ZKu:List (Nat × Cal):=[(110,.ctr ZMw),(111,.ctr ZAw),(112,.ctr Zjw),(113,.ctr Zau),(114,.ctr ZJp),(1000000004,ro_I),(1000000005,ro_I),(1000000007,ro_I)]
def Z0u:Ctr:=⟨[none,none,none,none],Rs × Rs × Rs × Int,ZJu,ZTB,false,.d⟩
theorem ZBI (i1 i2 i3 i4 p5 p6 p7 p8 p9 a:Rs)(b d e f g i j l o q:Int) :
  funK T G0 (Zja ZKu) noL .d false [none,none,none,none] (Zfa Tryz.f45) [.agg [.fs i1,.fs i2,.fs i3,.fs i4],.agg [.fs p5,.fs p6,.fs p7,.fs p8,.fs p9,.fs a,.int .i64 b],.int .i64 d,.agg [.int .i64 e,.int .i64 f,.int .i64 g,.int .i64 i,.int .i64 j,.int .i64 l,.int .i64 o,.int .i64 q]]=Zzk  i1 i2 i3 i4 p5 p6 p7 p8 p9 a b d e f g i j l o q (fun a0 a1 a2 a3=>some (ZTB (a0,a1,a2,a3))):=by kernel_rfl
theorem ZGH {ps:Cs} {y:Rs × Rs × Rs × Int} (h:ZJu ps=some y):∃ (i1:Rs) (i2:Rs) (i3:Rs) (i4:Rs) (p5:Rs) (p6:Rs) (p7:Rs) (p8:Rs) (p9:Rs) (a:Rs) (b:Int) (d:Int) (e:Int) (f:Int) (g:Int) (i:Int) (j:Int) (l:Int) (o:Int) (q:Int),ps=[.agg [.fs i1,.fs i2,.fs i3,.fs i4],.agg [.fs p5,.fs p6,.fs p7,.fs p8,.fs p9,.fs a,.int .i64 b],.int .i64 d,.agg [.int .i64 e,.int .i64 f,.int .i64 g,.int .i64 i,.int .i64 j,.int .i64 l,.int .i64 o,.int .i64 q]]:=by
 unfold ZJu at h
 split at h
 ·exact ⟨_,_,_,_,_,_,_,_,_,_,_,_,_,_,_,_,_,_,_,_,rfl⟩
 ·cases h
theorem Z5H {R:Type} (i1 i2 i3 i4 p5 p6 p7 p8 p9 a:Rs)(b d e f g i j l o q:Int)(k:Rs→Rs→Rs→Int→Option R):Zzk i1 i2 i3 i4 p5 p6 p7 p8 p9 a b d e f g i j l o q k=Option.bind (Zzk i1 i2 i3 i4 p5 p6 p7 p8 p9 a b d e f g i j l o q fun a0 a1 a2 a3=>some (a0,a1,a2,a3)) fun y=>k y.1 y.2.1 y.2.2.1 y.2.2.2:=by
 unfold Zzk
 first | rfl | simp only [Option.bind_assoc,Zya,Zxa,Option.bind_some,Option.bind_none]
theorem Z7D (hΓ:Zga Tryz.prog G0 ZKu):Zka Tryz.prog G0 45 Z0u:=by
 refine ZIa mixed tOk (Zna hΓ) Tryz.func45 rfl rfl rfl rfl (F:=Zfa Tryz.f45) (fun ps x h=>?_)
 obtain ⟨y,hy,hx⟩:=Zba h
 cases hx
 obtain ⟨i1,i2,i3,i4,p5,p6,p7,p8,p9,a,b,d,e,f,g,i,j,l,o,q,rfl⟩:=ZGH hy
 have hy':Z4k i1 i2 i3 i4 p5 p6 p7 p8 p9 a b d e f g i j l o q=some y:=hy
 refine ⟨noL,ZKa _,(ZBI i1 i2 i3 i4 p5 p6 p7 p8 p9 a b d e f g i j l o q).trans ?_⟩
 unfold Z4k at hy'
 rw [Z5H,hy']
 rfl
end
end Go.Proofs.YtgpjfmihogaooaaGreatDoorV
